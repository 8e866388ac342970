/- cmp.Compare at texts; the documents' order; slices.SortedFunc; All. -/
import Derived.Test.YtcenfckjkboabaaDoorD15
import Derived.Test.YtcenfckjkboabaaDoorShelf2
import Derived.WalkLawsBesides
import Derived.WalkSpells
namespace Go.Proofs.Dc
open Go.RowKit Go.Proofs Go.Lib Go.Maps Go.Shelf Go.Sort

theorem nan_any (x : ByteArray) (w : World) : Calls Tryd.prog 54 #[.string x] w fun e w' => e = .returned (.bool false) ∧ w = w' := by
  have h : (x.toList == x.toList) = true := by simp
  go_enter Tryd.func54, Tryd.ntmps54
  go_wp2
  go_ret
  exact ⟨rfl, rfl⟩
theorem less_before : ∀ a b : List UInt8, Op.bytesLess a b = bytesBefore a b
  | [], [] => rfl
  | [], _ :: _ => rfl
  | _ :: _, [] => rfl
  | a :: r, b :: s => by
    rw [Op.bytesLess, bytesBefore, less_before r s]
def cmpV (x y : List UInt8) : Int := if bytesBefore x y = true then -1 else if x = y then 0 else 1
theorem cmpV_lt (x y : List UInt8) : decide (cmpV x y < 0) = bytesBefore x y := by
  unfold cmpV
  cases bytesBefore x y with
  | true => rfl
  | false =>
    rw [if_neg (by decide)]
    split <;> rfl
theorem cmp_any (x y : ByteArray) (w : World) : Calls Tryd.prog 40 #[.string x, .string y] w fun e w' => e = .returned (.int .i64 (cmpV x.data.toList y.data.toList)) ∧ w = w' := by
  have hl := less_before x.toList y.toList
  rw [ByteArray.toList_eq, ByteArray.toList_eq] at hl
  have he : (x.toList == y.toList) = decide (x.data.toList = y.data.toList) := by
    rw [ByteArray.toList_eq, ByteArray.toList_eq]
    by_cases h : x.data.toList = y.data.toList
    · rw [decide_eq_true h, h]; simp
    · rw [decide_eq_false h]; simpa using h
  have hl2 : Op.bytesLess x.toList y.toList = bytesBefore x.data.toList y.data.toList := by rw [ByteArray.toList_eq, ByteArray.toList_eq]; exact hl
  clear hl
  obtain ⟨V, hV⟩ : ∃ V, cmpV x.data.toList y.data.toList = V := ⟨_, rfl⟩
  rw [hV]
  unfold cmpV at hV
  cases hb : bytesBefore x.data.toList y.data.toList with
  | true =>
    rw [hb] at hl2 hV
    rw [if_pos rfl] at hV
    subst hV
    clear he hb
    go_enter Tryd.func40, Tryd.ntmps40
    go_wp2_with (first | (go_at_call 54; refine (nan_any _ _).mono ?_; rintro e w' ⟨rfl, hw⟩; subst w'))
    go_ret
    exact ⟨rfl, rfl⟩
  | false =>
    rw [hb] at hl2 hV
    rw [if_neg (by decide)] at hV
    by_cases hxy : x.data.toList = y.data.toList
    · rw [decide_eq_true hxy] at he
      rw [if_pos hxy] at hV
      subst hV
      clear hxy hb
      go_enter Tryd.func40, Tryd.ntmps40
      go_wp2_with (first | (go_at_call 54; refine (nan_any _ _).mono ?_; rintro e w' ⟨rfl, hw⟩; subst w'))
      go_ret
      exact ⟨rfl, rfl⟩
    · rw [decide_eq_false hxy] at he
      rw [if_neg hxy] at hV
      subst hV
      clear hxy hb
      go_enter Tryd.func40, Tryd.ntmps40
      go_wp2_with (first | (go_at_call 54; refine (nan_any _ _).mono ?_; rintro e w' ⟨rfl, hw⟩; subst w'))
      go_ret
      exact ⟨rfl, rfl⟩
def cfD (x y : Doc) : Int := cmpV x.uri y.uri
theorem lt_cf (x y : Doc) : ltOf cfD x y = bytesBefore x.uri y.uri := cmpV_lt _ _
theorem swo_cf : SWO (ltOf cfD) := by
  refine ⟨fun x => ?_, fun x y z h1 h2 => ?_, fun x y z h1 h2 => ?_⟩
  · rw [lt_cf, bb_irrefl]
  · rw [lt_cf] at h1 h2 ⊢; exact bb_trans h1 h2
  · rw [lt_cf] at h1 h2 ⊢
    cases h : bytesBefore x.uri z.uri with
    | false => rfl
    | true =>
      cases hyx : bytesBefore y.uri x.uri with
      | true => have := bb_trans hyx h; rw [h2] at this; cases this
      | false => rw [bb_total h1 hyx, h2] at h; cases h
/-- the closure that All hands to SortedFunc -/
theorem all1_any (x y : Doc) (w : World) : Calls Tryd.prog 39 #[.agg (docCell x).toArray, .agg (docCell y).toArray] w fun e w' => e = .returned (.int .i64 (cfD x y)) ∧ w' = (w.alloc (.cells (docCell x).toArray 38)).alloc (.cells (docCell y).toArray 38) := by
  have hc := fun w => cmp_any ⟨x.uri.toArray⟩ ⟨y.uri.toArray⟩ w
  have e : ∀ l : List UInt8, (⟨l.toArray⟩ : ByteArray).data.toList = l := fun l => rfl
  simp only [] at hc
  unfold cfD
  generalize cmpV x.uri y.uri = V at *
  unfold docCell
  go_enter Tryd.func39, Tryd.ntmps39
  go_wp2_with (first | (go_at_call 40; refine (hc _).mono ?_; rintro e w' ⟨rfl, hw⟩; subst w'))
  go_ret
  exact ⟨rfl, rfl⟩
instance : Inhabited Doc := ⟨doc0⟩
theorem cmp_lays (blk off size : Nat) (w : World) : CmpLays Tryd.prog 39 #[] docCell 3 cfD blk off size w := fun m os dk _ x y =>
  (all1_any x y _).mono fun e w' ⟨h1, h2⟩ => ⟨h1, 0, #[.cells (docCell x).toArray 38, .cells (docCell y).toArray 38], by rw [h2]; rfl⟩
end Go.Proofs.Dc
