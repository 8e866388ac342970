/- The laws' uri, cut, opened, is, works. -/
import Derived.Test.YtcenfckjkboabaaDoorD8
namespace Go.Proofs.Dc
open Go.RowKit Go.Proofs Go.Lib Go.Maps

def uriB : ByteArray := ⟨#[102, 105, 108, 101, 58, 47, 47, 47, 103, 101, 111, 47, 97, 46, 103, 111]⟩
def uriL : List UInt8 := [102, 105, 108, 101, 58, 47, 47, 47, 103, 101, 111, 47, 97, 46, 103, 111]
theorem uri_any (w : World) : Calls Tryd.prog 14 #[] w fun e w' => e = .returned (.string uriB) ∧ w = w' := by
  unfold uriB
  go_enter Tryd.func14, Tryd.ntmps14
  go_wp2
  go_ret
  exact ⟨rfl, rfl⟩
def chgVal (x : Chg) : Value := .agg #[.bool x.whole, .int .i64 x.a, .int .i64 x.b, .int .i64 x.c, .int .i64 x.d, .string x.text]
def cutC (f t : Int) (x : ByteArray) : Chg := ⟨false, 0, f, 0, t, x⟩
set_option maxRecDepth 100000 in
theorem lawcut_any (f t : Int) (x : ByteArray) (w : World) : Calls Tryd.prog 23 #[.int .i64 f, .int .i64 t, .string x] w fun e w' => e = .returned (.agg #[.bool false, .int .i64 0, .int .i64 f, .int .i64 0, .int .i64 t, .string x]) ∧ Below w.heap.size w w' := by
  go_enter Tryd.func23, Tryd.ntmps23
  go_wp2
  exact bodyPost_ret (v := .agg #[.bool false, .int .i64 0, .int .i64 f, .int .i64 0, .int .i64 t, .string x]) (by simp [results, Tryd.results23, go_sem]) rfl ⟨rfl, (Below.refl _ _).alloc (Nat.le_refl _) _⟩
def xyD : Doc := ⟨uriL, [120, 121], 5⟩
def wxzD : Doc := ⟨uriL, [119, 120, 122], 6⟩
theorem open0 : openE [] uriL [120, 121] = 0 := by decide +kernel
theorem open0L : openL [] uriL [120, 121] 5 = [xyD] := by decide +kernel
theorem open1 : openE [xyD] uriL [] = 6 := by decide +kernel
theorem open1L : openL [xyD] uriL [] 6 = [xyD] := by decide +kernel
theorem chg1 : chgE [xyD] uriL 6 [cutC 1 2 ⟨#[122]⟩, cutC 0 0 ⟨#[119]⟩] = 0 := by decide +kernel
theorem chg1L : chgL [xyD] uriL 6 [cutC 1 2 ⟨#[122]⟩, cutC 0 0 ⟨#[119]⟩] = [wxzD] := by decide +kernel
set_option maxRecDepth 100000 in
set_option maxHeartbeats 1000000 in
theorem opened_any (w : World) (hT : Tabs w) : Calls Tryd.prog 21 #[] w fun e w' => ∃ b M, e = .returned (.pointer (some ⟨b, 0, none⟩)) ∧ DV w' b M [xyD] ∧ Below w.heap.size w w' ∧ w.heap.size ≤ b ∧ w.heap.size ≤ M := by
  have ho := fun w1 b M h1 h2 h3 => open_any w1 h1 b M [] h2 h3 uriB ⟨#[120, 121]⟩ 5 (by decide) (by decide) (by decide)
  simp only [show uriB.data.toList = uriL from rfl, open0, open0L] at ho
  have hu := uri_any
  have hlo := hT.lo
  generalize uriB = X at ho hu
  go_enter Tryd.func21, Tryd.ntmps21
  go_wp2_with (first
    | (go_at_call 12; refine (new_any _).mono ?_; rintro e w1 ⟨b, M, rfl, hd1, hb1, hbb, hMM⟩)
    | (go_at_call 14; refine (hu _).mono ?_; rintro e w2 ⟨rfl, hw⟩; subst w2)
    | (go_at_call 13; refine (ho _ b M (hT.below hb1) hd1 (by omega)).mono ?_; rintro e w3 ⟨rfl, hd3, hg3⟩))
  go_ret
  exact ⟨b, M, rfl, hd3, hb1.trans (below_gb hMM hb1.size hg3), hbb, hMM⟩
end Go.Proofs.Dc
