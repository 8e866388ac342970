/- DocsKnown's plain facts; the law's dir; texts of zeros. -/
import Derived.Test.YtcenfckjkboabaaDoorD18
import Derived.Test.YtcenfckjkboabaaDoorD19
import Derived.Test.YtcenfckjkboabaaDoorD10
import Derived.Laws.MakeOwn
import Derived.Laws.IdiomStrings
namespace Go.Proofs.Dc
open Go.RowKit Go.Proofs Go.Lib Go.Maps

def zerosB (n : Nat) : ByteArray := ⟨(List.replicate n (0 : UInt8)).toArray⟩
theorem zeros_list (n : Nat) : (zerosB n).data.toList = List.replicate n 0 := rfl
theorem zeros_size (n : Nat) : (zerosB n).size = n := by rw [Lib.size_eq, zeros_list, List.length_replicate]
theorem zeros_valid : ∀ n : Nat, validD (List.replicate n 0) = true
  | 0 => rfl
  | n + 1 => by
    have e : List.replicate (n + 1) (0 : UInt8) = [0] ++ List.replicate n 0 := rfl
    rw [e, valid_app _ _ (valid_ascii 0 (by decide))]
    exact zeros_valid n
open YtcenfckjkboabaaDoor in
theorem cut00 (s : ByteArray) : (cutP s 0 0 0 0).2.2 = 0 ∧ (cutP s 0 0 0 0).1 = (cutP s 0 0 0 0).2.1 := by
  have h : (offP s 0 0).2 = 0 := by
    unfold offP
    rw [if_neg (by omega)]
    split <;> rfl
  unfold cutP
  rw [h, if_neg (by omega)]
  exact ⟨rfl, rfl⟩
def w7D : Doc := ⟨uriL, [119, 120, 122], 7⟩
def bL : List UInt8 := [102, 105, 108, 101, 58, 47, 47, 47, 103, 101, 111, 47, 98]
def bgL : List UInt8 := [102, 105, 108, 101, 58, 47, 47, 47, 103, 101, 111, 47, 98, 46, 103, 111]
theorem k1 : openE [xyD] bL [] = 9 ∧ openL [xyD] bL [] 1 = [xyD] := by decide +kernel
theorem k2 : openE [xyD] bgL [255] = 8 ∧ openL [xyD] bgL [255] 1 = [xyD] := by decide +kernel
theorem k3 : openE [xyD] bgL (zerosB 65537).data.toList = 3 ∧ openL [xyD] bgL (zerosB 65537).data.toList 1 = [xyD] := by
  have h : openE [xyD] bgL (zerosB 65537).data.toList = 3 := by
    unfold openE
    rw [if_neg (show ¬ (dirV bgL).isSome = false by decide +kernel), if_neg (show ¬ (getD? [xyD] bgL).isSome = true by decide +kernel), if_neg (show ¬ 32 ≤ [xyD].length by decide)]
    unfold mayE
    rw [zeros_list, zeros_valid, if_neg (by decide), if_pos (by rw [List.length_replicate]; decide)]
  refine ⟨h, ?_⟩
  unfold openL
  rw [h]
  rfl
def badC : Chg := ⟨true, 0, 0, 0, 0, ⟨#[255]⟩⟩
def bigC : Chg := ⟨true, 0, 0, 0, 0, zerosB 65536⟩
theorem k4 : chgE [wxzD] uriL 6 [] = 18 ∧ chgL [wxzD] uriL 6 [] = [wxzD] := by decide +kernel
theorem k5 : chgE [wxzD] uriL 7 [cutC 1 0 ⟨#[]⟩] = 2 ∧ chgL [wxzD] uriL 7 [cutC 1 0 ⟨#[]⟩] = [wxzD] := by decide +kernel
theorem k6 : chgE [wxzD] uriL 7 [badC] = 8 ∧ chgL [wxzD] uriL 7 [badC] = [wxzD] := by decide +kernel
theorem k7 : chgE [wxzD] bgL 1 [] = 5 ∧ chgL [wxzD] bgL 1 [] = [wxzD] := by decide +kernel
theorem k8 : chgE [wxzD] uriL 7 [] = 0 ∧ chgL [wxzD] uriL 7 [] = [w7D] := by decide +kernel
theorem big_step (s : ByteArray) : stepV s bigC = (zerosB 65536, 0) := by
  have hp : bigC.places s = (0, (s.size : Int), 0) := rfl
  have ht : bigC.text = zerosB 65536 := rfl
  unfold stepV
  rw [hp, ht, zeros_list, zeros_valid, if_neg (by decide), if_neg (show ¬ ((0 : Int) ≠ 0) by decide), if_neg (by rw [zeros_size]; simp only; omega)]
  congr 1
  apply ByteArray.ext
  apply Array.toList_inj.1
  simp only [ByteArray.data_append, Array.toList_append, ext_list, Int.toNat_natCast, List.drop_zero, Nat.sub_self, List.take_zero, List.append_nil]
  rfl
theorem a_step : stepV (zerosB 65536) (cutC 0 0 ⟨#[97]⟩) = (⟨#[]⟩, 3) := by
  obtain ⟨Z, hZ⟩ : ∃ Z, zerosB 65536 = Z := ⟨_, rfl⟩
  have hs : Z.size = 65536 := by rw [← hZ]; exact zeros_size _
  rw [hZ]
  obtain ⟨h1, h2⟩ := cut00 Z
  have hp : (cutC 0 0 ⟨#[97]⟩).places Z = YtcenfckjkboabaaDoor.cutP Z 0 0 0 0 := rfl
  have hv : validD (cutC 0 0 ⟨#[97]⟩).text.data.toList = true := valid_ascii 97 (by decide)
  have ht : (cutC 0 0 ⟨#[97]⟩).text.size = 1 := rfl
  unfold stepV
  rw [hp, hv, h1, ht, hs, if_neg (by decide), if_neg (by decide), if_pos (by omega)]
theorem k9 : chgE [w7D] uriL 8 [bigC, cutC 0 0 ⟨#[97]⟩] = 3 ∧ chgL [w7D] uriL 8 [bigC, cutC 0 0 ⟨#[97]⟩] = [w7D] := by
  have hg : getD? [w7D] uriL = some w7D := by decide +kernel
  have ha : afterV (textB w7D) [bigC, cutC 0 0 ⟨#[97]⟩] = (⟨#[]⟩, 3) := by
    rw [afterV_cons_ok (big_step _), afterV_cons_err a_step (by decide)]
  unfold chgE chgL
  rw [hg]
  simp only
  rw [if_neg (show ¬ (8 : Int) ≤ w7D.ver by decide), if_neg (show ¬ (8 : Int) ≤ w7D.ver by decide), ha]
  exact ⟨rfl, rfl⟩
theorem k10 : closeE [w7D] uriL = 0 ∧ without uriL [w7D] = [] ∧ closeE [] uriL = 5 ∧ without uriL [] = [] := by decide +kernel
theorem g7 : getD? [w7D] uriL = some ⟨uriL, [119, 120, 122], 7⟩ := by decide +kernel
theorem d1 : dirV uriL = some [103, 101, 111] := by decide +kernel
theorem d2 : dirV [102, 105, 108, 101, 58, 47, 47, 47, 102, 111, 114, 47, 97, 46, 103, 111] = none := by decide +kernel
theorem d3 : dirV [102, 105, 108, 101, 58, 47, 47, 47, 103, 101, 111, 47, 97] = none := by decide +kernel
theorem d4 : dirV [102, 105, 108, 101, 58, 47, 47, 47, 103, 101, 111, 47, 95, 46, 103, 111] = none := by decide +kernel
theorem d5 : dirV [102, 105, 108, 101, 58, 47, 47, 103, 101, 111, 47, 97, 46, 103, 111] = none := by decide +kernel
theorem d6 : dirV [102, 105, 108, 101, 58, 47, 47, 47, 103, 101, 111, 47, 102, 111, 114, 46, 103, 111] = some [103, 101, 111] := by decide +kernel
set_option maxRecDepth 100000 in
theorem lawdir_any (s want : ByteArray) (ok : Bool) (w : World) (hT : Tabs w) (hs : s.size ≤ 1000000) (hv : dirVal (dirV s.data.toList) = .tuple #[.string want, .bool ok]) :
    Calls Tryd.prog 22 #[.string s, .string want, .bool ok] w fun e w' => e = .returned (.bool true) ∧ Below w.heap.size w w' := by
  have hd := dir_any s w hs hT.mx (fun w' hb => (hT.below hb).sp)
  rw [hv] at hd
  have h1 : (want.toList == want.toList) = true := by simp
  clear hv
  go_enter Tryd.func22, Tryd.ntmps22
  go_wp2_with (first | (go_at_call 8; refine hd.mono ?_; rintro e w1 ⟨rfl, hb⟩))
  go_ret
  exact ⟨by simp, hb⟩
theorem info5 : (Tryd.prog.info? 5).map (fun i => (i.zero, i.size, i.bytes)) = some (some (.int .u8 0), 1, 1) := by kernel_rfl
/-- so many zeros, made and read as a text, wherever they lie -/
theorem zeros_made' (n : Nat) (hn : n ≤ 1000000) : ∃ ob : Obj, (∀ w : World, (Instr.makeSlice 48 (.int .i64 (n : Int)) (.int .i64 (n : Int))).run Tryd.prog w = .ok (.slice (some ⟨w.heap.size, 0, none⟩) n n) (w.alloc ob)) ∧
    ∀ (w : World) (g : Nat), w.heap[g]? = some ob → (convert 48 9 (.slice (some ⟨g, 0, none⟩) n n)).run Tryd.prog w = .ok (.string (zerosB n)) w := by
  obtain ⟨i, hi, hz0, hz1, hz2⟩ : ∃ i, Tryd.prog.info? 5 = some i ∧ i.zero = some (.int .u8 0) ∧ i.size = 1 ∧ i.bytes = 1 := by
    cases e : Tryd.prog.info? 5 with
    | none => have := info5; simp [e] at this
    | some i => have := info5; simp [e] at this; exact ⟨i, rfl, this.1, this.2.1, this.2.2⟩
  refine ⟨.cells (madeCells (Value.int .u8 0).cells (n * 1)) 5, fun w => ?_, fun w g hg => ?_⟩
  · have h := run_make (P := Tryd.prog) w 48 5 i (.int .u8 0) Tryd.underlying48 hi hz0 .i64 .i64 (n : Int) (n : Int) (by omega) (by omega) (by rw [hz2]; omega) (by omega)
    rw [hz1] at h
    simpa using h
  · have h := run_convert_bytes_back (P := Tryd.prog) w 48 9 5 ⟨g, 0, none⟩ n (List.replicate n 0) (by kernel_rfl) (by kernel_rfl) (by kernel_rfl) fun j hj => ?_
    · rw [List.length_replicate] at h
      exact h
    · have e : (⟨g, 0, none⟩ : Addr).add j = ⟨g, j, none⟩ := by unfold Addr.add; split <;> simp_all
      rw [List.length_replicate] at hj
      rw [e, cell_of_row _ _ _ _ _ _ hg]
      have hc : (Value.int IntKind.u8 0).cells = #[.int .u8 0] := rfl
      simp [madeCells, hc, hj, Nat.mod_one]
theorem zeros_made (n : Nat) (hn : n ≤ 1000000) : ∃ ob : Obj, (∀ w : World, (Instr.makeSlice 48 (.int .i64 (n : Int)) (.int .i64 (n : Int))).run Tryd.prog w = .ok (.slice (some ⟨w.heap.size, 0, none⟩) n n) (w.alloc ob)) ∧
    ∀ w : World, (convert 48 9 (.slice (some ⟨w.heap.size, 0, none⟩) n n)).run Tryd.prog (w.alloc ob) = .ok (.string (zerosB n)) (w.alloc ob) := by
  obtain ⟨ob, h1, h2⟩ := zeros_made' n hn
  exact ⟨ob, h1, fun w => h2 _ _ (World.alloc_heap_new w _)⟩
end Go.Proofs.Dc
