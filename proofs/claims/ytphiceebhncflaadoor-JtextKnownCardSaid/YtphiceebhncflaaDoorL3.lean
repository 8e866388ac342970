/- JtextKnown: the walk. Printed by gen_l3.py. -/
import Derived.Test.YtphiceebhncflaaDoorJ11
import Derived.Test.YtphiceebhncflaaDoorL1
namespace Go.Proofs.Jt
open Go.RowKit Go.Proofs Go.Lib Go.Proofs.Utf

def badL : List ByteArray := [⟨#[49, 46]⟩, ⟨#[45]⟩, ⟨#[116, 114, 117]⟩, ⟨#[34, 97]⟩, ⟨#[34, 92, 117, 100, 56, 48, 48, 34]⟩, ⟨#[34, 92, 117, 100, 101, 48, 48, 92, 117, 100, 56, 51, 100, 34]⟩, ⟨#[34, 92, 117, 100, 56, 51, 100, 92, 117, 100, 56, 51, 100, 34]⟩, ⟨#[34, 92, 120, 34]⟩, ⟨#[34, 9, 34]⟩, ⟨#[34, 92, 117, 49, 50, 34]⟩, ⟨#[116, 114, 117, 101, 102, 97, 108, 115, 101]⟩, ⟨#[78, 117, 108, 108]⟩, ⟨#[43, 49]⟩, ⟨#[34, 92]⟩]
def placeL : List Nat := [1, 0, 0, 0, 0, 0, 0, 0, 0, 0, 0, 0, 0, 0]
theorem bad_toks : ∀ k : Fin 14, toksL (badL.getD k.val ⟨#[]⟩).data.toList = ([], placeL.getD k.val 0, 4) := by decide +kernel
theorem bad_size : ∀ k : Fin 14, (badL.getD k.val ⟨#[]⟩).size ≤ 16777216 := by decide +kernel
theorem bad_cells : #[Value.string ⟨#[49, 46]⟩, Value.string ⟨#[45]⟩, Value.string ⟨#[116, 114, 117]⟩, Value.string ⟨#[34, 97]⟩, Value.string ⟨#[34, 92, 117, 100, 56, 48, 48, 34]⟩, Value.string ⟨#[34, 92, 117, 100, 101, 48, 48, 92, 117, 100, 56, 51, 100, 34]⟩, Value.string ⟨#[34, 92, 117, 100, 56, 51, 100, 92, 117, 100, 56, 51, 100, 34]⟩, Value.string ⟨#[34, 92, 120, 34]⟩, Value.string ⟨#[34, 9, 34]⟩, Value.string ⟨#[34, 92, 117, 49, 50, 34]⟩, Value.string ⟨#[116, 114, 117, 101, 102, 97, 108, 115, 101]⟩, Value.string ⟨#[78, 117, 108, 108]⟩, Value.string ⟨#[43, 49]⟩, Value.string ⟨#[34, 92]⟩] = ((badL.map Value.string).toArray : Array Value) := rfl
theorem place_cells : #[Value.int .i64 1, Value.int .i64 0, Value.int .i64 0, Value.int .i64 0, Value.int .i64 0, Value.int .i64 0, Value.int .i64 0, Value.int .i64 0, Value.int .i64 0, Value.int .i64 0, Value.int .i64 0, Value.int .i64 0, Value.int .i64 0, Value.int .i64 0] = ((placeL.map fun n : Nat => Value.int .i64 n).toArray : Array Value) := rfl
def aB : ByteArray := ⟨#[34, 92, 117, 48, 48, 101, 57, 92, 117, 100, 56, 51, 100, 92, 117, 100, 101, 48, 48, 34]⟩
def aT : List Tok := [⟨4, [195, 169, 240, 159, 152, 128], 0, 20⟩]
theorem a_toks : toksL aB.data.toList = (aT, 0, 0) := by decide +kernel
def bB : ByteArray := ⟨#[48, 49]⟩
def bT : List Tok := [⟨3, [48], 0, 1⟩, ⟨3, [49], 1, 2⟩]
theorem b_toks : toksL bB.data.toList = (bT, 0, 0) := by decide +kernel
def zB : ByteArray := ⟨#[91, 255]⟩
def zT : List Tok := []
theorem z_toks : toksL zB.data.toList = (zT, 1, 8) := by decide +kernel
def dB : ByteArray := ⟨#[32, 9, 13, 10]⟩
def dT : List Tok := []
theorem d_toks : toksL dB.data.toList = (dT, 0, 0) := by decide +kernel
def fB : ByteArray := ⟨#[49, 101, 53, 45, 50, 69, 43, 48, 55, 32, 48, 46, 53, 48]⟩
def fT : List Tok := [⟨3, [49, 101, 53], 0, 3⟩, ⟨3, [45, 50, 69, 43, 48, 55], 3, 9⟩, ⟨3, [48, 46, 53, 48], 10, 14⟩]
theorem f_toks : toksL fB.data.toList = (fT, 0, 0) := by decide +kernel
theorem q1_quote : quoteL [97, 10, 1, 34] = [34, 97, 92, 110, 92, 117, 48, 48, 48, 49, 92, 34, 34] := by decide +kernel
theorem q1_valid : validD [97, 10, 1, 34] = true := by decide +kernel
theorem q2_valid : validD [237, 160, 128] = false := by decide +kernel
set_option maxRecDepth 100000 in
set_option maxHeartbeats 1000000 in
theorem known_walk (w : World) (hT : Tabs w) : Calls Tryd.prog 7 #[] w fun e w' => e = .returned (.bool true) ∧ Below w.heap.size w w' := by
  have ha := fun w hT => tokens_any aB w hT (by decide)
  rw [a_toks] at ha
  unfold aB at ha
  have na : aT.length = 1 := rfl
  have a0 : aT[0]? = some ⟨4, [195, 169, 240, 159, 152, 128], 0, 20⟩ := rfl
  generalize aT = Ta at *
  have hb := fun w hT => tokens_any bB w hT (by decide)
  rw [b_toks] at hb
  unfold bB at hb
  have nb : bT.length = 2 := rfl
  have b0 : bT[0]? = some ⟨3, [48], 0, 1⟩ := rfl
  have b1 : bT[1]? = some ⟨3, [49], 1, 2⟩ := rfl
  generalize bT = Tb at *
  have hz := fun w hT => tokens_any zB w hT (by decide)
  rw [z_toks] at hz
  unfold zB at hz
  have nz : zT.length = 0 := rfl
  generalize zT = Tz at *
  have hd := fun w hT => tokens_any dB w hT (by decide)
  rw [d_toks] at hd
  unfold dB at hd
  have nd : dT.length = 0 := rfl
  generalize dT = Td at *
  have hf := fun w hT => tokens_any fB w hT (by decide)
  rw [f_toks] at hf
  unfold fB at hf
  have nf : fT.length = 3 := rfl
  have f0 : fT[0]? = some ⟨3, [49, 101, 53], 0, 3⟩ := rfl
  have f1 : fT[1]? = some ⟨3, [45, 50, 69, 43, 48, 55], 3, 9⟩ := rfl
  have f2 : fT[2]? = some ⟨3, [48, 46, 53, 48], 10, 14⟩ := rfl
  generalize fT = Tf at *
  have hq1 := fun w hT => quote_walk ⟨#[97, 10, 1, 34]⟩ w hT (by decide) q1_valid
  have hq2 := fun w hT => quote_broken ⟨#[237, 160, 128]⟩ w hT (by decide) q2_valid
  rw [show quoteL (ByteArray.mk #[97, 10, 1, 34]).data.toList = _ from q1_quote] at hq1
  go_enter Tryd.func7, Tryd.ntmps7
  go_wp2_with (first
    | (go_at_call_of 14 (Value.string ⟨#[34, 92, 117, 48, 48, 101, 57, 92, 117, 100, 56, 51, 100, 92, 117, 100, 101, 48, 48, 34]⟩); refine (ha _ hT).mono ?_; rintro e w1 ⟨v, rfl, ho1, hb1⟩
       obtain ⟨ga, ca, rfl, hca, hcell⟩ := toks_at ho1 (show 0 < Ta.length by omega)
       obtain ⟨p0, p1, p2, p3, pl⟩ := hcell 0 _ a0
       clear hcell
       simp only [na] at hca)
    | (go_at_call_of 14 (Value.string ⟨#[48, 49]⟩); refine (hb _ (hT.below hb1)).mono ?_; rintro e w2 ⟨v, rfl, ho2, hb2⟩
       obtain ⟨gb, cb, rfl, hcb, hcell⟩ := toks_at ho2 (show 0 < Tb.length by omega)
       obtain ⟨q0, q1, q2, q3, ql⟩ := hcell 0 _ b0
       obtain ⟨r0, r1, r2, r3, rl⟩ := hcell 1 _ b1
       clear hcell
       simp only [nb] at hcb
       have hz1 := hb1.size
       replace p0 := (hb2.cell (p := ⟨ga, 0 * 4, none⟩) pl).trans p0
       replace p1 := (hb2.cell (p := ⟨ga, 0 * 4 + 1, none⟩) pl).trans p1
       replace p3 := (hb2.cell (p := ⟨ga, 0 * 4 + 3, none⟩) pl).trans p3
       have d2 := hb1.trans (hb2.mono hz1)
       clear p2 q2 q3 r2 r3))
  have x7 : (w2.alloc (.cells #[Value.string ⟨#[49, 46]⟩, Value.string ⟨#[45]⟩, Value.string ⟨#[116, 114, 117]⟩, Value.string ⟨#[34, 97]⟩, Value.string ⟨#[34, 92, 117, 100, 56, 48, 48, 34]⟩, Value.string ⟨#[34, 92, 117, 100, 101, 48, 48, 92, 117, 100, 56, 51, 100, 34]⟩, Value.string ⟨#[34, 92, 117, 100, 56, 51, 100, 92, 117, 100, 56, 51, 100, 34]⟩, Value.string ⟨#[34, 92, 120, 34]⟩, Value.string ⟨#[34, 9, 34]⟩, Value.string ⟨#[34, 92, 117, 49, 50, 34]⟩, Value.string ⟨#[116, 114, 117, 101, 102, 97, 108, 115, 101]⟩, Value.string ⟨#[78, 117, 108, 108]⟩, Value.string ⟨#[43, 49]⟩, Value.string ⟨#[34, 92]⟩] 9)).heap[w2.heap.size]? = some (.cells #[Value.string ⟨#[49, 46]⟩, Value.string ⟨#[45]⟩, Value.string ⟨#[116, 114, 117]⟩, Value.string ⟨#[34, 97]⟩, Value.string ⟨#[34, 92, 117, 100, 56, 48, 48, 34]⟩, Value.string ⟨#[34, 92, 117, 100, 101, 48, 48, 92, 117, 100, 56, 51, 100, 34]⟩, Value.string ⟨#[34, 92, 117, 100, 56, 51, 100, 92, 117, 100, 56, 51, 100, 34]⟩, Value.string ⟨#[34, 92, 120, 34]⟩, Value.string ⟨#[34, 9, 34]⟩, Value.string ⟨#[34, 92, 117, 49, 50, 34]⟩, Value.string ⟨#[116, 114, 117, 101, 102, 97, 108, 115, 101]⟩, Value.string ⟨#[78, 117, 108, 108]⟩, Value.string ⟨#[43, 49]⟩, Value.string ⟨#[34, 92]⟩] 9 (0, 0)) := Array.getElem?_push_size
  have hsz : (w2.alloc (.cells #[Value.string ⟨#[49, 46]⟩, Value.string ⟨#[45]⟩, Value.string ⟨#[116, 114, 117]⟩, Value.string ⟨#[34, 97]⟩, Value.string ⟨#[34, 92, 117, 100, 56, 48, 48, 34]⟩, Value.string ⟨#[34, 92, 117, 100, 101, 48, 48, 92, 117, 100, 56, 51, 100, 34]⟩, Value.string ⟨#[34, 92, 117, 100, 56, 51, 100, 92, 117, 100, 56, 51, 100, 34]⟩, Value.string ⟨#[34, 92, 120, 34]⟩, Value.string ⟨#[34, 9, 34]⟩, Value.string ⟨#[34, 92, 117, 49, 50, 34]⟩, Value.string ⟨#[116, 114, 117, 101, 102, 97, 108, 115, 101]⟩, Value.string ⟨#[78, 117, 108, 108]⟩, Value.string ⟨#[43, 49]⟩, Value.string ⟨#[34, 92]⟩] 9)).heap.size = w2.heap.size + 1 := by simp
  have d3 : Below w.heap.size w (w2.alloc (.cells #[Value.string ⟨#[49, 46]⟩, Value.string ⟨#[45]⟩, Value.string ⟨#[116, 114, 117]⟩, Value.string ⟨#[34, 97]⟩, Value.string ⟨#[34, 92, 117, 100, 56, 48, 48, 34]⟩, Value.string ⟨#[34, 92, 117, 100, 101, 48, 48, 92, 117, 100, 56, 51, 100, 34]⟩, Value.string ⟨#[34, 92, 117, 100, 56, 51, 100, 92, 117, 100, 56, 51, 100, 34]⟩, Value.string ⟨#[34, 92, 120, 34]⟩, Value.string ⟨#[34, 9, 34]⟩, Value.string ⟨#[34, 92, 117, 49, 50, 34]⟩, Value.string ⟨#[116, 114, 117, 101, 102, 97, 108, 115, 101]⟩, Value.string ⟨#[78, 117, 108, 108]⟩, Value.string ⟨#[43, 49]⟩, Value.string ⟨#[34, 92]⟩] 9)) := d2.alloc d2.size _
  generalize w2.alloc (.cells #[Value.string ⟨#[49, 46]⟩, Value.string ⟨#[45]⟩, Value.string ⟨#[116, 114, 117]⟩, Value.string ⟨#[34, 97]⟩, Value.string ⟨#[34, 92, 117, 100, 56, 48, 48, 34]⟩, Value.string ⟨#[34, 92, 117, 100, 101, 48, 48, 92, 117, 100, 56, 51, 100, 34]⟩, Value.string ⟨#[34, 92, 117, 100, 56, 51, 100, 92, 117, 100, 56, 51, 100, 34]⟩, Value.string ⟨#[34, 92, 120, 34]⟩, Value.string ⟨#[34, 9, 34]⟩, Value.string ⟨#[34, 92, 117, 49, 50, 34]⟩, Value.string ⟨#[116, 114, 117, 101, 102, 97, 108, 115, 101]⟩, Value.string ⟨#[78, 117, 108, 108]⟩, Value.string ⟨#[43, 49]⟩, Value.string ⟨#[34, 92]⟩] 9) = V at x7 d3 hsz ⊢
  have x8 : (V.alloc (.cells #[Value.int .i64 1, Value.int .i64 0, Value.int .i64 0, Value.int .i64 0, Value.int .i64 0, Value.int .i64 0, Value.int .i64 0, Value.int .i64 0, Value.int .i64 0, Value.int .i64 0, Value.int .i64 0, Value.int .i64 0, Value.int .i64 0, Value.int .i64 0] 3)).heap[w2.heap.size + 1]? = some (.cells #[Value.int .i64 1, Value.int .i64 0, Value.int .i64 0, Value.int .i64 0, Value.int .i64 0, Value.int .i64 0, Value.int .i64 0, Value.int .i64 0, Value.int .i64 0, Value.int .i64 0, Value.int .i64 0, Value.int .i64 0, Value.int .i64 0, Value.int .i64 0] 3 (0, 0)) := by rw [← hsz]; exact Array.getElem?_push_size
  have d4 : Below w.heap.size w (V.alloc (.cells #[Value.int .i64 1, Value.int .i64 0, Value.int .i64 0, Value.int .i64 0, Value.int .i64 0, Value.int .i64 0, Value.int .i64 0, Value.int .i64 0, Value.int .i64 0, Value.int .i64 0, Value.int .i64 0, Value.int .i64 0, Value.int .i64 0, Value.int .i64 0] 3)) := d3.alloc d3.size _
  have x7' : (V.alloc (.cells #[Value.int .i64 1, Value.int .i64 0, Value.int .i64 0, Value.int .i64 0, Value.int .i64 0, Value.int .i64 0, Value.int .i64 0, Value.int .i64 0, Value.int .i64 0, Value.int .i64 0, Value.int .i64 0, Value.int .i64 0, Value.int .i64 0, Value.int .i64 0] 3)).heap[w2.heap.size]? = some (.cells #[Value.string ⟨#[49, 46]⟩, Value.string ⟨#[45]⟩, Value.string ⟨#[116, 114, 117]⟩, Value.string ⟨#[34, 97]⟩, Value.string ⟨#[34, 92, 117, 100, 56, 48, 48, 34]⟩, Value.string ⟨#[34, 92, 117, 100, 101, 48, 48, 92, 117, 100, 56, 51, 100, 34]⟩, Value.string ⟨#[34, 92, 117, 100, 56, 51, 100, 92, 117, 100, 56, 51, 100, 34]⟩, Value.string ⟨#[34, 92, 120, 34]⟩, Value.string ⟨#[34, 9, 34]⟩, Value.string ⟨#[34, 92, 117, 49, 50, 34]⟩, Value.string ⟨#[116, 114, 117, 101, 102, 97, 108, 115, 101]⟩, Value.string ⟨#[78, 117, 108, 108]⟩, Value.string ⟨#[43, 49]⟩, Value.string ⟨#[34, 92]⟩] 9 (0, 0)) := by
    rw [← x7]; exact Array.getElem?_push_lt (by rw [hsz]; omega) |>.trans (Array.getElem?_eq_getElem _).symm
  generalize V.alloc (.cells #[Value.int .i64 1, Value.int .i64 0, Value.int .i64 0, Value.int .i64 0, Value.int .i64 0, Value.int .i64 0, Value.int .i64 0, Value.int .i64 0, Value.int .i64 0, Value.int .i64 0, Value.int .i64 0, Value.int .i64 0, Value.int .i64 0, Value.int .i64 0] 3) = W at x7' x8 d4 ⊢
  clear x7
  have hB : ∀ k, k < 14 → W.cell? ⟨w2.heap.size, k, none⟩ = some (.string (badL.getD k ⟨#[]⟩)) := by
    intro k hk
    rw [cell_of_row _ _ k _ _ _ x7', bad_cells]
    rw [List.getElem?_toArray, List.getElem?_map, List.getD_eq_getElem?_getD, List.getElem?_eq_getElem (show k < badL.length from hk)]
    rfl
  have hP : ∀ k, k < 14 → W.cell? ⟨w2.heap.size + 1, k, none⟩ = some (.int .i64 (placeL.getD k 0)) := by
    intro k hk
    rw [cell_of_row _ _ k _ _ _ x8, place_cells]
    rw [List.getElem?_toArray, List.getElem?_map, List.getD_eq_getElem?_getD, List.getElem?_eq_getElem (show k < placeL.length from hk)]
    rfl
  have hW1 : w2.heap.size < W.heap.size := (Array.getElem?_eq_some_iff.1 x7').1
  have hW2 : w2.heap.size + 1 < W.heap.size := (Array.getElem?_eq_some_iff.1 x8).1
  have hbt : ∀ k, k < 14 → ∀ w, Tabs w → Calls Tryd.prog 14 #[.string (badL.getD k ⟨#[]⟩)] w fun e w' => ∃ v, e = .returned (.tuple #[v, .int .i64 (placeL.getD k 0), .int .i64 4]) ∧ w'.ownsRow w.heap.size 32 4 v 0 [] ∧ Below w.heap.size w w' := by
    intro k hk w hT
    have := tokens_any (badL.getD k ⟨#[]⟩) w hT (bad_size ⟨k, hk⟩)
    rw [bad_toks ⟨k, hk⟩] at this
    exact this
  clear x7' x8
  generalize badL = BL at *
  generalize placeL = PL at *
  obtain ⟨S, hS⟩ : ∃ S : Nat → ByteArray, ∀ k, BL.getD k ⟨#[]⟩ = S k := ⟨_, fun _ => rfl⟩
  obtain ⟨N, hN⟩ : ∃ N : Nat → Nat, ∀ k, PL.getD k 0 = N k := ⟨_, fun _ => rfl⟩
  simp only [hS, hN] at hB hP hbt
  clear hS hN BL PL p0 p1 p3 pl q0 q1 ql r0 r1 rl ho1 ho2 hb1 hb2 d2 d3 hsz ha hb V hca hcb
  generalize w2.heap.size = B1 at *
  clear a0 b0 b1 na nb
  go_loopw [9] (fun i wr => ∃ k : Nat, i = .int .i64 k ∧ k ≤ 14 ∧ Below W.heap.size W wr) (fun i _ => 14 - (RowKit.intOf i).toNat)
  case atStart => exact ⟨0, rfl, by omega, Below.refl _ _⟩
  case round =>
    obtain ⟨k, rfl, hk, hBw⟩ := hrel
    by_cases hkn : (k : Int) < 14
    · have hk14 : k < 14 := by omega
      have c1 := (hBw.cell (p := ⟨B1, k, none⟩) hW1).trans (hB k hk14)
      have c2 := (hBw.cell (p := ⟨B1 + 1, k, none⟩) hW2).trans (hP k hk14)
      have hk9 := hbt k hk14 wr (hT.below (d4.trans (hBw.mono d4.size)))
      have k0 : (0 : Int) ≤ (k : Int) := by omega
      clear hB hP hbt
      go_wp2_with (first
        | (go_at_call 14; refine hk9.mono ?_; rintro e w5 ⟨v, rfl, ho5, hb5⟩
           obtain ⟨p5, c5, rfl⟩ := row_shape ho5
           have hz5 := hBw.size
           have c2' := (hb5.cell (p := ⟨B1 + 1, k, none⟩) (by show B1 + 1 < _; omega)).trans c2))
      exact ⟨⟨k + 1, by go_num, by omega, hBw.trans (hb5.mono hz5)⟩, by simp [RowKit.intOf]; omega⟩
    · clear hB hP hbt
      have hz4 := d4.size
      have d5 := d4.trans (hBw.mono hz4)
      go_wp2_with (first
        | (go_at_call_of 14 (Value.string ⟨#[91, 255]⟩); refine (hz _ (hT.below d5)).mono ?_; rintro e w6 ⟨v, rfl, ho6, hb6⟩
           obtain ⟨p6, cc6, rfl⟩ := row_shape ho6
           have d6 := d5.trans (hb6.mono d5.size))
        | (go_at_call_of 18 (Value.string ⟨#[97, 10, 1, 34]⟩); refine (hq1 _ (hT.below d6)).mono ?_; rintro e w7 ⟨rfl, hb7⟩
           have d7 := d6.trans (hb7.mono d6.size))
        | (go_at_call_of 18 (Value.string ⟨#[237, 160, 128]⟩); refine (hq2 _ (hT.below d7)).mono ?_; rintro e w8 ⟨rfl, hb8⟩
           have d8 := d7.trans (hb8.mono d7.size))
        | (go_at_call_of 14 (Value.string ⟨#[32, 9, 13, 10]⟩); refine (hd _ (hT.below d8)).mono ?_; rintro e w9 ⟨v, rfl, ho9, hb9⟩
           obtain ⟨p9, cc9, rfl⟩ := row_shape ho9
           have d9 := d8.trans (hb9.mono d8.size))
        | (go_at_call_of 14 (Value.string ⟨#[49, 101, 53, 45, 50, 69, 43, 48, 55, 32, 48, 46, 53, 48]⟩); refine (hf _ (hT.below d9)).mono ?_; rintro e w10 ⟨v, rfl, ho10, hb10⟩
           obtain ⟨gf, cf, rfl, hcf, hcell⟩ := toks_at ho10 (show 0 < Tf.length by omega)
           obtain ⟨p0, p1, p2, p3, pl⟩ := hcell 0 _ f0
           obtain ⟨q0, q1, q2, q3, ql⟩ := hcell 1 _ f1
           obtain ⟨r0, r1, r2, r3, rl⟩ := hcell 2 _ f2
           clear hcell p0 q0 r0
           simp only [nf] at hcf
           have d10 := d9.trans (hb10.mono d9.size))
        | (go_at_call 16; refine (awake_any _ (hT.below d10)).mono ?_; rintro e w11 ⟨rfl, hb11⟩))
      go_ret
      exact ⟨rfl, d10.trans (hb11.mono d10.size)⟩
end Go.Proofs.Jt
