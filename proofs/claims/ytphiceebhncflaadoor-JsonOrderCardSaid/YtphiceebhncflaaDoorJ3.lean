/- jtext's unit: four hex digits behind a u. -/
import Derived.Test.YtphiceebhncflaaDoorJ2
namespace Go.Proofs.Jt
open Go.RowKit Go.Proofs Go.Lib Go.Proofs.Utf

def hexI (r : Int) : Int := if 48 ≤ r ∧ r ≤ 57 then r - 48 else if 97 ≤ r ∧ r ≤ 102 then r - 87 else -1
def loopU : List (Nat × Nat) → Int → Int
  | [], n => n
  | x :: t, n => if hexI x.2 < 0 then -1 else loopU t (n * 16 + hexI x.2)
theorem hexI_small {r : Int} (h : 0 ≤ hexI r) : 48 ≤ r ∧ r ≤ 102 ∧ hexI r < 16 := by
  unfold hexI at *
  split at h
  · rename_i h1; rw [if_pos h1]; omega
  · split at h
    · rename_i h1 h2; rw [if_neg h1, if_pos h2]; omega
    · omega
theorem hexI_byte : ∀ c : UInt8, c.toNat < 128 → Lib.indexByte hexT.data.toList c = hexI c.toNat := forall_u8 (by decide +kernel)
theorem idx_low (r : Int) (w : World) (h0 : 0 ≤ r) (h1 : r < 128) : Calls Tryd.prog 93 #[.string hexT, .int .i32 r] w fun e w' => e = .returned (.int .i64 (hexI r)) ∧ w = w' := by
  refine (Tryd.strings_IndexRune_ascii hexT r w h0 h1).mono ?_
  rintro e w' ⟨rfl, rfl⟩
  have := hexI_byte r.toNat.toUInt8 (by simp; omega)
  rw [this]
  refine ⟨?_, rfl⟩
  have e : ((r.toNat.toUInt8.toNat : Nat) : Int) = r := by simp; omega
  rw [e]
theorem idx_pos (r : Int) (w : World) (h : 0 ≤ hexI r) : Calls Tryd.prog 93 #[.string hexT, .int .i32 r] w fun e w' => e = .returned (.int .i64 (hexI r)) ∧ w = w' :=
  idx_low r w (by have := hexI_small h; omega) (by have := hexI_small h; omega)
theorem idx_neg (r : Int) (w : World) (h : hexI r < 0) (h0 : 0 ≤ r) (hp : r < 128 ∨ IsPoint r) : Calls Tryd.prog 93 #[.string hexT, .int .i32 r] w fun e w' => (∃ k : Int, k < 0 ∧ e = .returned (.int .i64 k)) ∧ Below w.heap.size w w' := by
  by_cases h1 : r < 128
  · refine (idx_low r w h0 h1).mono ?_
    rintro e w' ⟨rfl, rfl⟩
    exact ⟨⟨_, h, rfl⟩, Below.refl _ _⟩
  · have hp := hp.resolve_left h1
    by_cases h3 : r = 65533
    · subst h3
      refine (rune_bad w).mono ?_
      rintro e w' ⟨rfl, hb⟩
      exact ⟨⟨-1, by omega, rfl⟩, hb⟩
    · refine (rune_big r w (by omega) hp h3).mono ?_
      rintro e w' ⟨rfl, hb⟩
      exact ⟨⟨-1, by omega, rfl⟩, hb⟩
theorem dec_point (l : List UInt8) (h : l ≠ []) : (decodeL l).1 < 128 ∨ IsPoint (decodeL l).1 := by
  have h0 : 1 ≤ l.length := by cases l with | nil => exact absurd rfl h | cons => simp
  by_cases hex : ∃ k, 1 ≤ k ∧ k ≤ 4 ∧ k ≤ l.length ∧ Hit l k
  · obtain ⟨k, h1, h4, hl, hh⟩ := hex
    rw [found l k h1 h4 hl hh]
    exact .inr hh.1
  · rw [missed l h0 (fun k h1 h4 hl hh => hex ⟨k, h1, h4, hl, hh⟩)]
    exact .inr (by unfold IsPoint; decide)
theorem dec_at (s : ByteArray) (pos : Nat) (h : pos < s.size) : ((Utf8.decode s pos).1 : Int) < 128 ∨ IsPoint (Utf8.decode s pos).1 := by
  have hl : s.data.toList.drop pos ≠ [] := by
    intro e
    have := congrArg List.length e
    rw [List.length_drop, ← Lib.size_eq] at this
    simp at this
    omega
  have := dec_point _ hl
  rw [decodeL_drop] at this
  rcases this with h1 | h1
  · left; omega
  · right; exact h1
theorem ret_i32 {a b : Int} (h : a = b) : Ending.returned (.int .i32 a) = .returned (.int .i32 b) := by rw [h]
theorem or_hex (n k : Int) (h0 : 0 ≤ n) (h1 : n < 4096) (h2 : 0 ≤ k) (h3 : k < 16) : bits .or .i32 (n * 16) k = n * 16 + k := by
  obtain ⟨a, rfl⟩ : ∃ a : Nat, n = a := ⟨n.toNat, by omega⟩
  obtain ⟨b, rfl⟩ : ∃ b : Nat, k = b := ⟨k.toNat, by omega⟩
  have e : (a : Int) * 16 = ((16 * a : Nat) : Int) := by omega
  rw [e]
  have g1 : (BitVec.ofInt 32 ((16 * a : Nat) : Int)).toNat = 16 * a := by
    rw [BitVec.ofInt_natCast, BitVec.toNat_ofNat]; exact Nat.mod_eq_of_lt (by omega)
  have g2 : (BitVec.ofInt 32 (b : Int)).toNat = b := by
    rw [BitVec.ofInt_natCast, BitVec.toNat_ofNat]; exact Nat.mod_eq_of_lt (by omega)
  show IntKind.i32.wrap ((BitVec.ofInt 32 ((16 * a : Nat) : Int) ||| BitVec.ofInt 32 (b : Int)).toNat : Int) = _
  have g3 := Nat.two_pow_add_eq_or_of_lt (i := 4) (b := b) (by omega) a
  rw [BitVec.toNat_or, g1, g2, show (16 * a ||| b) = 16 * a + b from g3.symm, IntWalk.i32_in _ (by omega)]
  omega
theorem pow16_le {c : Nat} {n : Int} (hc : c + 1 ≤ 4) (h : n < 16 ^ (4 - (c + 1))) : n < 4096 := by
  rcases (show c = 0 ∨ c = 1 ∨ c = 2 ∨ c = 3 by omega) with rfl | rfl | rfl | rfl <;> simp at h <;> omega
set_option maxRecDepth 100000 in
set_option maxHeartbeats 2000000 in
theorem unit_walk (s : ByteArray) (w : World) (hT : Tabs w) (hs : s.size ≤ 140737488355328) (h5 : 4 < s.size) (hu : s[0].toNat = 117) (L : ByteArray) (hL : L = ⟨(toLowerD ((s.data.toList.drop 1).take 4)).toArray⟩) (hn : (from_ L 0).length ≤ 4) :
    Calls Tryd.prog 77 #[.string s] w fun e w' => e = .returned (.int .i32 (loopU (from_ L 0) 0)) ∧ Below w.heap.size w w' := by
  have hlow : ∀ w, Tabs w → Calls Tryd.prog 92 #[.string (s.extract 1 5)] w fun e w' => e = .returned (.string L) ∧ Below w.heap.size w w' := fun w hT => by
    have := Tryd.strings_ToLower_any (s.extract 1 5) w (by rw [ByteArray.size_extract]; omega) hT.2 hT.1
    rw [cut_list'] at this
    rw [hL]
    exact this
  have e5 : decide ((s.size : Int) ≤ 4) = false := by simp; omega
  have e0 : ((s[0].toNat : Int) == 117) = true := by rw [hu]; rfl
  clear hL
  go_enter Tryd.func77, Tryd.ntmps77
  go_wp2_with (first
    | (go_at_call 92; refine (hlow _ hT).mono ?_; rintro e w1 ⟨rfl, hb1⟩))
  have hz1 := hb1.size
  go_loopw [3] (fun v w' => ∃ (pos : Nat) (n : Int), w' = w1.iter L pos ∧ v = .int .i32 n ∧ loopU (from_ L pos) n = loopU (from_ L 0) 0 ∧ 0 ≤ n ∧ n < 16 ^ (4 - (from_ L pos).length) ∧ (from_ L pos).length ≤ 4 ∧ pos ≤ L.size) (fun _ w' => L.size - w'.iterPos w1.heap.size)
  case atStart => exact ⟨0, 0, rfl, rfl, rfl, Int.le_refl _, Int.pow_pos (by decide), hn, Nat.zero_le _⟩
  case round =>
    obtain ⟨pos, n, rfl, rfl, hc, h0, hlt, hl4, hp0⟩ := hrel
    by_cases hp : pos < L.size
    · have hnx : ∀ ty, (Instr.next (.pointer (some ⟨w1.heap.size, 0, none⟩)) true ty).run Tryd.prog (w1.iter L pos) = _ := fun ty => run_next_any w1 L pos ty hp
      have hle := dec_le L pos hp
      have hpos := dec_pos L pos
      have hpt := dec_at L pos hp
      have HF := Lib.hid (from_step L pos hp)
      have HC := Lib.hid hc
      have hl4' := hl4
      rw [HF.out] at hlt hl4'
      simp only [List.length_cons] at hlt hl4'
      have hpw : (16 : Int) ^ (4 - ((from_ L (pos + (Utf8.decode L pos).2)).length + 1)) * 16 = 16 ^ (4 - (from_ L (pos + (Utf8.decode L pos).2)).length) := by
        rw [← Int.pow_succ]
        congr 1
        omega
      have hsm := pow16_le hl4' hlt
      have hr0 : (0 : Int) ≤ (Utf8.decode L pos).1 := by omega
      have HL := Lib.hid hlt
      have HP := Lib.hid hpw
      clear hc hlt hpw hl4
      by_cases hk : 0 ≤ hexI (Utf8.decode L pos).1
      · obtain ⟨k1, k2, k3⟩ := hexI_small hk
        have hor := or_hex n (hexI (Utf8.decode L pos).1) h0 hsm hk k3
        go_wp2_with (first
          | (go_at_call 93; refine (idx_pos _ _ hk).mono ?_; rintro e w2 ⟨rfl, hw⟩; subst hw))
        go_roundw
        case rel =>
          refine ⟨pos + (Utf8.decode L pos).2, n * 16 + hexI (Utf8.decode L pos).1, rfl, (by first | rfl | rw [hor]), ?_, by omega, ?_, by omega, hle⟩
          · rw [← HC.out, HF.out]
            simp only [loopU]
            rw [if_neg (by omega)]
          · have e1 := HL.out
            rw [← HP.out]
            omega
        case measure =>
          simp
          omega
      · have hk' : hexI (Utf8.decode L pos).1 < 0 := by omega
        go_wp2_with (first
          | (go_at_call 93; refine (idx_neg _ _ hk' hr0 hpt).mono ?_; rintro e w2 ⟨⟨k, hk0, rfl⟩, hb2⟩))
        go_ret
        refine ⟨ret_i32 ?_, hb1.trans (((below_iter w1 L _).trans (hb2.mono (below_iter w1 L _).size)).mono hz1)⟩
        rw [← HC.out, HF.out]
        simp only [loopU]
        rw [if_pos hk']
    · have hnx : ∀ ty, (Instr.next (.pointer (some ⟨w1.heap.size, 0, none⟩)) true ty).run Tryd.prog (w1.iter L pos) = _ := fun ty => run_next_end w1 L pos ty hp
      rw [from_end L pos hp] at hc
      simp only [loopU] at hc
      have HC := Lib.hid hc
      clear hc hlt
      go_wp2
      go_ret
      exact ⟨ret_i32 HC.out, hb1.trans ((below_iter w1 L _).mono hz1)⟩
end Go.Proofs.Jt
