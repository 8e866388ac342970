/- Merged texts: J3, Jq, J4, J5, Jr, Js. -/
import Derived.Test.YtaiaiiepbpbmmaaGreatDoorCmJX
import Derived.Lib.MapLaws
import Derived.Shelf.Strings.CaseAny
import Derived.Maps.OwnSet
import Derived.Maps.OwnOps
/- J3: jtext's unit: four hex digits behind a u. -/
namespace Go.Proofs.Jt
open Go.RowKit Go.Proofs Go.Lib Go.Proofs.Utf

def hexI (r : Int) : Int := if 48 ≤ r ∧ r ≤ 57 then r - 48 else if 97 ≤ r ∧ r ≤ 102 then r - 87 else -1
def loopU : List (Nat × Nat) → Int → Int
 | [], n => n
 | x :: t, n => if hexI x.2 < 0 then -1 else loopU t (n * 16 + hexI x.2)
theorem hexI_small {r : Int} (h : 0 ≤ hexI r) : 48 ≤ r ∧ r ≤ 102 ∧ hexI r < 16 := by
 unfold hexI at *
 split at h
 · rename_i h1; rw [if_pos h1]; omega
 · split at h
   · rename_i h1 h2; rw [if_neg h1, if_pos h2]; omega
   · omega
theorem hexI_byte : ∀ c : UInt8, c.toNat < 128 → Lib.indexByte hexT.data.toList c = hexI c.toNat := forall_u8 (by decide +kernel)
theorem idx_low (r : Int) (w : World) (h0 : 0 ≤ r) (h1 : r < 128) : Calls Tryz.prog 216 #[.string hexT, .int .i32 r] w fun e w' => e = .returned (.int .i64 (hexI r)) ∧ w = w' := by
 refine (Tryz.strings_IndexRune_ascii hexT r w h0 h1).mono ?_
 rintro e w' ⟨rfl, rfl⟩
 have := hexI_byte r.toNat.toUInt8 (by simp; omega)
 rw [this]
 refine ⟨?_, rfl⟩
 have e : ((r.toNat.toUInt8.toNat : Nat) : Int) = r := by simp; omega
 rw [e]
theorem idx_pos (r : Int) (w : World) (h : 0 ≤ hexI r) : Calls Tryz.prog 216 #[.string hexT, .int .i32 r] w fun e w' => e = .returned (.int .i64 (hexI r)) ∧ w = w' :=
 idx_low r w (by have := hexI_small h; omega) (by have := hexI_small h; omega)
theorem idx_neg (r : Int) (w : World) (h : hexI r < 0) (h0 : 0 ≤ r) (hp : r < 128 ∨ IsPoint r) : Calls Tryz.prog 216 #[.string hexT, .int .i32 r] w fun e w' => (∃ k : Int, k < 0 ∧ e = .returned (.int .i64 k)) ∧ Below w.heap.size w w' := by
 by_cases h1 : r < 128
 · refine (idx_low r w h0 h1).mono ?_
   rintro e w' ⟨rfl, rfl⟩
   exact ⟨⟨_, h, rfl⟩, Below.refl _ _⟩
 · have hp := hp.resolve_left h1
   by_cases h3 : r = 65533
   · subst h3
     refine (rune_bad w).mono ?_
     rintro e w' ⟨rfl, hb⟩
     exact ⟨⟨-1, by omega, rfl⟩, hb⟩
   · refine (rune_big r w (by omega) hp h3).mono ?_
     rintro e w' ⟨rfl, hb⟩
     exact ⟨⟨-1, by omega, rfl⟩, hb⟩
theorem dec_point (l : List UInt8) (h : l ≠ []) : (decodeL l).1 < 128 ∨ IsPoint (decodeL l).1 := by
 have h0 : 1 ≤ l.length := by cases l with | nil => exact absurd rfl h | cons => simp
 by_cases hex : ∃ k, 1 ≤ k ∧ k ≤ 4 ∧ k ≤ l.length ∧ Hit l k
 · obtain ⟨k, h1, h4, hl, hh⟩ := hex
   rw [found l k h1 h4 hl hh]
   exact .inr hh.1
 · rw [missed l h0 (fun k h1 h4 hl hh => hex ⟨k, h1, h4, hl, hh⟩)]
   exact .inr (by unfold IsPoint; decide)
theorem dec_at (s : ByteArray) (pos : Nat) (h : pos < s.size) : ((Utf8.decode s pos).1 : Int) < 128 ∨ IsPoint (Utf8.decode s pos).1 := by
 have hl : s.data.toList.drop pos ≠ [] := by
  intro e
  have := congrArg List.length e
  rw [List.length_drop, ← Lib.size_eq] at this
  simp at this
  omega
 have := dec_point _ hl
 rw [decodeL_drop] at this
 rcases this with h1 | h1
 · left; omega
 · right; exact h1
theorem ret_i32 {a b : Int} (h : a = b) : Ending.returned (.int .i32 a) = .returned (.int .i32 b) := by rw [h]
theorem or_hex (n k : Int) (h0 : 0 ≤ n) (h1 : n < 4096) (h2 : 0 ≤ k) (h3 : k < 16) : bits .or .i32 (n * 16) k = n * 16 + k := by
 obtain ⟨a, rfl⟩ : ∃ a : Nat, n = a := ⟨n.toNat, by omega⟩
 obtain ⟨b, rfl⟩ : ∃ b : Nat, k = b := ⟨k.toNat, by omega⟩
 have e : (a : Int) * 16 = ((16 * a : Nat) : Int) := by omega
 rw [e]
 have g1 : (BitVec.ofInt 32 ((16 * a : Nat) : Int)).toNat = 16 * a := by
  rw [BitVec.ofInt_natCast, BitVec.toNat_ofNat]; exact Nat.mod_eq_of_lt (by omega)
 have g2 : (BitVec.ofInt 32 (b : Int)).toNat = b := by
  rw [BitVec.ofInt_natCast, BitVec.toNat_ofNat]; exact Nat.mod_eq_of_lt (by omega)
 show IntKind.i32.wrap ((BitVec.ofInt 32 ((16 * a : Nat) : Int) ||| BitVec.ofInt 32 (b : Int)).toNat : Int) = _
 have g3 := Nat.two_pow_add_eq_or_of_lt (i := 4) (b := b) (by omega) a
 rw [BitVec.toNat_or, g1, g2, show (16 * a ||| b) = 16 * a + b from g3.symm, IntWalk.i32_in _ (by omega)]
 omega
theorem pow16_le {c : Nat} {n : Int} (hc : c + 1 ≤ 4) (h : n < 16 ^ (4 - (c + 1))) : n < 4096 := by
 rcases (show c = 0 ∨ c = 1 ∨ c = 2 ∨ c = 3 by omega) with rfl | rfl | rfl | rfl <;> simp at h <;> omega
set_option maxRecDepth 100000 in
set_option maxHeartbeats 2000000 in
theorem unit_walk (s : ByteArray) (w : World) (hT : Tabs w) (hs : s.size ≤ 140737488355328) (h5 : 4 < s.size) (hu : s[0].toNat = 117) (L : ByteArray) (hL : L = ⟨(toLowerD ((s.data.toList.drop 1).take 4)).toArray⟩) (hn : (from_ L 0).length ≤ 4) :
 Calls Tryz.prog 236 #[.string s] w fun e w' => e = .returned (.int .i32 (loopU (from_ L 0) 0)) ∧ Below w.heap.size w w' := by
 have hlow : ∀ w, Tabs w → Calls Tryz.prog 254 #[.string (s.extract 1 5)] w fun e w' => e = .returned (.string L) ∧ Below w.heap.size w w' := fun w hT => by
  have := Tryz.strings_ToLower_any (s.extract 1 5) w (by rw [ByteArray.size_extract]; omega) hT.2 hT.1
  rw [cut_list'] at this
  rw [hL]
  exact this
 have e5 : decide ((s.size : Int) ≤ 4) = false := by simp; omega
 have e0 : ((s[0].toNat : Int) == 117) = true := by rw [hu]; rfl
 clear hL
 go_enter Tryz.func236, Tryz.ntmps236
 go_wp2_with (first
  | (go_at_call 254; refine (hlow _ hT).mono ?_; rintro e w1 ⟨rfl, hb1⟩))
 have hz1 := hb1.size
 go_loopw [3] (fun v w' => ∃ (pos : Nat) (n : Int), w' = w1.iter L pos ∧ v = .int .i32 n ∧ loopU (from_ L pos) n = loopU (from_ L 0) 0 ∧ 0 ≤ n ∧ n < 16 ^ (4 - (from_ L pos).length) ∧ (from_ L pos).length ≤ 4 ∧ pos ≤ L.size) (fun _ w' => L.size - w'.iterPos w1.heap.size)
 case atStart => exact ⟨0, 0, rfl, rfl, rfl, Int.le_refl _, Int.pow_pos (by decide), hn, Nat.zero_le _⟩
 case round =>
  obtain ⟨pos, n, rfl, rfl, hc, h0, hlt, hl4, hp0⟩ := hrel
  by_cases hp : pos < L.size
  · have hnx : ∀ ty, (Instr.next (.pointer (some ⟨w1.heap.size, 0, none⟩)) true ty).run Tryz.prog (w1.iter L pos) = _ := fun ty => run_next_any w1 L pos ty hp
    have hle := dec_le L pos hp
    have hpos := dec_pos L pos
    have hpt := dec_at L pos hp
    have HF := Lib.hid (from_step L pos hp)
    have HC := Lib.hid hc
    have hl4' := hl4
    rw [HF.out] at hlt hl4'
    simp only [List.length_cons] at hlt hl4'
    have hpw : (16 : Int) ^ (4 - ((from_ L (pos + (Utf8.decode L pos).2)).length + 1)) * 16 = 16 ^ (4 - (from_ L (pos + (Utf8.decode L pos).2)).length) := by
     rw [← Int.pow_succ]
     congr 1
     omega
    have hsm := pow16_le hl4' hlt
    have hr0 : (0 : Int) ≤ (Utf8.decode L pos).1 := by omega
    have HL := Lib.hid hlt
    have HP := Lib.hid hpw
    clear hc hlt hpw hl4
    by_cases hk : 0 ≤ hexI (Utf8.decode L pos).1
    · obtain ⟨k1, k2, k3⟩ := hexI_small hk
      have hor := or_hex n (hexI (Utf8.decode L pos).1) h0 hsm hk k3
      go_wp2_with (first
       | (go_at_call 216; refine (idx_pos _ _ hk).mono ?_; rintro e w2 ⟨rfl, hw⟩; subst hw))
      go_roundw
      case rel =>
       refine ⟨pos + (Utf8.decode L pos).2, n * 16 + hexI (Utf8.decode L pos).1, rfl, (by first | rfl | rw [hor]), ?_, by omega, ?_, by omega, hle⟩
       · rw [← HC.out, HF.out]
         simp only [loopU]
         rw [if_neg (by omega)]
       · have e1 := HL.out
         rw [← HP.out]
         omega
      case measure =>
       simp
       omega
    · have hk' : hexI (Utf8.decode L pos).1 < 0 := by omega
      go_wp2_with (first
       | (go_at_call 216; refine (idx_neg _ _ hk' hr0 hpt).mono ?_; rintro e w2 ⟨⟨k, hk0, rfl⟩, hb2⟩))
      go_ret
      refine ⟨ret_i32 ?_, hb1.trans (((below_iter w1 L _).trans (hb2.mono (below_iter w1 L _).size)).mono hz1)⟩
      rw [← HC.out, HF.out]
      simp only [loopU]
      rw [if_pos hk']
  · have hnx : ∀ ty, (Instr.next (.pointer (some ⟨w1.heap.size, 0, none⟩)) true ty).run Tryz.prog (w1.iter L pos) = _ := fun ty => run_next_end w1 L pos ty hp
    rw [from_end L pos hp] at hc
    simp only [loopU] at hc
    have HC := Lib.hid hc
    clear hc hlt
    go_wp2
    go_ret
    exact ⟨ret_i32 HC.out, hb1.trans ((below_iter w1 L _).mono hz1)⟩
end Go.Proofs.Jt
/- Jq: Four hex digits, lowered: the plain law of unit. No program in sight. -/
namespace Go.Proofs.Jt
open Go.Lib Go.Proofs.Utf Go.Proofs

def rowFar (x : CaseRow) : Bool := decide (x.2.1 < 128) || (decide (102 < (x.1 : Int) + x.delta 1) && decide (104 < (x.1 : Int)))
theorem rows_far : caseT.all rowFar = true := by decide +kernel
theorem row_far (i : Nat) (h : i < caseA.size) : rowFar (caseA.getD i (0, 0, 0, 0, 0)) = true := by
 have hl : i < caseT.length := by simpa [caseA] using h
 have e : caseA.getD i (0, 0, 0, 0, 0) = caseT[i] := by simp [caseA, Array.getD, hl]
 rw [e]
 exact List.all_eq_true.1 rows_far _ (List.getElem_mem hl)
theorem lower_high (r : Nat) (h : 128 ≤ r) : hexI (toLowerU r) < 0 := by
 have hx : 102 < toLowerU r := by
  unfold toLowerU
  rw [if_neg (by omega)]
  unfold toR lookupGo
  cases hi : lookupIdx caseA r (caseA.size + 1) 0 caseA.size with
  | none => simp only [Option.map_none]; omega
  | some i =>
   obtain ⟨hil, hlo, hhi⟩ := lookupIdx_some caseA r _ _ _ i hi
   have hf := row_far i hil
   unfold rowFar at hf
   simp only [Option.map_some]
   generalize caseA.getD i (0, 0, 0, 0, 0) = x at *
   simp only [Bool.or_eq_true, Bool.and_eq_true, decide_eq_true_eq] at hf
   unfold convertR
   split
   · rcases hf with hf | hf
     · omega
     · omega
   · rcases hf with hf | hf
     · omega
     · omega
 unfold hexI
 rw [if_neg (by omega), if_neg (by omega)]
 omega
theorem lower_low : ∀ b : UInt8, b.toNat < 128 → hexI (toLowerU b.toNat) = hexV b ∧ (0 ≤ toLowerU b.toNat ∧ toLowerU b.toNat < 128) := forall_u8 (by decide +kernel)
theorem hexV_high (b : UInt8) (h : 128 ≤ b.toNat) : hexV b = -1 := by
 unfold hexV
 rw [if_neg (by omega), if_neg (by omega), if_neg (by omega)]
theorem enc_bad (x : Int) (h0 : 0 ≤ x) (h : ¬ IsPoint x) : encodeRune x = encodeRune 65533 := by
 have e : ¬ (0 ≤ x ∧ x ≤ 127) := fun h1 => h (by unfold IsPoint; omega)
 have e2 : encodeRuneZ x = encodeRuneZ 65533 := by
  unfold IsPoint at h
  unfold encodeRuneZ
  repeat' split
  all_goals first | rfl | omega
 unfold encodeRune
 rw [e2]
theorem enc_ne (x : Int) (h : IsPoint x) (m : List UInt8) : encodeRune x ++ m ≠ [] := by
 intro e
 have := (enc_hit x h m).1
 have h2 := congrArg List.length e
 simp at h2
 rw [h2.1] at this
 simp at this
theorem pieces_enc (x : Int) (h : IsPoint x) (m : List UInt8) : pieces (encodeRune x ++ m) = ((encodeRune x).length, x.toNat) :: pieces m := by
 obtain ⟨h1, h2⟩ := enc_head x h m
 rw [pieces_step _ (enc_ne x h m), h2, List.drop_left]
 have : ((decodeL (encodeRune x ++ m)).1 : Int) = x := by
  have hp := h1
  unfold headP at hp
  split at hp
  · unfold IsPoint at h; omega
  · exact hp
 rw [show (decodeL (encodeRune x ++ m)).1 = x.toNat by omega]
theorem lower_step (l : List UInt8) (hne : l ≠ []) (n : Int) :
 loopU (pieces (toLowerD l)) n = (if hexI (toLowerU (decodeL l).1) < 0 then -1 else loopU (pieces (toLowerD (l.drop (decodeL l).2))) (n * 16 + hexI (toLowerU (decodeL l).1))) ∧
 (pieces (toLowerD l)).length = (pieces (toLowerD (l.drop (decodeL l).2))).length + 1 := by
 have hr : (decodeL l).1 ≤ 1114111 := by
  have := headP_le l
  rcases dec_point l hne with h | h
  · omega
  · unfold IsPoint at h; omega
 have h0 := (toLowerU_range _ hr).1
 have e : toLowerD l = encodeRune (toLowerU (decodeL l).1) ++ toLowerD (l.drop (decodeL l).2) := by
  unfold toLowerD
  rw [mapD_step _ l hne, if_pos h0]
 rw [e]
 by_cases hp : IsPoint (toLowerU (decodeL l).1)
 · rw [pieces_enc _ hp]
   refine ⟨?_, rfl⟩
   simp only [loopU]
   rw [show ((toLowerU (decodeL l).1).toNat : Int) = toLowerU (decodeL l).1 by omega]
 · rw [enc_bad _ h0 hp, pieces_enc 65533 (by unfold IsPoint; decide)]
   refine ⟨?_, rfl⟩
   have hneg : hexI (toLowerU (decodeL l).1) < 0 := by
    unfold IsPoint at hp
    unfold hexI
    rw [if_neg (by omega), if_neg (by omega)]
    omega
   simp only [loopU]
   rw [if_pos hneg, if_pos (by decide)]
theorem dec_high (b : UInt8) (t : List UInt8) (h : 128 ≤ b.toNat) : 128 ≤ (decodeL (b :: t)).1 := by
 by_cases hex : ∃ k, 1 ≤ k ∧ k ≤ 4 ∧ k ≤ (b :: t).length ∧ Hit (b :: t) k
 · obtain ⟨k, h1, h4, hl, hh⟩ := hex
   rw [found _ k h1 h4 hl hh]
   have hlen : (encodeRune (candL (b :: t) k)).length = k := by rw [hh.2, List.length_take]; omega
   rcases (show k = 1 ∨ k = 2 ∨ k = 3 ∨ k = 4 by omega) with rfl | rfl | rfl | rfl
   · have := (Hit1 _ hl).1 hh
     simp at this
     omega
   all_goals rcases len_cases _ hh.1 with hc | hc | hc | hc <;> (simp only; omega)
 · rw [missed _ (by simp) (fun k h1 h4 hl hh => hex ⟨k, h1, h4, hl, hh⟩)]
   decide
theorem lower_cons (b : UInt8) (t : List UInt8) (n : Int) : loopU (pieces (toLowerD (b :: t))) n = if hexV b < 0 then -1 else loopU (pieces (toLowerD t)) (n * 16 + hexV b) := by
 rw [(lower_step (b :: t) (by simp) n).1]
 by_cases hb : b.toNat < 128
 · rw [decodeL_ascii b t hb]
   simp only [List.drop_succ_cons, List.drop_zero]
   rw [(lower_low b hb).1]
 · have h1 := lower_high _ (dec_high b t (by omega))
   rw [if_pos h1, hexV_high b (by omega), if_pos (by omega)]
theorem lower_len : ∀ (k : Nat) (l : List UInt8), l.length ≤ k → (pieces (toLowerD l)).length ≤ l.length
 | 0, l, h => by
  have : l = [] := List.length_eq_zero_iff.1 (by omega)
  subst this
  exact Nat.le_refl _
 | k + 1, l, h => by
  by_cases hne : l = []
  · subst hne; exact Nat.le_refl _
  · have h1 := headW_pos l
    unfold headW at h1
    have h2 := lower_len k (l.drop (decodeL l).2) (by rw [List.length_drop]; omega)
    have h3 : 1 ≤ l.length := by cases l with | nil => exact absurd rfl hne | cons => simp
    rw [(lower_step l hne 0).2]
    rw [List.length_drop] at h2
    omega
theorem hexV_lt (c : UInt8) : hexV c < 16 := by
 unfold hexV
 repeat' split
 all_goals omega
theorem unitL_cons (u a b c d : UInt8) (t : List UInt8) : unitL (u :: a :: b :: c :: d :: t) = if u = 117 ∧ 0 ≤ hexV a ∧ 0 ≤ hexV b ∧ 0 ≤ hexV c ∧ 0 ≤ hexV d then ((hexV a * 16 + hexV b) * 16 + hexV c) * 16 + hexV d else -1 := rfl
theorem unit_eq (u a b c d : UInt8) (t : List UInt8) (hu : u = 117) : loopU (pieces (toLowerD [a, b, c, d])) 0 = unitL (u :: a :: b :: c :: d :: t) := by
 rw [lower_cons, lower_cons, lower_cons, lower_cons, unitL_cons]
 by_cases h1 : hexV a < 0
 · rw [if_pos h1, if_neg (by rintro ⟨_, h, _⟩; omega)]
 · rw [if_neg h1]
   by_cases h2 : hexV b < 0
   · rw [if_pos h2, if_neg (by rintro ⟨_, _, h, _⟩; omega)]
   · rw [if_neg h2]
     by_cases h3 : hexV c < 0
     · rw [if_pos h3, if_neg (by rintro ⟨_, _, _, h, _⟩; omega)]
     · rw [if_neg h3]
       by_cases h4 : hexV d < 0
       · rw [if_pos h4, if_neg (by rintro ⟨_, _, _, _, h⟩; omega)]
       · rw [if_neg h4, if_pos ⟨hu, by omega, by omega, by omega, by omega⟩]
         show (((0 * 16 + hexV a) * 16 + hexV b) * 16 + hexV c) * 16 + hexV d = _
         omega
theorem unitL_range (l : List UInt8) : -1 ≤ unitL l ∧ unitL l < 65536 := by
 unfold unitL
 split
 · rename_i u a b c d t
   have ha := hexV_lt a; have hb := hexV_lt b; have hc := hexV_lt c; have hd := hexV_lt d
   split <;> omega
 · omega
theorem unit_short {l : List UInt8} (h : l.length ≤ 4) : unitL l = -1 := by
 unfold unitL
 split
 · simp at h
 · rfl
theorem unit_other {l : List UInt8} (h : l[0]? ≠ some 117) : unitL l = -1 := by
 unfold unitL
 split
 · rename_i u a b c d t
   rw [if_neg]
   rintro ⟨rfl, _⟩
   exact h rfl
 · rfl
theorem five {l : List UInt8} (h : 4 < l.length) : ∃ u a b c d t, l = u :: a :: b :: c :: d :: t := by
 match l, h with
 | u :: a :: b :: c :: d :: t, _ => exact ⟨u, a, b, c, d, t, rfl⟩
open Go.RowKit in
set_option maxRecDepth 100000 in
theorem unit_any (s : ByteArray) (w : World) (hT : Tabs w) (hs : s.size ≤ 140737488355328) :
 Calls Tryz.prog 236 #[.string s] w fun e w' => e = .returned (.int .i32 (unitL s.data.toList)) ∧ Below w.heap.size w w' := by
 by_cases h5 : 4 < s.size
 · by_cases hu : s[0].toNat = 117
   · obtain ⟨u, a, b, c, d, t, hl⟩ := five (l := s.data.toList) (by rw [← Lib.size_eq]; exact h5)
     have ht : (s.data.toList.drop 1).take 4 = [a, b, c, d] := by rw [hl]; rfl
     have h0 := list_at s 0 (by omega)
     rw [hl] at h0
     have hu' : u = 117 := by
      have : u = s[0] := Option.some.inj h0
      rw [this]
      exact UInt8.toNat_inj.1 hu
     have hf : from_ ⟨(toLowerD ((s.data.toList.drop 1).take 4)).toArray⟩ 0 = pieces (toLowerD [a, b, c, d]) := by
      rw [ht]
      unfold from_
      simp
     have := unit_walk s w hT hs h5 hu _ rfl (by rw [hf]; exact lower_len 4 _ (by simp))
     rw [hf, unit_eq u a b c d t hu'] at this
     rw [hl]
     exact this
   · have h0 := list_at s 0 (by omega)
     have e : unitL s.data.toList = -1 := unit_other (by
      rw [h0]
      intro e
      rw [Option.some.inj e] at hu
      exact hu rfl)
     rw [e]
     have e5 : decide ((s.size : Int) ≤ 4) = false := by simp; omega
     have e0 : ((s[0].toNat : Int) == 117) = false := beq_eq_false_iff_ne.2 (by omega)
     clear h0 e
     go_enter Tryz.func236, Tryz.ntmps236
     go_wp2
     go_ret
     exact ⟨rfl, Below.refl _ _⟩
 · rw [unit_short (by rw [← Lib.size_eq]; omega)]
   have e5 : decide ((s.size : Int) ≤ 4) = true := by simp; omega
   go_enter Tryz.func236, Tryz.ntmps236
   go_wp2
   go_ret
   exact ⟨rfl, Below.refl _ _⟩
end Go.Proofs.Jt
/- J4: jtext's map of escapes: made, and looked into; escaped. -/
namespace Go.Proofs.Jt
open Go.RowKit Go.Proofs Go.Lib Go.Proofs.Utf Go.Maps

def escPairs : List (Int × Int) := [(34, 34), (92, 92), (47, 47), (98, 8), (102, 12), (110, 10), (114, 13), (116, 9)]
def putAll : List (Int × Int) → DataW Unit → DataW Unit
 | [], D => D
 | x :: t, D => putAll t (D.put (.int .i32 x.1) (.lit (.int .i32 x.2)))
def escD : DataW Unit := putAll escPairs (.map [])
theorem law21 : Keyed Tryz.prog 21 := int_keyed Tryz.underlying21
theorem zero21 (w : World) : (zeroValue 21).run Tryz.prog w = .ok (.int .i32 0) w := by kernel_rfl
theorem insert_one {w : World} {b n : Nat} {D : DataW Unit} (h : w.ownsMap Tryz.prog 21 (plainElem (H := Unit) Tryz.prog 21) b n D) (hn : n < 100) (k v : Int) (hk : (Lit.int .i32 k).wf = true) (hv : (Lit.int .i32 v).wf = true) :
 ∃ w', (Instr.mapUpdate 237 (.map (some b)) (.int .i32 k) (.int .i32 v)).run Tryz.prog w = .ok () w' ∧ w'.ownsMap Tryz.prog 21 (plainElem (H := Unit) Tryz.prog 21) b (n + 1) (D.put (.int .i32 k) (.lit (.int .i32 v))) ∧ w.mapTurned w' b :=
 h.store law21 Tryz.underlying237 (by unfold maxLen; omega) (keyOf_int_mk Tryz.underlying21 hk) (plainElem_int Tryz.underlying21 hv)
theorem below_turned {B b : Nat} {a w w' : World} (h : Below B a w) (ht : w.mapTurned w' b) (hb : B ≤ b) : Below B a w' := by
 obtain ⟨es, clock, es', clock', he, rfl⟩ := ht
 refine h.trans ⟨rfl, rfl, rfl, by simp [ChangeMaps.setBlock], fun k hk => ?_⟩
 show (w.heap.setIfInBounds b _)[k]? = _
 rw [Array.getElem?_setIfInBounds_ne (by omega)]
set_option maxRecDepth 100000 in
theorem escapes_any (w : World) : Calls Tryz.prog 181 #[] w fun e w' => e = .returned (.map (some w.heap.size)) ∧ w'.ownsMap Tryz.prog 21 (plainElem (H := Unit) Tryz.prog 21) w.heap.size 8 escD ∧ Below w.heap.size w w' := by
 have d0 : Below w.heap.size w (w.alloc (.map #[] 0)) := (Below.refl _ _).alloc (Nat.le_refl _) _
 have o0 : (w.alloc (.map #[] 0)).ownsMap Tryz.prog 21 (plainElem (H := Unit) Tryz.prog 21) w.heap.size 0 (.map []) := World.ownsMap_made _ _ _ _
 obtain ⟨w1, r1, o1, t1⟩ := insert_one o0 (by omega) 34 34 (by decide) (by decide)
 obtain ⟨w2, r2, o2, t2⟩ := insert_one o1 (by omega) 92 92 (by decide) (by decide)
 obtain ⟨w3, r3, o3, t3⟩ := insert_one o2 (by omega) 47 47 (by decide) (by decide)
 obtain ⟨w4, r4, o4, t4⟩ := insert_one o3 (by omega) 98 8 (by decide) (by decide)
 obtain ⟨w5, r5, o5, t5⟩ := insert_one o4 (by omega) 102 12 (by decide) (by decide)
 obtain ⟨w6, r6, o6, t6⟩ := insert_one o5 (by omega) 110 10 (by decide) (by decide)
 obtain ⟨w7, r7, o7, t7⟩ := insert_one o6 (by omega) 114 13 (by decide) (by decide)
 obtain ⟨w8, r8, o8, t8⟩ := insert_one o7 (by omega) 116 9 (by decide) (by decide)
 have le := Nat.le_refl w.heap.size
 have d8 := below_turned (below_turned (below_turned (below_turned (below_turned (below_turned (below_turned (below_turned d0 t1 le) t2 le) t3 le) t4 le) t5 le) t6 le) t7 le) t8 le
 have hmm : (Instr.makeMap 237 none).run Tryz.prog w = .ok (.map (some w.heap.size)) (w.alloc (.map #[] 0)) := run_makeMap _ _
 clear o0 o1 o2 o3 o4 o5 o6 o7 t1 t2 t3 t4 t5 t6 t7 t8 d0 le
 go_enter Tryz.func181, Tryz.ntmps181
 go_wp2
 go_ret
 exact ⟨rfl, o8, d8⟩
/-- what the map holds -/
def escLook (r : Int) : Option Int := if r = 34 then some 34 else if r = 92 then some 92 else if r = 47 then some 47 else if r = 98 then some 8 else if r = 102 then some 12 else if r = 110 then some 10 else if r = 114 then some 13 else if r = 116 then some 9 else none
theorem lit_ne {a b : Int} (h : a ≠ b) : Lit.int .i32 a ≠ .int .i32 b := fun e => h (by injection e)
theorem escD_has (r : Int) : Maps.has escD (.int .i32 r) = (escLook r).isSome ∧ escD.atKey (.int .i32 r) (.lit (.int .i32 0)) = .lit (.int .i32 ((escLook r).getD 0)) := by
 by_cases h1 : r = 34
 · subst h1; exact ⟨by decide, by kernel_rfl⟩
 by_cases h2 : r = 92
 · subst h2; exact ⟨by decide, by kernel_rfl⟩
 by_cases h3 : r = 47
 · subst h3; exact ⟨by decide, by kernel_rfl⟩
 by_cases h4 : r = 98
 · subst h4; exact ⟨by decide, by kernel_rfl⟩
 by_cases h5 : r = 102
 · subst h5; exact ⟨by decide, by kernel_rfl⟩
 by_cases h6 : r = 110
 · subst h6; exact ⟨by decide, by kernel_rfl⟩
 by_cases h7 : r = 114
 · subst h7; exact ⟨by decide, by kernel_rfl⟩
 by_cases h8 : r = 116
 · subst h8; exact ⟨by decide, by kernel_rfl⟩
 have e : escLook r = none := by unfold escLook; simp [h1, h2, h3, h4, h5, h6, h7, h8]
 rw [e]
 unfold escD escPairs
 simp only [putAll]
 constructor
 · rw [has_put_other (lit_ne h8), has_put_other (lit_ne h7), has_put_other (lit_ne h6), has_put_other (lit_ne h5), has_put_other (lit_ne h4), has_put_other (lit_ne h3), has_put_other (lit_ne h2), has_put_other (lit_ne h1)]
   rfl
 · rw [atKey_put_other (lit_ne h8), atKey_put_other (lit_ne h7), atKey_put_other (lit_ne h6), atKey_put_other (lit_ne h5), atKey_put_other (lit_ne h4), atKey_put_other (lit_ne h3), atKey_put_other (lit_ne h2), atKey_put_other (lit_ne h1)]
   rfl
end Go.Proofs.Jt
/- J5: jtext's escaped. -/
namespace Go.Proofs.Jt
open Go.RowKit Go.Proofs Go.Lib Go.Proofs.Utf Go.Maps

theorem simple_look : ∀ b : UInt8, b.toNat < 128 → escLook b.toNat = Option.map (fun n : Nat => (n : Int)) (simple b) := forall_u8 (by decide +kernel)
theorem simple_high : ∀ b : UInt8, 128 ≤ b.toNat → simple b = none := forall_u8 (by decide +kernel)
theorem look_high (r : Int) (h : 128 ≤ r) : escLook r = none := by
 unfold escLook
 repeat rw [if_neg (by omega)]
theorem look_eq (s : ByteArray) : escLook (decodeGo s).1 = Option.map (fun n : Nat => (n : Int)) (s.data.toList[0]?.bind simple) ∧ (0 < s.size → 1 ≤ (decodeGo s).2) ∧ (decodeGo s).1 ≤ 1114111 := by
 by_cases h : s.size = 0
 · have e0 : s.data.toList = [] := List.length_eq_zero_iff.1 (by rw [← Lib.size_eq]; exact h)
   unfold decodeGo
   rw [if_pos h, e0]
   exact ⟨by decide, fun h' => by omega, by simp⟩
 · have hl : s.data.toList ≠ [] := fun e => h (by rw [Lib.size_eq, e]; rfl)
   have hd : decodeGo s = decodeL s.data.toList := by
    unfold decodeGo decodeL
    rw [if_neg h]
   rw [hd]
   have hp : (decodeL s.data.toList).1 ≤ 1114111 := by
    rcases dec_point _ hl with h | h
    · omega
    · unfold IsPoint at h; omega
   have hw := headW_pos s.data.toList
   unfold headW at hw
   refine ⟨?_, fun _ => hw, hp⟩
   obtain ⟨b, t, e⟩ := List.exists_cons_of_ne_nil hl
   rw [e]
   simp only [List.getElem?_cons_zero, Option.bind_some]
   by_cases hb : b.toNat < 128
   · rw [decodeL_ascii b t hb]
     exact simple_look b hb
   · rw [simple_high b (by omega), look_high _ (by have := dec_high b t (by omega); omega)]
     rfl
theorem cut_back (s : ByteArray) (w : World) (h : 5 ≤ s.size) :
 Calls Tryz.prog 237 #[.string (s.extract 5 s.size), .string ⟨#[92]⟩] w fun e w' => (∃ t : ByteArray, e = .returned (.tuple #[.string t, .bool (decide (s.data.toList[5]? = some 92))]) ∧ t.size ≤ s.size ∧ (s.data.toList[5]? = some 92 → t.data.toList = s.data.toList.drop 6)) ∧ w = w' := by
 refine (Tryz.strings_CutPrefix (s.extract 5 s.size) ⟨#[92]⟩ w).mono ?_
 rintro e w' ⟨rfl, rfl⟩
 refine ⟨⟨⟨(Lib.trimPrefix (s.extract 5 s.size).data.toList [92]).toArray⟩, ?_, ?_, ?_⟩, rfl⟩
 · have e : Lib.hasPrefix (s.extract 5 s.size).data.toList [92] = decide (s.data.toList[5]? = some 92) := by
    rw [Lib.extract_to_end]
    by_cases h : 5 < s.size
    · rw [List.drop_eq_getElem_cons (by rw [← Lib.size_eq]; exact h), List.getElem?_eq_getElem (by rw [← Lib.size_eq]; exact h)]
      have e : ((92 : UInt8) == s.data[5]) = decide (s.data[5] = 92) := by rw [Bool.eq_iff_iff, beq_iff_eq, decide_eq_true_iff]; exact eq_comm
      simp [Lib.hasPrefix, List.isPrefixOf, e]
    · rw [List.drop_eq_nil_of_le (by rw [← Lib.size_eq]; omega), list_end s 5 h]
      rfl
   rw [← e]
 · rw [size_mk, Lib.extract_to_end]
   unfold Lib.trimPrefix
   have := Lib.size_eq s
   split
   · rw [List.drop_drop, List.length_drop]; omega
   · rw [List.length_drop]; omega
 · intro h5
   rw [Lib.extract_to_end]
   have hlt : 5 < s.data.toList.length := (List.getElem?_eq_some_iff.1 h5).1
   have hd : s.data.toList.drop 5 = 92 :: s.data.toList.drop 6 := by
    rw [List.drop_eq_getElem_cons hlt]
    congr 1
    rw [List.getElem?_eq_getElem hlt] at h5
    exact Option.some.inj h5
   rw [hd]
   simp [Lib.trimPrefix, Lib.hasPrefix, List.isPrefixOf]
set_option maxRecDepth 100000 in
set_option maxHeartbeats 2000000 in
theorem escaped_simple (s : ByteArray) (w : World) (hT : Tabs w) (_hs : s.size ≤ 140737488355328) (x : Nat) (hx : s.data.toList[0]?.bind simple = some x) :
 Calls Tryz.prog 207 #[.string s] w fun e w' => e = .returned (.tuple #[.int .i32 x, .int .i64 1]) ∧ Below w.heap.size w w' := by
 obtain ⟨h1, h2, h3⟩ := look_eq s
 have h1' : escLook (decodeGo s).1 = some (x : Int) := by rw [h1, hx]; rfl
 have hpos : 0 < s.size := by
  by_cases h : 0 < s.size
  · exact h
  · rw [list_end s 0 h] at hx; cases hx
 have h2' := h2 hpos
 have hdec := Tryz.utf8_DecodeRuneInString s w
 have hD := escD_has (decodeGo s).1
 rw [h1'] at hD
 dsimp only [Option.isSome, Option.getD] at hD
 clear h1'
 obtain ⟨c, hc⟩ : ∃ c, (decodeGo s).1 = c := ⟨_, rfl⟩
 obtain ⟨n, hn⟩ : ∃ n, (decodeGo s).2 = n := ⟨_, rfl⟩
 rw [hc] at h3 hD
 rw [hn] at h2'
 rw [hc, hn] at hdec
 clear hc hn
 have hkey : keyOf Tryz.prog 21 (.int .i32 (c : Int)) = some (.int .i32 (c : Int)) := keyOf_int_mk Tryz.underlying21 (by simp [Lit.wf, IntKind.min, IntKind.max, IntKind.signed, IntKind.bits]; omega)
 have h2i : (0 : Int) < (n : Int) := by omega
 clear h1 h2 hx
 go_enter Tryz.func207, Tryz.ntmps207
 go_wp2_with (first
  | (go_at_call 189; refine (hdec hT.1).mono ?_; rintro e w1 ⟨rfl, hb1⟩)
  | (go_at_call 181; refine (escapes_any w1).mono ?_; rintro e w2 ⟨rfl, ho2, hb2⟩)
  | (at_lookup; refine wpList_lookup_own_ok _ rfl _ _ 237 rfl 21 21 law21 Tryz.underlying237 (plainElem (H := Unit) Tryz.prog 21) (zero21 _) (.lit (.int .i32 0)) [] (plainElem_int Tryz.underlying21 (by decide)) _ _ escD rfl ho2 _ _ rfl hkey ?_; rw [hD.1]; intro v ps hv
     obtain ⟨q, rfl, hq, _⟩ := plainElem_int_inv Tryz.underlying21 hv
     clear hv))
 go_ret2
 have hz1 := hb1.size
 refine ⟨?_, hb1.trans (hb2.mono hz1)⟩
 rw [hD.2] at hq
 have e : q = x := by
  have := congrArg Prod.fst hq
  simp only [DataW.lit.injEq, Lit.int.injEq, true_and] at this
  exact this.symm
 rw [e]
 rfl
set_option maxRecDepth 100000 in
set_option maxHeartbeats 2000000 in
theorem escaped_neg (s : ByteArray) (w : World) (hT : Tabs w) (hs : s.size ≤ 140737488355328) (hx : s.data.toList[0]?.bind simple = none) (hu : unitL s.data.toList < 0) :
 Calls Tryz.prog 207 #[.string s] w fun e w' => e = .returned (.tuple #[.int .i32 (escR s.data.toList).1, .int .i64 (escR s.data.toList).2]) ∧ Below w.heap.size w w' := by
 obtain ⟨h1, h2, h3⟩ := look_eq s
 rw [hx] at h1
 have hdec := Tryz.utf8_DecodeRuneInString s w
 have hD := escD_has (decodeGo s).1
 rw [h1] at hD
 dsimp only [Option.map, Option.isSome, Option.getD] at hD
 obtain ⟨c, hc⟩ : ∃ c, (decodeGo s).1 = c := ⟨_, rfl⟩
 obtain ⟨n, hn⟩ : ∃ n, (decodeGo s).2 = n := ⟨_, rfl⟩
 rw [hc] at h3 hD
 rw [hc, hn] at hdec
 clear hc hn
 have hkey : keyOf Tryz.prog 21 (.int .i32 (c : Int)) = some (.int .i32 (c : Int)) := keyOf_int_mk Tryz.underlying21 (by simp [Lit.wf, IntKind.min, IntKind.max, IntKind.signed, IntKind.bits]; omega)
 have hU := fun w hT => unit_any s w hT hs
 obtain ⟨a, ha'⟩ : ∃ a, unitL s.data.toList = a := ⟨_, rfl⟩
 have hR : escR s.data.toList = (0, 0) := by unfold escR; rw [hx]; simp only; rw [if_pos hu]
 rw [hR]
 rw [ha'] at hU hu
 clear h1 h2 hx ha'
 go_enter Tryz.func207, Tryz.ntmps207
 go_wp2_with (first
  | (go_at_call 189; refine (hdec hT.1).mono ?_; rintro e w1 ⟨rfl, hb1⟩; have hT1 := hT.below hb1)
  | (go_at_call 181; refine (escapes_any w1).mono ?_; rintro e w2 ⟨rfl, ho2, hb2⟩; have hT2 := hT1.below hb2)
  | (at_lookup; refine wpList_lookup_own_ok _ rfl _ _ 237 rfl 21 21 law21 Tryz.underlying237 (plainElem (H := Unit) Tryz.prog 21) (zero21 _) (.lit (.int .i32 0)) [] (plainElem_int Tryz.underlying21 (by decide)) _ _ escD rfl ho2 _ _ rfl hkey ?_; rw [hD.1]; intro v ps hv
     obtain ⟨q, rfl, hq, _⟩ := plainElem_int_inv Tryz.underlying21 hv
     clear hv hq)
  | (go_at_call_of 236 (Value.string s); refine (hU _ hT2).mono ?_; rintro e w3 ⟨rfl, hb3⟩; have hT3 := hT2.below hb3))
 go_ret2
 have hz1 := hb1.size
 have hz2 := hb2.size
 exact ⟨rfl, (hb1.trans (hb2.mono hz1)).trans (hb3.mono (by omega))⟩
set_option maxRecDepth 100000 in
set_option maxHeartbeats 2000000 in
theorem escaped_low (s : ByteArray) (w : World) (hT : Tabs w) (hs : s.size ≤ 140737488355328) (hx : s.data.toList[0]?.bind simple = none) (h0 : 0 ≤ unitL s.data.toList) (hu : unitL s.data.toList < 55296) :
 Calls Tryz.prog 207 #[.string s] w fun e w' => e = .returned (.tuple #[.int .i32 (escR s.data.toList).1, .int .i64 (escR s.data.toList).2]) ∧ Below w.heap.size w w' := by
 obtain ⟨h1, h2, h3⟩ := look_eq s
 rw [hx] at h1
 have hdec := Tryz.utf8_DecodeRuneInString s w
 have hD := escD_has (decodeGo s).1
 rw [h1] at hD
 dsimp only [Option.map, Option.isSome, Option.getD] at hD
 obtain ⟨c, hc⟩ : ∃ c, (decodeGo s).1 = c := ⟨_, rfl⟩
 obtain ⟨n, hn⟩ : ∃ n, (decodeGo s).2 = n := ⟨_, rfl⟩
 rw [hc] at h3 hD
 rw [hc, hn] at hdec
 clear hc hn
 have hkey : keyOf Tryz.prog 21 (.int .i32 (c : Int)) = some (.int .i32 (c : Int)) := keyOf_int_mk Tryz.underlying21 (by simp [Lit.wf, IntKind.min, IntKind.max, IntKind.signed, IntKind.bits]; omega)
 have hU := fun w hT => unit_any s w hT hs
 obtain ⟨a, ha'⟩ : ∃ a, unitL s.data.toList = a := ⟨_, rfl⟩
 have hR : escR s.data.toList = (unitL s.data.toList, 5) := by unfold escR; rw [hx]; simp only; rw [if_neg (by omega), if_pos (.inl hu)]
 rw [hR, ha']
 rw [ha'] at hU h0 hu
 clear h1 h2 hx ha'
 go_enter Tryz.func207, Tryz.ntmps207
 go_wp2_with (first
  | (go_at_call 189; refine (hdec hT.1).mono ?_; rintro e w1 ⟨rfl, hb1⟩; have hT1 := hT.below hb1)
  | (go_at_call 181; refine (escapes_any w1).mono ?_; rintro e w2 ⟨rfl, ho2, hb2⟩; have hT2 := hT1.below hb2)
  | (at_lookup; refine wpList_lookup_own_ok _ rfl _ _ 237 rfl 21 21 law21 Tryz.underlying237 (plainElem (H := Unit) Tryz.prog 21) (zero21 _) (.lit (.int .i32 0)) [] (plainElem_int Tryz.underlying21 (by decide)) _ _ escD rfl ho2 _ _ rfl hkey ?_; rw [hD.1]; intro v ps hv
     obtain ⟨q, rfl, hq, _⟩ := plainElem_int_inv Tryz.underlying21 hv
     clear hv hq)
  | (go_at_call_of 236 (Value.string s); refine (hU _ hT2).mono ?_; rintro e w3 ⟨rfl, hb3⟩; have hT3 := hT2.below hb3))
 go_ret2
 have hz1 := hb1.size
 have hz2 := hb2.size
 exact ⟨rfl, (hb1.trans (hb2.mono hz1)).trans (hb3.mono (by omega))⟩
set_option maxRecDepth 100000 in
set_option maxHeartbeats 2000000 in
theorem escaped_high (s : ByteArray) (w : World) (hT : Tabs w) (hs : s.size ≤ 140737488355328) (hx : s.data.toList[0]?.bind simple = none) (hu : 57343 < unitL s.data.toList) :
 Calls Tryz.prog 207 #[.string s] w fun e w' => e = .returned (.tuple #[.int .i32 (escR s.data.toList).1, .int .i64 (escR s.data.toList).2]) ∧ Below w.heap.size w w' := by
 obtain ⟨h1, h2, h3⟩ := look_eq s
 rw [hx] at h1
 have hdec := Tryz.utf8_DecodeRuneInString s w
 have hD := escD_has (decodeGo s).1
 rw [h1] at hD
 dsimp only [Option.map, Option.isSome, Option.getD] at hD
 obtain ⟨c, hc⟩ : ∃ c, (decodeGo s).1 = c := ⟨_, rfl⟩
 obtain ⟨n, hn⟩ : ∃ n, (decodeGo s).2 = n := ⟨_, rfl⟩
 rw [hc] at h3 hD
 rw [hc, hn] at hdec
 clear hc hn
 have hkey : keyOf Tryz.prog 21 (.int .i32 (c : Int)) = some (.int .i32 (c : Int)) := keyOf_int_mk Tryz.underlying21 (by simp [Lit.wf, IntKind.min, IntKind.max, IntKind.signed, IntKind.bits]; omega)
 have hU := fun w hT => unit_any s w hT hs
 obtain ⟨a, ha'⟩ : ∃ a, unitL s.data.toList = a := ⟨_, rfl⟩
 have hR : escR s.data.toList = (unitL s.data.toList, 5) := by unfold escR; rw [hx]; simp only; rw [if_neg (by omega), if_pos (.inr hu)]
 have hrg := (unitL_range s.data.toList).2
 rw [hR, ha']
 rw [ha'] at hU hu hrg
 have hnl : ¬ a < 0 := by omega
 have hnm : decide (a < 55296) = false := by simp; omega
 clear h1 h2 hx ha'
 go_enter Tryz.func207, Tryz.ntmps207
 go_wp2_with (first
  | (go_at_call 189; refine (hdec hT.1).mono ?_; rintro e w1 ⟨rfl, hb1⟩; have hT1 := hT.below hb1)
  | (go_at_call 181; refine (escapes_any w1).mono ?_; rintro e w2 ⟨rfl, ho2, hb2⟩; have hT2 := hT1.below hb2)
  | (at_lookup; refine wpList_lookup_own_ok _ rfl _ _ 237 rfl 21 21 law21 Tryz.underlying237 (plainElem (H := Unit) Tryz.prog 21) (zero21 _) (.lit (.int .i32 0)) [] (plainElem_int Tryz.underlying21 (by decide)) _ _ escD rfl ho2 _ _ rfl hkey ?_; rw [hD.1]; intro v ps hv
     obtain ⟨q, rfl, hq, _⟩ := plainElem_int_inv Tryz.underlying21 hv
     clear hv hq)
  | (go_at_call_of 236 (Value.string s); refine (hU _ hT2).mono ?_; rintro e w3 ⟨rfl, hb3⟩; have hT3 := hT2.below hb3))
 go_ret2
 have hz1 := hb1.size
 have hz2 := hb2.size
 exact ⟨rfl, (hb1.trans (hb2.mono hz1)).trans (hb3.mono (by omega))⟩
set_option maxRecDepth 100000 in
set_option maxHeartbeats 2000000 in
theorem escaped_lone (s : ByteArray) (w : World) (hT : Tabs w) (hs : s.size ≤ 140737488355328) (hx : s.data.toList[0]?.bind simple = none) (h0 : 55296 ≤ unitL s.data.toList) (hu : unitL s.data.toList ≤ 57343) (h5b : s.data.toList[5]? ≠ some 92) :
 Calls Tryz.prog 207 #[.string s] w fun e w' => e = .returned (.tuple #[.int .i32 (escR s.data.toList).1, .int .i64 (escR s.data.toList).2]) ∧ Below w.heap.size w w' := by
 obtain ⟨h1, h2, h3⟩ := look_eq s
 rw [hx] at h1
 have hdec := Tryz.utf8_DecodeRuneInString s w
 have hD := escD_has (decodeGo s).1
 rw [h1] at hD
 dsimp only [Option.map, Option.isSome, Option.getD] at hD
 obtain ⟨c, hc⟩ : ∃ c, (decodeGo s).1 = c := ⟨_, rfl⟩
 obtain ⟨n, hn⟩ : ∃ n, (decodeGo s).2 = n := ⟨_, rfl⟩
 rw [hc] at h3 hD
 rw [hc, hn] at hdec
 clear hc hn
 have hkey : keyOf Tryz.prog 21 (.int .i32 (c : Int)) = some (.int .i32 (c : Int)) := keyOf_int_mk Tryz.underlying21 (by simp [Lit.wf, IntKind.min, IntKind.max, IntKind.signed, IntKind.bits]; omega)
 have hU := fun w hT => unit_any s w hT hs
 obtain ⟨a, ha'⟩ : ∃ a, unitL s.data.toList = a := ⟨_, rfl⟩
 have hR : escR s.data.toList = (0, 0) := by unfold escR; rw [hx]; simp only; rw [if_neg (by omega), if_neg (by omega), if_neg (fun h => h5b h.2.1)]
 have h5 : 5 ≤ s.size := by
  by_cases h : 4 < s.size
  · omega
  · rw [unit_short (by rw [← Lib.size_eq]; omega)] at h0; omega
 rw [hR]
 have hB : decide (s.data.toList[5]? = some 92) = false := decide_eq_false h5b
 rw [ha'] at hU h0 hu
 have hnl : ¬ a < 0 := by omega
 have hnm : decide (a < 55296) = false := by simp; omega
 have hnh : decide (57343 < a) = false := by simp; omega
 clear h1 h2 hx ha'
 go_enter Tryz.func207, Tryz.ntmps207
 go_wp2_with (first
  | (go_at_call 189; refine (hdec hT.1).mono ?_; rintro e w1 ⟨rfl, hb1⟩; have hT1 := hT.below hb1)
  | (go_at_call 181; refine (escapes_any w1).mono ?_; rintro e w2 ⟨rfl, ho2, hb2⟩; have hT2 := hT1.below hb2)
  | (at_lookup; refine wpList_lookup_own_ok _ rfl _ _ 237 rfl 21 21 law21 Tryz.underlying237 (plainElem (H := Unit) Tryz.prog 21) (zero21 _) (.lit (.int .i32 0)) [] (plainElem_int Tryz.underlying21 (by decide)) _ _ escD rfl ho2 _ _ rfl hkey ?_; rw [hD.1]; intro v ps hv
     obtain ⟨q, rfl, hq, _⟩ := plainElem_int_inv Tryz.underlying21 hv
     clear hv hq)
  | (go_at_call_of 236 (Value.string s); refine (hU _ hT2).mono ?_; rintro e w3 ⟨rfl, hb3⟩; have hT3 := hT2.below hb3)
  | (go_at_call 237; refine (cut_back s w3 h5).mono ?_; rw [hB]; rintro e w3' ⟨⟨t, rfl, ht, htl⟩, hw⟩; subst hw; clear htl)
  | (go_at_call_of 236 (Value.string t); refine (unit_any t w3 hT3 (by omega)).mono ?_; rintro e w4 ⟨rfl, hb4⟩; have hz4 := Lib.hid hb4.size))
 go_ret2
 have hz1 := hb1.size
 have hz2 := hb2.size
 have hz3 := hb3.size
 exact ⟨rfl, ((hb1.trans (hb2.mono hz1)).trans (hb3.mono (by omega))).trans (hb4.mono (by omega))⟩
set_option maxRecDepth 100000 in
set_option maxHeartbeats 2000000 in
theorem escaped_order (s : ByteArray) (w : World) (hT : Tabs w) (hs : s.size ≤ 140737488355328) (hx : s.data.toList[0]?.bind simple = none) (h5b : s.data.toList[5]? = some 92) (h0 : 55296 ≤ unitL s.data.toList) (hu : unitL s.data.toList ≤ 57343) (ho : 56320 ≤ unitL s.data.toList) :
 Calls Tryz.prog 207 #[.string s] w fun e w' => e = .returned (.tuple #[.int .i32 (escR s.data.toList).1, .int .i64 (escR s.data.toList).2]) ∧ Below w.heap.size w w' := by
 obtain ⟨h1, h2, h3⟩ := look_eq s
 rw [hx] at h1
 have hdec := Tryz.utf8_DecodeRuneInString s w
 have hD := escD_has (decodeGo s).1
 rw [h1] at hD
 dsimp only [Option.map, Option.isSome, Option.getD] at hD
 obtain ⟨c, hc⟩ : ∃ c, (decodeGo s).1 = c := ⟨_, rfl⟩
 obtain ⟨n, hn⟩ : ∃ n, (decodeGo s).2 = n := ⟨_, rfl⟩
 rw [hc] at h3 hD
 rw [hc, hn] at hdec
 clear hc hn
 have hkey : keyOf Tryz.prog 21 (.int .i32 (c : Int)) = some (.int .i32 (c : Int)) := keyOf_int_mk Tryz.underlying21 (by simp [Lit.wf, IntKind.min, IntKind.max, IntKind.signed, IntKind.bits]; omega)
 have hU := fun w hT => unit_any s w hT hs
 obtain ⟨a, ha'⟩ : ∃ a, unitL s.data.toList = a := ⟨_, rfl⟩
 have hR : escR s.data.toList = (0, 0) := by unfold escR; rw [hx]; simp only; rw [if_neg (by omega), if_neg (by omega), if_neg (by omega)]
 have h5 : 5 ≤ s.size := by
  by_cases h : 4 < s.size
  · omega
  · rw [unit_short (by rw [← Lib.size_eq]; omega)] at h0; omega
 rw [hR]
 obtain ⟨b, hb⟩ : ∃ b, unitL (s.data.toList.drop 6) = b := ⟨_, rfl⟩
 have hB : decide (s.data.toList[5]? = some 92) = true := decide_eq_true h5b
 rw [ha'] at hU h0 hu ho
 have hnl : ¬ a < 0 := by omega
 have hnm : decide (a < 55296) = false := by simp; omega
 have hnh : decide (57343 < a) = false := by simp; omega
 have hno : decide (a < 56320) = false := by simp; omega
 have HBB := Lib.hid hb
 clear h1 h2 hx ha' hb
 go_enter Tryz.func207, Tryz.ntmps207
 go_wp2_with (first
  | (go_at_call 189; refine (hdec hT.1).mono ?_; rintro e w1 ⟨rfl, hb1⟩; have hT1 := hT.below hb1)
  | (go_at_call 181; refine (escapes_any w1).mono ?_; rintro e w2 ⟨rfl, ho2, hb2⟩; have hT2 := hT1.below hb2)
  | (at_lookup; refine wpList_lookup_own_ok _ rfl _ _ 237 rfl 21 21 law21 Tryz.underlying237 (plainElem (H := Unit) Tryz.prog 21) (zero21 _) (.lit (.int .i32 0)) [] (plainElem_int Tryz.underlying21 (by decide)) _ _ escD rfl ho2 _ _ rfl hkey ?_; rw [hD.1]; intro v ps hv
     obtain ⟨q, rfl, hq, _⟩ := plainElem_int_inv Tryz.underlying21 hv
     clear hv hq)
  | (go_at_call_of 236 (Value.string s); refine (hU _ hT2).mono ?_; rintro e w3 ⟨rfl, hb3⟩; have hT3 := hT2.below hb3)
  | (go_at_call 237; refine (cut_back s w3 h5).mono ?_; rw [hB]; rintro e w3' ⟨⟨t, rfl, ht, htl⟩, hw⟩; subst hw
     have htu := unit_any t w3 hT3 (by omega)
     rw [htl h5b, HBB.out] at htu
     clear htl)
  | (go_at_call_of 236 (Value.string t); refine htu.mono ?_; rintro e w4 ⟨rfl, hb4⟩; have hz4 := Lib.hid hb4.size))
 go_ret2
 have hz1 := hb1.size
 have hz2 := hb2.size
 have hz3 := hb3.size
 exact ⟨rfl, ((hb1.trans (hb2.mono hz1)).trans (hb3.mono (by omega))).trans (hb4.mono (by omega))⟩
set_option maxRecDepth 100000 in
set_option maxHeartbeats 2000000 in
theorem escaped_second (s : ByteArray) (w : World) (hT : Tabs w) (hs : s.size ≤ 140737488355328) (hx : s.data.toList[0]?.bind simple = none) (h5b : s.data.toList[5]? = some 92) (h0 : 55296 ≤ unitL s.data.toList) (hu : unitL s.data.toList ≤ 57343) (ho : unitL s.data.toList < 56320) (hb0 : unitL (s.data.toList.drop 6) < 56320) :
 Calls Tryz.prog 207 #[.string s] w fun e w' => e = .returned (.tuple #[.int .i32 (escR s.data.toList).1, .int .i64 (escR s.data.toList).2]) ∧ Below w.heap.size w w' := by
 obtain ⟨h1, h2, h3⟩ := look_eq s
 rw [hx] at h1
 have hdec := Tryz.utf8_DecodeRuneInString s w
 have hD := escD_has (decodeGo s).1
 rw [h1] at hD
 dsimp only [Option.map, Option.isSome, Option.getD] at hD
 obtain ⟨c, hc⟩ : ∃ c, (decodeGo s).1 = c := ⟨_, rfl⟩
 obtain ⟨n, hn⟩ : ∃ n, (decodeGo s).2 = n := ⟨_, rfl⟩
 rw [hc] at h3 hD
 rw [hc, hn] at hdec
 clear hc hn
 have hkey : keyOf Tryz.prog 21 (.int .i32 (c : Int)) = some (.int .i32 (c : Int)) := keyOf_int_mk Tryz.underlying21 (by simp [Lit.wf, IntKind.min, IntKind.max, IntKind.signed, IntKind.bits]; omega)
 have hU := fun w hT => unit_any s w hT hs
 obtain ⟨a, ha'⟩ : ∃ a, unitL s.data.toList = a := ⟨_, rfl⟩
 have hR : escR s.data.toList = (0, 0) := by unfold escR; rw [hx]; simp only; rw [if_neg (by omega), if_neg (by omega), if_neg (by omega)]
 have h5 : 5 ≤ s.size := by
  by_cases h : 4 < s.size
  · omega
  · rw [unit_short (by rw [← Lib.size_eq]; omega)] at h0; omega
 rw [hR]
 obtain ⟨b, hb⟩ : ∃ b, unitL (s.data.toList.drop 6) = b := ⟨_, rfl⟩
 have hB : decide (s.data.toList[5]? = some 92) = true := decide_eq_true h5b
 rw [ha'] at hU h0 hu ho
 rw [hb] at hb0
 have hnl : ¬ a < 0 := by omega
 have hnm : decide (a < 55296) = false := by simp; omega
 have hnh : decide (57343 < a) = false := by simp; omega
 have hno : decide (a < 56320) = true := by simp; omega
 have hnp : decide (56320 ≤ b) = false := by simp; omega
 have HBB := Lib.hid hb
 clear h1 h2 hx ha' hb
 go_enter Tryz.func207, Tryz.ntmps207
 go_wp2_with (first
  | (go_at_call 189; refine (hdec hT.1).mono ?_; rintro e w1 ⟨rfl, hb1⟩; have hT1 := hT.below hb1)
  | (go_at_call 181; refine (escapes_any w1).mono ?_; rintro e w2 ⟨rfl, ho2, hb2⟩; have hT2 := hT1.below hb2)
  | (at_lookup; refine wpList_lookup_own_ok _ rfl _ _ 237 rfl 21 21 law21 Tryz.underlying237 (plainElem (H := Unit) Tryz.prog 21) (zero21 _) (.lit (.int .i32 0)) [] (plainElem_int Tryz.underlying21 (by decide)) _ _ escD rfl ho2 _ _ rfl hkey ?_; rw [hD.1]; intro v ps hv
     obtain ⟨q, rfl, hq, _⟩ := plainElem_int_inv Tryz.underlying21 hv
     clear hv hq)
  | (go_at_call_of 236 (Value.string s); refine (hU _ hT2).mono ?_; rintro e w3 ⟨rfl, hb3⟩; have hT3 := hT2.below hb3)
  | (go_at_call 237; refine (cut_back s w3 h5).mono ?_; rw [hB]; rintro e w3' ⟨⟨t, rfl, ht, htl⟩, hw⟩; subst hw
     have htu := unit_any t w3 hT3 (by omega)
     rw [htl h5b, HBB.out] at htu
     clear htl)
  | (go_at_call_of 236 (Value.string t); refine htu.mono ?_; rintro e w4 ⟨rfl, hb4⟩; have hz4 := Lib.hid hb4.size))
 go_ret2
 have hz1 := hb1.size
 have hz2 := hb2.size
 have hz3 := hb3.size
 exact ⟨rfl, ((hb1.trans (hb2.mono hz1)).trans (hb3.mono (by omega))).trans (hb4.mono (by omega))⟩
set_option maxRecDepth 100000 in
set_option maxHeartbeats 2000000 in
theorem escaped_third (s : ByteArray) (w : World) (hT : Tabs w) (hs : s.size ≤ 140737488355328) (hx : s.data.toList[0]?.bind simple = none) (h5b : s.data.toList[5]? = some 92) (h0 : 55296 ≤ unitL s.data.toList) (hu : unitL s.data.toList ≤ 57343) (ho : unitL s.data.toList < 56320) (hb0 : 57343 < unitL (s.data.toList.drop 6)) :
 Calls Tryz.prog 207 #[.string s] w fun e w' => e = .returned (.tuple #[.int .i32 (escR s.data.toList).1, .int .i64 (escR s.data.toList).2]) ∧ Below w.heap.size w w' := by
 obtain ⟨h1, h2, h3⟩ := look_eq s
 rw [hx] at h1
 have hdec := Tryz.utf8_DecodeRuneInString s w
 have hD := escD_has (decodeGo s).1
 rw [h1] at hD
 dsimp only [Option.map, Option.isSome, Option.getD] at hD
 obtain ⟨c, hc⟩ : ∃ c, (decodeGo s).1 = c := ⟨_, rfl⟩
 obtain ⟨n, hn⟩ : ∃ n, (decodeGo s).2 = n := ⟨_, rfl⟩
 rw [hc] at h3 hD
 rw [hc, hn] at hdec
 clear hc hn
 have hkey : keyOf Tryz.prog 21 (.int .i32 (c : Int)) = some (.int .i32 (c : Int)) := keyOf_int_mk Tryz.underlying21 (by simp [Lit.wf, IntKind.min, IntKind.max, IntKind.signed, IntKind.bits]; omega)
 have hU := fun w hT => unit_any s w hT hs
 obtain ⟨a, ha'⟩ : ∃ a, unitL s.data.toList = a := ⟨_, rfl⟩
 have hR : escR s.data.toList = (0, 0) := by unfold escR; rw [hx]; simp only; rw [if_neg (by omega), if_neg (by omega), if_neg (by omega)]
 have h5 : 5 ≤ s.size := by
  by_cases h : 4 < s.size
  · omega
  · rw [unit_short (by rw [← Lib.size_eq]; omega)] at h0; omega
 rw [hR]
 obtain ⟨b, hb⟩ : ∃ b, unitL (s.data.toList.drop 6) = b := ⟨_, rfl⟩
 have hB : decide (s.data.toList[5]? = some 92) = true := decide_eq_true h5b
 rw [ha'] at hU h0 hu ho
 rw [hb] at hb0
 have hnl : ¬ a < 0 := by omega
 have hnm : decide (a < 55296) = false := by simp; omega
 have hnh : decide (57343 < a) = false := by simp; omega
 have hno : decide (a < 56320) = true := by simp; omega
 have hnp : decide (56320 ≤ b) = true := by simp; omega
 have hnq : decide (b ≤ 57343) = false := by simp; omega
 have HBB := Lib.hid hb
 clear h1 h2 hx ha' hb
 go_enter Tryz.func207, Tryz.ntmps207
 go_wp2_with (first
  | (go_at_call 189; refine (hdec hT.1).mono ?_; rintro e w1 ⟨rfl, hb1⟩; have hT1 := hT.below hb1)
  | (go_at_call 181; refine (escapes_any w1).mono ?_; rintro e w2 ⟨rfl, ho2, hb2⟩; have hT2 := hT1.below hb2)
  | (at_lookup; refine wpList_lookup_own_ok _ rfl _ _ 237 rfl 21 21 law21 Tryz.underlying237 (plainElem (H := Unit) Tryz.prog 21) (zero21 _) (.lit (.int .i32 0)) [] (plainElem_int Tryz.underlying21 (by decide)) _ _ escD rfl ho2 _ _ rfl hkey ?_; rw [hD.1]; intro v ps hv
     obtain ⟨q, rfl, hq, _⟩ := plainElem_int_inv Tryz.underlying21 hv
     clear hv hq)
  | (go_at_call_of 236 (Value.string s); refine (hU _ hT2).mono ?_; rintro e w3 ⟨rfl, hb3⟩; have hT3 := hT2.below hb3)
  | (go_at_call 237; refine (cut_back s w3 h5).mono ?_; rw [hB]; rintro e w3' ⟨⟨t, rfl, ht, htl⟩, hw⟩; subst hw
     have htu := unit_any t w3 hT3 (by omega)
     rw [htl h5b, HBB.out] at htu
     clear htl)
  | (go_at_call_of 236 (Value.string t); refine htu.mono ?_; rintro e w4 ⟨rfl, hb4⟩; have hz4 := Lib.hid hb4.size))
 go_ret2
 have hz1 := hb1.size
 have hz2 := hb2.size
 have hz3 := hb3.size
 exact ⟨rfl, ((hb1.trans (hb2.mono hz1)).trans (hb3.mono (by omega))).trans (hb4.mono (by omega))⟩
set_option maxRecDepth 100000 in
set_option maxHeartbeats 2000000 in
theorem escaped_pair (s : ByteArray) (w : World) (hT : Tabs w) (hs : s.size ≤ 140737488355328) (hx : s.data.toList[0]?.bind simple = none) (h5b : s.data.toList[5]? = some 92) (h0 : 55296 ≤ unitL s.data.toList) (hu : unitL s.data.toList ≤ 57343) (ho : unitL s.data.toList < 56320) (hb0 : 56320 ≤ unitL (s.data.toList.drop 6)) (hb1 : unitL (s.data.toList.drop 6) ≤ 57343) :
 Calls Tryz.prog 207 #[.string s] w fun e w' => e = .returned (.tuple #[.int .i32 (escR s.data.toList).1, .int .i64 (escR s.data.toList).2]) ∧ Below w.heap.size w w' := by
 obtain ⟨h1, h2, h3⟩ := look_eq s
 rw [hx] at h1
 have hdec := Tryz.utf8_DecodeRuneInString s w
 have hD := escD_has (decodeGo s).1
 rw [h1] at hD
 dsimp only [Option.map, Option.isSome, Option.getD] at hD
 obtain ⟨c, hc⟩ : ∃ c, (decodeGo s).1 = c := ⟨_, rfl⟩
 obtain ⟨n, hn⟩ : ∃ n, (decodeGo s).2 = n := ⟨_, rfl⟩
 rw [hc] at h3 hD
 rw [hc, hn] at hdec
 clear hc hn
 have hkey : keyOf Tryz.prog 21 (.int .i32 (c : Int)) = some (.int .i32 (c : Int)) := keyOf_int_mk Tryz.underlying21 (by simp [Lit.wf, IntKind.min, IntKind.max, IntKind.signed, IntKind.bits]; omega)
 have hU := fun w hT => unit_any s w hT hs
 obtain ⟨a, ha'⟩ : ∃ a, unitL s.data.toList = a := ⟨_, rfl⟩
 have hR : escR s.data.toList = ((unitL s.data.toList - 55296) * 1024 + unitL (s.data.toList.drop 6) - 56320 + 65536, 11) := by unfold escR; rw [hx]; simp only; rw [if_neg (by omega), if_neg (by omega), if_pos ⟨ho, h5b, hb0, hb1⟩]
 have h5 : 5 ≤ s.size := by
  by_cases h : 4 < s.size
  · omega
  · rw [unit_short (by rw [← Lib.size_eq]; omega)] at h0; omega
 rw [hR]
 obtain ⟨b, hb⟩ : ∃ b, unitL (s.data.toList.drop 6) = b := ⟨_, rfl⟩
 have hB : decide (s.data.toList[5]? = some 92) = true := decide_eq_true h5b
 rw [ha', hb]
 rw [ha'] at hU h0 hu ho
 rw [hb] at hb0 hb1
 have hnl : ¬ a < 0 := by omega
 have hnm : decide (a < 55296) = false := by simp; omega
 have hnh : decide (57343 < a) = false := by simp; omega
 have hno : decide (a < 56320) = true := by simp; omega
 have hnp : decide (56320 ≤ b) = true := by simp; omega
 have hnq : decide (b ≤ 57343) = true := by simp; omega
 have HBB := Lib.hid hb
 clear h1 h2 hx ha' hb
 go_enter Tryz.func207, Tryz.ntmps207
 go_wp2_with (first
  | (go_at_call 189; refine (hdec hT.1).mono ?_; rintro e w1 ⟨rfl, hb1⟩; have hT1 := hT.below hb1)
  | (go_at_call 181; refine (escapes_any w1).mono ?_; rintro e w2 ⟨rfl, ho2, hb2⟩; have hT2 := hT1.below hb2)
  | (at_lookup; refine wpList_lookup_own_ok _ rfl _ _ 237 rfl 21 21 law21 Tryz.underlying237 (plainElem (H := Unit) Tryz.prog 21) (zero21 _) (.lit (.int .i32 0)) [] (plainElem_int Tryz.underlying21 (by decide)) _ _ escD rfl ho2 _ _ rfl hkey ?_; rw [hD.1]; intro v ps hv
     obtain ⟨q, rfl, hq, _⟩ := plainElem_int_inv Tryz.underlying21 hv
     clear hv hq)
  | (go_at_call_of 236 (Value.string s); refine (hU _ hT2).mono ?_; rintro e w3 ⟨rfl, hb3⟩; have hT3 := hT2.below hb3)
  | (go_at_call 237; refine (cut_back s w3 h5).mono ?_; rw [hB]; rintro e w3' ⟨⟨t, rfl, ht, htl⟩, hw⟩; subst hw
     have htu := unit_any t w3 hT3 (by omega)
     rw [htl h5b, HBB.out] at htu
     clear htl)
  | (go_at_call_of 236 (Value.string t); refine htu.mono ?_; rintro e w4 ⟨rfl, hb4⟩; have hz4 := Lib.hid hb4.size))
 go_ret2
 have hz1 := hb1.size
 have hz2 := hb2.size
 have hz3 := hb3.size
 exact ⟨rfl, ((hb1.trans (hb2.mono hz1)).trans (hb3.mono (by omega))).trans (hb4.mono (by omega))⟩
theorem escaped_any (s : ByteArray) (w : World) (hT : Tabs w) (hs : s.size ≤ 140737488355328) :
 Calls Tryz.prog 207 #[.string s] w fun e w' => e = .returned (.tuple #[.int .i32 (escR s.data.toList).1, .int .i64 (escR s.data.toList).2]) ∧ Below w.heap.size w w' := by
 cases hx : s.data.toList[0]?.bind simple with
 | some x =>
  have hR : escR s.data.toList = ((x : Int), 1) := by unfold escR; rw [hx]
  rw [hR]
  exact escaped_simple s w hT hs x hx
 | none =>
  by_cases h1 : unitL s.data.toList < 0
  · exact escaped_neg s w hT hs hx h1
  by_cases h2 : unitL s.data.toList < 55296
  · exact escaped_low s w hT hs hx (by omega) h2
  by_cases h3 : 57343 < unitL s.data.toList
  · exact escaped_high s w hT hs hx h3
  by_cases h4 : s.data.toList[5]? = some 92
  · by_cases h5 : 56320 ≤ unitL s.data.toList
    · exact escaped_order s w hT hs hx h4 (by omega) (by omega) h5
    by_cases h6 : unitL (s.data.toList.drop 6) < 56320
    · exact escaped_second s w hT hs hx h4 (by omega) (by omega) (by omega) h6
    by_cases h7 : 57343 < unitL (s.data.toList.drop 6)
    · exact escaped_third s w hT hs hx h4 (by omega) (by omega) (by omega) h7
    · exact escaped_pair s w hT hs hx h4 (by omega) (by omega) (by omega) (by omega) (by omega)
  · exact escaped_lone s w hT hs hx (by omega) (by omega) h4
end Go.Proofs.Jt
/- Jr: What a string says, step by step. No program in sight. -/
namespace Go.Proofs.Jt
open Go.Lib Go.Proofs.Utf

theorem qL_fuel : ∀ (n m : Nat) (l : List UInt8), l.length ≤ n → l.length ≤ m → qL n l = qL m l
 | _, _, [], _, _ => by simp [qL]
 | 0, _, c :: t, h, _ => by simp at h
 | _, 0, c :: t, _, h => by simp at h
 | n + 1, m + 1, c :: t, h1, h2 => by
  simp only [List.length_cons] at h1 h2
  have ih := qL_fuel n m t (by omega) (by omega)
  have ih2 := qL_fuel n m (t.drop (escR t).2) (by rw [List.length_drop]; omega) (by rw [List.length_drop]; omega)
  simp only [qL, ih, ih2]
/-- what a string says from behind its first mark on -/
def qq (l : List UInt8) : Option (List UInt8 × Nat) := qL l.length l
theorem qq_nil : qq [] = none := rfl
theorem qq_end (t : List UInt8) : qq (34 :: t) = some ([], 1) := by simp [qq, qL]
theorem qq_ctl (c : UInt8) (t : List UInt8) (h : c.toNat < 32) : qq (c :: t) = none := by
 have : c ≠ 34 := by rintro rfl; revert h; decide
 simp [qq, qL, this, h]
theorem qq_esc (t : List UInt8) : qq (92 :: t) = if (escR t).2 = 0 then none else (qq (t.drop (escR t).2)).map fun r => (encodeRune (escR t).1 ++ r.1, r.2 + 1 + (escR t).2) := by
 unfold qq
 simp only [List.length_cons, qL]
 rw [if_neg (by decide), if_neg (by decide), if_pos trivial, qL_fuel t.length (t.drop (escR t).2).length _ (by rw [List.length_drop]; omega) (Nat.le_refl _)]
theorem qq_byte (c : UInt8) (t : List UInt8) (h1 : c ≠ 34) (h2 : ¬ c.toNat < 32) (h3 : c ≠ 92) : qq (c :: t) = (qq t).map fun r => (c :: r.1, r.2 + 1) := by
 unfold qq
 simp only [List.length_cons, qL]
 rw [if_neg h1, if_neg h2, if_neg h3]
theorem qq_high : ∀ (p t : List UInt8), (∀ b ∈ p, 128 ≤ b.toNat) → qq (p ++ t) = (qq t).map fun r => (p ++ r.1, r.2 + p.length)
 | [], t, _ => by cases h : qq t <;> simp [h]
 | c :: p, t, h => by
  have hc := h c List.mem_cons_self
  rw [List.cons_append, qq_byte c _ (by rintro rfl; revert hc; decide) (by omega) (by rintro rfl; revert hc; decide), qq_high p t (fun b hb => h b (List.mem_cons_of_mem _ hb))]
  cases qq t with
  | none => rfl
  | some r => simp; omega
theorem take_high (l : List UInt8) (k : Nat) (hl : k ≤ l.length) (h : ∀ j, j < k → 128 ≤ (l.getD j 0).toNat) : ∀ b ∈ l.take k, 128 ≤ b.toNat := by
 intro b hb
 obtain ⟨j, hj, e⟩ := List.mem_iff_getElem.1 hb
 rw [List.length_take] at hj
 have := h j (by omega)
 rw [List.getElem_take] at e
 rw [List.getD_eq_getElem?_getD, List.getElem?_eq_getElem (by omega), Option.getD_some, e] at this
 exact this
theorem dec_point_bytes (l : List UInt8) (hne : l ≠ []) (hp : isPt l = true) : encodeRune (decodeL l).1 = l.take (decodeL l).2 ∧ (decodeL l).2 ≤ l.length ∧ 1 ≤ (decodeL l).2 := by
 obtain ⟨k, h1, h4, hl, hh⟩ := pt_hit l hne hp
 rw [found l k h1 h4 hl hh]
 exact ⟨hh.2, hl, h1⟩
theorem dec_big_bytes (l : List UInt8) (hne : l ≠ []) (hp : isPt l = true) (hb : 128 ≤ (l.getD 0 0).toNat) : ∀ j, j < (decodeL l).2 → 128 ≤ (l.getD j 0).toNat := by
 obtain ⟨k, h1, h4, hl, hh⟩ := pt_hit l hne hp
 rw [found l k h1 h4 hl hh]
 rcases (show k = 1 ∨ k = 2 ∨ k = 3 ∨ k = 4 by omega) with rfl | rfl | rfl | rfl
 · have := (Hit1 l hl).1 hh
   omega
 · have h2 := (Hit2 l hl).1 hh
   intro j hj
   rcases (show j = 0 ∨ j = 1 by omega) with rfl | rfl <;> omega
 · have h2 := (Hit3 l hl).1 hh
   intro j hj
   rcases (show j = 0 ∨ j = 1 ∨ j = 2 by omega) with rfl | rfl | rfl <;> omega
 · have h2 := (Hit4 l hl).1 hh
   intro j hj
   rcases (show j = 0 ∨ j = 1 ∨ j = 2 ∨ j = 3 by omega) with rfl | rfl | rfl | rfl <;> omega
/-- a point that is no mark, no backslash, and not below 32 stands for itself -/
theorem qq_point (l : List UInt8) (hne : l ≠ []) (hp : isPt l = true) (h1 : (decodeL l).1 ≠ 34) (h2 : ¬ (decodeL l).1 < 32) (h3 : (decodeL l).1 ≠ 92) :
 qq l = (qq (l.drop (decodeL l).2)).map fun r => (encodeRune (decodeL l).1 ++ r.1, r.2 + (decodeL l).2) := by
 obtain ⟨e1, e2, e3⟩ := dec_point_bytes l hne hp
 obtain ⟨b, t, rfl⟩ := List.exists_cons_of_ne_nil hne
 by_cases hb : b.toNat < 128
 · rw [decodeL_ascii b t hb] at *
   simp only at *
   rw [e1, qq_byte b t (by rintro rfl; exact h1 rfl) h2 (by rintro rfl; exact h3 rfl)]
   simp
 · have hh := dec_big_bytes (b :: t) hne hp (by simp; omega)
   have := qq_high ((b :: t).take (decodeL (b :: t)).2) ((b :: t).drop (decodeL (b :: t)).2) (take_high _ _ e2 hh)
   rw [List.take_append_drop] at this
   rw [this, e1, List.length_take, Nat.min_eq_left e2]
theorem dec_first (b : UInt8) (t : List UInt8) (n : Nat) (hn : n < 128) : (decodeL (b :: t)).1 = n ↔ b.toNat = n := by
 by_cases hb : b.toNat < 128
 · rw [decodeL_ascii b t hb]
 · have := dec_high b t (by omega)
   omega
theorem valid_ascii (b : UInt8) (t : List UInt8) (hb : b.toNat < 128) (h : validD (b :: t) = true) : validD t = true := by
 have := (valid_step (b :: t) (by simp) h).2
 unfold headW at this
 rw [decodeL_ascii b t hb] at this
 simpa using this
theorem valid_drop_ascii : ∀ (k : Nat) (l : List UInt8), (∀ j, j < k → ∃ b, l[j]? = some b ∧ b.toNat < 128) → validD l = true → validD (l.drop k) = true
 | 0, l, _, h => by simpa using h
 | k + 1, l, hk, h => by
  obtain ⟨b, hb, hb2⟩ := hk 0 (by omega)
  match l, hb with
  | c :: t, hb =>
   obtain rfl : c = b := by simpa using hb
   rw [List.drop_succ_cons]
   exact valid_drop_ascii k t (fun j hj => by
    obtain ⟨d, hd, hd2⟩ := hk (j + 1) (by omega)
    exact ⟨d, by simpa using hd, hd2⟩) (valid_ascii c t hb2 h)
theorem hexV_low {c : UInt8} (h : 0 ≤ hexV c) : c.toNat < 128 := by
 unfold hexV at h
 by_cases hc : c.toNat < 128
 · exact hc
 · rw [if_neg (by omega), if_neg (by omega), if_neg (by omega)] at h; omega
theorem unit_ascii {l : List UInt8} (h : 0 ≤ unitL l) : ∀ j, j < 5 → ∃ b, l[j]? = some b ∧ b.toNat < 128 := by
 by_cases h5 : 4 < l.length
 · obtain ⟨u, a, b, c, d, t, rfl⟩ := five h5
   rw [unitL_cons] at h
   split at h
   · rename_i hh
     obtain ⟨rfl, ha, hb, hc, hd⟩ := hh
     intro j hj
     rcases (show j = 0 ∨ j = 1 ∨ j = 2 ∨ j = 3 ∨ j = 4 by omega) with rfl | rfl | rfl | rfl | rfl
     · exact ⟨117, rfl, by decide⟩
     · exact ⟨a, rfl, hexV_low ha⟩
     · exact ⟨b, rfl, hexV_low hb⟩
     · exact ⟨c, rfl, hexV_low hc⟩
     · exact ⟨d, rfl, hexV_low hd⟩
   · omega
 · rw [unit_short (by omega)] at h; omega
theorem simple_low : ∀ b : UInt8, (simple b).isSome = true → b.toNat < 128 := forall_u8 (by decide +kernel)
theorem simple_val : ∀ b : UInt8, ∀ x, simple b = some x → x < 128 := fun b x h => by
 have : ∀ b : UInt8, ((simple b).getD 0) < 128 := forall_u8 (by decide +kernel)
 have := this b
 rw [h] at this
 exact this
/-- the bytes of an escape are below 128; what it stands for is a point -/
theorem esc_ascii (l : List UInt8) : (∀ j, j < (escR l).2 → ∃ b, l[j]? = some b ∧ b.toNat < 128) ∧ ((escR l).2 ≠ 0 → IsPoint (escR l).1) ∧ (escR l).2 ≤ 11 := by
 unfold escR
 cases hs : l[0]?.bind simple with
 | some x =>
  simp only
  obtain ⟨b, hb, hx⟩ := Option.bind_eq_some_iff.1 hs
  have hxl := simple_val b x hx
  refine ⟨fun j hj => ?_, fun _ => by unfold IsPoint; omega, by omega⟩
  obtain rfl : j = 0 := by omega
  exact ⟨b, hb, simple_low b (by rw [hx]; rfl)⟩
 | none =>
  simp only
  have hr := unitL_range l
  have hr6 := unitL_range (l.drop 6)
  split
  · exact ⟨fun j hj => by omega, fun h => by omega, by omega⟩
  · rename_i h0
    have ha := unit_ascii (l := l) (by omega)
    split
    · exact ⟨ha, fun _ => by unfold IsPoint; omega, by omega⟩
    · split
      · rename_i h1
        obtain ⟨h2, h3, h4, h5⟩ := h1
        have hb := unit_ascii (l := l.drop 6) (by omega)
        refine ⟨fun j hj => ?_, fun _ => by unfold IsPoint; omega, by omega⟩
        by_cases hj5 : j < 5
        · exact ha j hj5
        · by_cases hj6 : j = 5
          · subst hj6; exact ⟨92, h3, by decide⟩
          · obtain ⟨b, hb1, hb2⟩ := hb (j - 6) (by omega)
            rw [List.getElem?_drop, show 6 + (j - 6) = j by omega] at hb1
            exact ⟨b, hb1, hb2⟩
      · exact ⟨fun j hj => by omega, fun h => by omega, by omega⟩
theorem esc_le (l : List UInt8) : (escR l).2 ≤ l.length := by
 by_cases h : (escR l).2 = 0
 · omega
 · obtain ⟨b, hb, _⟩ := (esc_ascii l).1 ((escR l).2 - 1) (by omega)
   have := (List.getElem?_eq_some_iff.1 hb).1
   omega
theorem enc_len4 (n : Int) (h : IsPoint n) : (encodeRune n).length ≤ 4 := by
 rcases len_cases n h with h | h | h | h <;> omega
/-- where a string ends it has not more bytes than there are -/
theorem qq_le : ∀ (k : Nat) (l : List UInt8), l.length ≤ k → ∀ r, qq l = some r → r.2 ≤ l.length ∧ 1 ≤ r.2
 | _, [], _, r, h => by rw [qq_nil] at h; cases h
 | 0, c :: t, hk, r, h => by simp at hk
 | k + 1, c :: t, hk, r, h => by
  simp only [List.length_cons] at hk
  by_cases h1 : c = 34
  · subst h1
    rw [qq_end] at h
    cases h
    simp
  by_cases h2 : c.toNat < 32
  · rw [qq_ctl c t h2] at h; cases h
  by_cases h3 : c = 92
  · subst h3
    rw [qq_esc] at h
    split at h
    · cases h
    · obtain ⟨q, hq, rfl⟩ := Option.map_eq_some_iff.1 h
      have := qq_le k _ (by rw [List.length_drop]; omega) q hq
      rw [List.length_drop] at this
      have := esc_le t
      simp only [List.length_cons]
      omega
  · rw [qq_byte c t h1 h2 h3] at h
    obtain ⟨q, hq, rfl⟩ := Option.map_eq_some_iff.1 h
    have := qq_le k t (by omega) q hq
    simp only [List.length_cons]
    omega
end Go.Proofs.Jt
/- Js: Tokens, step by step; where a text is broken. No program in sight. -/
namespace Go.Proofs.Jt
open Go.Lib Go.Proofs.Utf

theorem brokenL_fuel : ∀ (n m : Nat) (l : List UInt8) (at_ : Nat), l.length ≤ n → l.length ≤ m → brokenL n l at_ = brokenL m l at_
 | 0, 0, _, _, _, _ => rfl
 | 0, m + 1, l, at_, h, _ => by
  have : l = [] := List.length_eq_zero_iff.1 (by omega)
  simp [brokenL, this]
 | n + 1, 0, l, at_, _, h => by
  have : l = [] := List.length_eq_zero_iff.1 (by omega)
  simp [brokenL, this]
 | n + 1, m + 1, l, at_, h1, h2 => by
  simp only [brokenL]
  split
  · rfl
  · have hw := headW_pos l
    rw [brokenL_fuel n m (l.drop (headW l)) _ (by rw [List.length_drop]; omega) (by rw [List.length_drop]; omega)]
def br (l : List UInt8) (at_ : Nat) : Nat := brokenL l.length l at_
theorem br_nil (at_ : Nat) : br [] at_ = at_ := rfl
theorem br_step (l : List UInt8) (at_ : Nat) (hne : l ≠ []) : br l at_ = if isPt l then br (l.drop (headW l)) (at_ + headW l) else at_ := by
 unfold br
 obtain ⟨b, t, rfl⟩ := List.exists_cons_of_ne_nil hne
 have hw := headW_pos (b :: t)
 simp only [List.length_cons]
 rw [brokenL, if_neg hne, brokenL_fuel t.length ((b :: t).drop (headW (b :: t))).length _ _ (by rw [List.length_drop, List.length_cons]; omega) (Nat.le_refl _)]
theorem fffd_prefix (l : List UInt8) (hne : l ≠ []) (h : (decodeL l).1 = 65533) : hasPrefix l [239, 191, 189] = isPt l := by
 cases hp : isPt l with
 | true =>
  obtain ⟨e1, e2, e3⟩ := dec_point_bytes l hne hp
  rw [h] at e1
  have e4 : encodeRune 65533 = [239, 191, 189] := by decide
  have e5 : l = [239, 191, 189] ++ l.drop (decodeL l).2 := by
   rw [show ([239, 191, 189] : List UInt8) = l.take (decodeL l).2 from e4.symm.trans e1, List.take_append_drop]
  unfold hasPrefix
  rw [e5]
  simp
 | false =>
  cases hx : hasPrefix l [239, 191, 189] with
  | false => rfl
  | true =>
   obtain ⟨t, ht⟩ := List.isPrefixOf_iff_prefix.1 hx
   have hh := enc_head 65533 (by unfold IsPoint; decide) t
   rw [show encodeRune 65533 = [239, 191, 189] by decide, ht] at hh
   have := isPt_no l hp
   omega
/-- the word at the head -/
theorem nextL_cons (c : UInt8) (t : List UInt8) : nextL (c :: t) = if isMarkB c then some (1, [c], 1) else if c = 34 then (qq t).map (fun r => (4, r.1, r.2 + 1)) else if 0 < wordN (c :: t) then some (2, (c :: t).take (wordN (c :: t)), wordN (c :: t)) else if 0 < numN (c :: t) then some (3, (c :: t).take (numN (c :: t)), numN (c :: t)) else none := rfl
theorem nextL_le (l : List UInt8) (r : Nat × List UInt8 × Nat) (h : nextL l = some r) : 1 ≤ r.2.2 ∧ r.2.2 ≤ l.length := by
 cases l with
 | nil => cases h
 | cons c t =>
  rw [nextL_cons] at h
  split at h
  · cases h; simp
  · split at h
    · obtain ⟨q, hq, rfl⟩ := Option.map_eq_some_iff.1 h
      have := qq_le _ t (Nat.le_refl _) q hq
      simp only [List.length_cons]
      omega
    · split at h
      · rename_i hw
        cases h
        exact ⟨hw, wordN_le _⟩
      · split at h
        · rename_i hw
          cases h
          exact ⟨hw, numN_le _⟩
        · cases h
theorem tokL_fuel : ∀ (n m : Nat) (l : List UInt8) (at_ : Nat) (acc : List Tok), l.length ≤ n → l.length ≤ m → tokL n l at_ acc = tokL m l at_ acc
 | _, _, [], _, _, _, _ => by simp [tokL]
 | 0, _, c :: t, _, _, h, _ => by simp at h
 | _, 0, c :: t, _, _, _, h => by simp at h
 | n + 1, m + 1, c :: t, at_, acc, h1, h2 => by
  simp only [List.length_cons] at h1 h2
  simp only [tokL]
  split
  · exact tokL_fuel n m t _ _ (by omega) (by omega)
  · cases hx : nextL (c :: t) with
    | none => rfl
    | some r =>
     obtain ⟨k, x, q⟩ := r
     have := nextL_le _ _ hx
     simp only at this ⊢
     exact tokL_fuel n m _ _ _ (by rw [List.length_drop, List.length_cons]; omega) (by rw [List.length_drop, List.length_cons]; omega)
def tt (l : List UInt8) (at_ : Nat) (acc : List Tok) : List Tok × Nat × Nat := tokL l.length l at_ acc
theorem tt_nil (at_ : Nat) (acc : List Tok) : tt [] at_ acc = (acc, 0, 0) := by simp [tt, tokL]
theorem tt_blank (c : UInt8) (t : List UInt8) (at_ : Nat) (acc : List Tok) (h : isBlankB c = true) : tt (c :: t) at_ acc = tt t (at_ + 1) acc := by
 unfold tt
 simp [tokL, h]
theorem tt_none (c : UInt8) (t : List UInt8) (at_ : Nat) (acc : List Tok) (h : isBlankB c = false) (hn : nextL (c :: t) = none) : tt (c :: t) at_ acc = ([], at_, 4) := by
 unfold tt
 simp [tokL, h, hn]
theorem tt_some (c : UInt8) (t : List UInt8) (at_ : Nat) (acc : List Tok) (h : isBlankB c = false) {k : Nat} {x : List UInt8} {m : Nat} (hn : nextL (c :: t) = some (k, x, m)) :
 tt (c :: t) at_ acc = tt ((c :: t).drop m) (at_ + m) (acc ++ [⟨k, x, at_, at_ + m⟩]) := by
 have := nextL_le _ _ hn
 simp only [List.length_cons] at this
 unfold tt
 simp only [List.length_cons, tokL, h, hn, Bool.false_eq_true, if_false]
 exact tokL_fuel _ _ _ _ _ (by rw [List.length_drop, List.length_cons]; omega) (Nat.le_refl _)
/-- behind a word a valid text goes on valid -/
theorem run_ascii (p : UInt8 → Bool) (hp : ∀ c, p c = true → c.toNat < 128) (l : List UInt8) : ∀ j, j < run p l → ∃ b, l[j]? = some b ∧ b.toNat < 128 := by
 intro j hj
 have h1 : j < (l.takeWhile p).length := hj
 have h2 := List.takeWhile_prefix p (l := l)
 have h3 : l[j]? = (l.takeWhile p)[j]? := by
  obtain ⟨t, ht⟩ := h2
  conv => lhs; rw [← ht]
  rw [List.getElem?_append_left h1]
 rw [List.getElem?_eq_getElem h1] at h3
 refine ⟨_, h3, hp _ ?_⟩
 exact List.all_eq_true.1 (List.all_takeWhile (l := l) (p := p)) _ (List.getElem_mem h1)
theorem isDig_low : ∀ c : UInt8, isDig c = true → c.toNat < 128 := forall_u8 (by decide +kernel)
theorem isLow_low : ∀ c : UInt8, isLow c = true → c.toNat < 128 := forall_u8 (by decide +kernel)
def Asc (l : List UInt8) (n : Nat) : Prop := ∀ j, j < n → ∃ b, l[j]? = some b ∧ b.toNat < 128
theorem Asc.add {l : List UInt8} {n m : Nat} (h : Asc l n) (h2 : Asc (l.drop n) m) : Asc l (n + m) := by
 intro j hj
 by_cases hn : j < n
 · exact h j hn
 · obtain ⟨b, hb, hb2⟩ := h2 (j - n) (by omega)
   rw [List.getElem?_drop, show n + (j - n) = j by omega] at hb
   exact ⟨b, hb, hb2⟩
theorem Asc.one {l : List UInt8} {n : Nat} (h : Asc l n) {c : UInt8} (hc : l[n]? = some c) (hl : c.toNat < 128) : Asc l (n + 1) := by
 intro j hj
 by_cases hn : j < n
 · exact h j hn
 · obtain rfl : j = n := by omega
   exact ⟨c, hc, hl⟩
theorem asc_run (l : List UInt8) (n : Nat) (h : Asc l n) : Asc l (n + run isDig (l.drop n)) := h.add (run_ascii isDig isDig_low _)
theorem asc_num (l : List UInt8) : Asc l (numN l) := by
 have h0 : Asc l 0 := fun j hj => by omega
 have h1 : Asc l (negN l) := by
  unfold negN
  split
  · rename_i h; exact h0.one h (by decide)
  · exact h0
 have h2 : Asc l (intN l (negN l)) := by
  unfold intN
  split
  · rename_i h; exact h1.one h (by decide)
  · exact asc_run l _ h1
 have h3 : ∀ n, Asc l n → Asc l (dotN l n) := fun n hn => by
  unfold dotN
  split
  · rename_i h; exact asc_run l _ (hn.one h.1 (by decide))
  · exact hn
 have h4 : ∀ n, Asc l n → Asc l (signN l n) := fun n hn => by
  unfold signN
  split
  · rename_i h
    rcases h with h | h
    · exact hn.one h (by decide)
    · exact hn.one h (by decide)
  · exact hn
 have h5 : ∀ n, Asc l n → Asc l (expN l n) := fun n hn => by
  unfold expN
  split
  · rename_i h
    rcases h.1 with h | h
    · exact asc_run l _ (h4 _ (hn.one h (by decide)))
    · exact asc_run l _ (h4 _ (hn.one h (by decide)))
  · exact hn
 unfold numN
 split
 · exact h0
 · exact h5 _ (h3 _ h2)
theorem asc_word (l : List UInt8) : Asc l (wordN l) := by
 unfold wordN
 split
 · exact run_ascii isLow isLow_low l
 · exact fun j hj => by omega
theorem valid_asc (l : List UInt8) (n : Nat) (h : Asc l n) (hv : validD l = true) : validD (l.drop n) = true := valid_drop_ascii n l h hv
/-- behind a string a valid text goes on valid -/
theorem valid_qq : ∀ (k : Nat) (l : List UInt8), l.length ≤ k → validD l = true → ∀ r, qq l = some r → validD (l.drop r.2) = true
 | _, [], _, _, r, h => by rw [qq_nil] at h; cases h
 | 0, c :: t, hk, _, r, h => by simp at hk
 | k + 1, c :: t, hk, hv, r, h => by
  simp only [List.length_cons] at hk
  obtain ⟨hp, hv2⟩ := valid_step (c :: t) (by simp) hv
  obtain ⟨e1, e2, e3⟩ := dec_point_bytes (c :: t) (by simp) hp
  unfold headW at hv2
  have f34 := dec_first c t 34 (by omega)
  have f92 := dec_first c t 92 (by omega)
  by_cases h34 : (decodeL (c :: t)).1 = 34
  · obtain rfl : c = 34 := UInt8.toNat_inj.1 (f34.1 h34)
    rw [qq_end] at h
    cases h
    exact valid_ascii 34 t (by decide) hv
  by_cases h92 : (decodeL (c :: t)).1 = 92
  · obtain rfl : c = 92 := UInt8.toNat_inj.1 (f92.1 h92)
    rw [qq_esc] at h
    split at h
    · cases h
    · obtain ⟨q, hq, rfl⟩ := Option.map_eq_some_iff.1 h
      have hvt := valid_asc t _ (esc_ascii t).1 (valid_ascii 92 t (by decide) hv)
      have := valid_qq k _ (by rw [List.length_drop]; omega) hvt q hq
      rw [List.drop_drop] at this
      rw [show q.2 + 1 + (escR t).2 = ((escR t).2 + q.2) + 1 by omega, List.drop_succ_cons]
      exact this
  by_cases h32 : (decodeL (c :: t)).1 < 32
  · have hc : c.toNat < 32 := by
     by_cases hb : c.toNat < 128
     · rw [decodeL_ascii c t hb] at h32; exact h32
     · have := dec_high c t (by omega); omega
    rw [qq_ctl c t hc] at h
    cases h
  · rw [qq_point (c :: t) (by simp) hp h34 h32 h92] at h
    obtain ⟨q, hq, rfl⟩ := Option.map_eq_some_iff.1 h
    simp only [List.length_cons] at e2
    have := valid_qq k _ (by rw [List.length_drop, List.length_cons]; omega) hv2 q hq
    rw [List.drop_drop] at this
    rw [show q.2 + (decodeL (c :: t)).2 = (decodeL (c :: t)).2 + q.2 by omega]
    exact this
theorem mark_low : ∀ c : UInt8, isMarkB c = true → c.toNat < 128 := forall_u8 (by decide +kernel)
theorem valid_next (l : List UInt8) (hv : validD l = true) (r : Nat × List UInt8 × Nat) (h : nextL l = some r) : validD (l.drop r.2.2) = true := by
 cases l with
 | nil => cases h
 | cons c t =>
  rw [nextL_cons] at h
  split at h
  · rename_i hm
    cases h
    exact valid_ascii c t (mark_low c hm) hv
  · split at h
    · rename_i h34
      subst h34
      obtain ⟨q, hq, rfl⟩ := Option.map_eq_some_iff.1 h
      simp only [List.drop_succ_cons]
      exact valid_qq _ t (Nat.le_refl _) (valid_ascii 34 t (by decide) hv) q hq
    · split at h
      · cases h; exact valid_asc _ _ (asc_word _) hv
      · split at h
        · cases h; exact valid_asc _ _ (asc_num _) hv
        · cases h
end Go.Proofs.Jt
