/- Merged texts: RA, RB. -/
import Derived.Test.YtaiaiiepbpbmmaaGreatDoorJA
import Derived.Test.YtaiaiiepbpbmmaaGreatDoorJ9
import Derived.Laws.IdiomStrings
/- RA: Merged texts: Jv, R1, R2, R3. -/
/- Jv: The reference's Step, by plain functions on bytes. No program in sight. -/
namespace Go.Proofs.Jt
open Go.Lib Go.Proofs.Utf

def stN (c : Nat) : Nat := if 194 ≤ c ∧ c ≤ 223 then 1 else if 224 ≤ c ∧ c ≤ 239 then 2 else if 240 ≤ c ∧ c ≤ 244 then 3 else 0
def stLo (c : Nat) : Nat := if c = 240 then 144 else if c = 224 then 160 else 128
def stHi (c : Nat) : Nat := if c = 244 then 143 else if c = 237 then 159 else 191
def Conts (l : List UInt8) (n lo hi : Nat) : Prop := ∀ k, 1 ≤ k → k ≤ n → (if k = 1 then lo else 128) ≤ (l.getD k 0).toNat ∧ (l.getD k 0).toNat ≤ (if k = 1 then hi else 191)
theorem step_yes (l : List UInt8) (c : Nat) (hc : (l.getD 0 0).toNat = c) (hn : stN c ≠ 0) (hl : stN c < l.length) (h : Conts l (stN c) (stLo c) (stHi c)) : isPt l = true ∧ headW l = stN c + 1 := by
 have key : ∀ k, 2 ≤ k → k ≤ 4 → k ≤ l.length → Hit l k → isPt l = true ∧ headW l = k := by
  intro k h2 h4 hk hh
  have e := found l k (by omega) h4 hk hh
  unfold isPt headW
  rw [e]
  refine ⟨decide_eq_true ?_, rfl⟩
  simp only
  omega
 unfold stN at hn hl h ⊢
 split at hn
 · rename_i h1
   rw [if_pos h1] at hl h ⊢
   have a := h 1 (by omega) (by omega)
   simp only [if_pos] at a
   unfold stLo stHi at a
   rw [if_neg (by omega), if_neg (by omega), if_neg (by omega), if_neg (by omega)] at a
   refine key 2 (by omega) (by omega) (by omega) ((Hit2 l (by omega)).2 ?_)
   rw [hc]
   omega
 · rename_i h1
   rw [if_neg h1] at hl h ⊢
   split at hn
   · rename_i h2
     rw [if_pos h2] at hl h ⊢
     have a := h 1 (by omega) (by omega)
     have b := h 2 (by omega) (by omega)
     simp only [if_pos] at a
     rw [if_neg (by decide), if_neg (by decide)] at b
     unfold stLo stHi at a
     refine key 3 (by omega) (by omega) (by omega) ((Hit3 l (by omega)).2 ?_)
     rw [hc]
     (repeat' split at a) <;> omega
   · rename_i h2
     rw [if_neg h2] at hl h ⊢
     split at hn
     · rename_i h3
       rw [if_pos h3] at hl h ⊢
       have a := h 1 (by omega) (by omega)
       have b := h 2 (by omega) (by omega)
       have d := h 3 (by omega) (by omega)
       simp only [if_pos] at a
       rw [if_neg (by decide), if_neg (by decide)] at b d
       unfold stLo stHi at a
       refine key 4 (by omega) (by omega) (by omega) ((Hit4 l (by omega)).2 ?_)
       rw [hc]
       (repeat' split at a) <;> omega
     · exact absurd rfl hn
theorem step_no (l : List UInt8) (c : Nat) (hne : l ≠ []) (hc : (l.getD 0 0).toNat = c) (h128 : 128 ≤ c) (h : isPt l = true) : stN c ≠ 0 ∧ stN c < l.length ∧ Conts l (stN c) (stLo c) (stHi c) := by
 obtain ⟨k, h1, h4, hk, hh⟩ := pt_hit l hne h
 rcases (show k = 1 ∨ k = 2 ∨ k = 3 ∨ k = 4 by omega) with rfl | rfl | rfl | rfl
 · have := (Hit1 l hk).1 hh
   omega
 · have := (Hit2 l hk).1 hh
   rw [hc] at this
   have hr : 194 ≤ c ∧ c ≤ 223 := by omega
   have e : stN c = 1 := by unfold stN; rw [if_pos hr]
   rw [e]
   refine ⟨by omega, by omega, fun k h1 h2 => ?_⟩
   obtain rfl : k = 1 := by omega
   simp only [if_pos]
   unfold stLo stHi
   rw [if_neg (by omega), if_neg (by omega), if_neg (by omega), if_neg (by omega)]
   omega
 · have := (Hit3 l hk).1 hh
   rw [hc] at this
   have hr : 224 ≤ c ∧ c ≤ 239 := by omega
   have e : stN c = 2 := by unfold stN; rw [if_neg (by omega), if_pos hr]
   rw [e]
   refine ⟨by omega, by omega, fun k h1 h2 => ?_⟩
   rcases (show k = 1 ∨ k = 2 by omega) with rfl | rfl
   · simp only [if_pos]
     unfold stLo stHi
     constructor <;> (repeat' split) <;> omega
   · rw [if_neg (by decide), if_neg (by decide)]
     omega
 · have := (Hit4 l hk).1 hh
   rw [hc] at this
   have hr : 240 ≤ c ∧ c ≤ 244 := by omega
   have e : stN c = 3 := by unfold stN; rw [if_neg (by omega), if_neg (by omega), if_pos hr]
   rw [e]
   refine ⟨by omega, by omega, fun k h1 h2 => ?_⟩
   rcases (show k = 1 ∨ k = 2 ∨ k = 3 by omega) with rfl | rfl | rfl
   · simp only [if_pos]
     unfold stLo stHi
     constructor <;> (repeat' split) <;> omega
   · rw [if_neg (by decide), if_neg (by decide)]
     omega
   · rw [if_neg (by decide), if_neg (by decide)]
     omega
theorem step_ascii (l : List UInt8) (hne : l ≠ []) (h : (l.getD 0 0).toNat < 128) : isPt l = true ∧ headW l = 1 := by
 obtain ⟨b, t, rfl⟩ := List.exists_cons_of_ne_nil hne
 have hb : b.toNat < 128 := h
 unfold isPt headW
 rw [decodeL_ascii b t hb]
 refine ⟨decide_eq_true ?_, rfl⟩
 simp only
 omega
def stepL (l : List UInt8) : Nat := if isPt l then headW l else 0
end Go.Proofs.Jt
/- R1: The walks of the reference's is, digit, Step, Broken. -/
namespace Go.Proofs.Jt
open Go.RowKit Go.Proofs Go.Lib Go.Proofs.Utf

def digAt (l : List UInt8) (i : Nat) : Bool := (l[i]?).any isDig
theorem list_get (s : ByteArray) (i : Nat) (h : i < s.size) : s.data.toList[i]? = some s[i] := by
 rw [List.getElem?_eq_getElem (by rw [← Lib.size_eq]; exact h)]
 rfl
theorem list_none (s : ByteArray) (i : Nat) (h : ¬ i < s.size) : s.data.toList[i]? = none := List.getElem?_eq_none (by rw [← Lib.size_eq]; omega)
set_option maxRecDepth 100000 in
theorem ris_any (s : ByteArray) (i : Nat) (c : UInt8) (w : World) (_hs : s.size ≤ 16777216) : Calls Tryz.prog 252 #[.string s, .int .i64 i, .int .u8 c.toNat] w fun e w' => e = .returned (.bool (decide (s.data.toList[i]? = some c))) ∧ w' = w := by
 by_cases hi : i < s.size
 · have hi' : (i : Int) < (s.size : Int) := by omega
   by_cases hc : s[i] = c
   · have t1 : ((s[i].toNat : Int) == (c.toNat : Int)) = true := by rw [hc]; simp
     have e : decide (s.data.toList[i]? = some c) = true := by rw [list_get s i hi, hc]; simp
     rw [e]
     clear e hc
     go_enter Tryz.func252, Tryz.ntmps252
     go_wp2
     go_ret
     exact ⟨rfl, rfl⟩
   · have t1 : ((s[i].toNat : Int) == (c.toNat : Int)) = false := by
      rw [beq_eq_false_iff_ne]
      intro e
      exact hc (UInt8.toNat_inj.1 (by omega))
     have e : decide (s.data.toList[i]? = some c) = false := by rw [list_get s i hi]; simpa using hc
     rw [e]
     clear e hc
     go_enter Tryz.func252, Tryz.ntmps252
     go_wp2
     go_ret
     exact ⟨rfl, rfl⟩
 · have hi' : ¬ (i : Int) < (s.size : Int) := by omega
   rw [list_none s i hi]
   go_enter Tryz.func252, Tryz.ntmps252
   go_wp2
   go_ret
   exact ⟨rfl, rfl⟩
set_option maxRecDepth 100000 in
theorem digit_any (s : ByteArray) (i : Nat) (w : World) (_hs : s.size ≤ 16777216) : Calls Tryz.prog 253 #[.string s, .int .i64 i] w fun e w' => e = .returned (.bool (digAt s.data.toList i)) ∧ w' = w := by
 unfold digAt
 by_cases hi : i < s.size
 · have hi' : (i : Int) < (s.size : Int) := by omega
   rw [list_get s i hi]
   by_cases h1 : 48 ≤ s[i].toNat
   · have t1 : decide ((48 : Int) ≤ (s[i].toNat : Int)) = true := by simp; omega
     by_cases h2 : s[i].toNat ≤ 57
     · have t2 : decide ((s[i].toNat : Int) ≤ 57) = true := by simp; omega
       have e : (some s[i]).any isDig = true := by simp [isDig, h1, h2]
       rw [e]
       clear e h1 h2
       go_enter Tryz.func253, Tryz.ntmps253
       go_wp2
       go_ret
       exact ⟨rfl, rfl⟩
     · have t2 : decide ((s[i].toNat : Int) ≤ 57) = false := by simp; omega
       have e : (some s[i]).any isDig = false := by simp [isDig]; omega
       rw [e]
       clear e h1 h2
       go_enter Tryz.func253, Tryz.ntmps253
       go_wp2
       go_ret
       exact ⟨rfl, rfl⟩
   · have t1 : decide ((48 : Int) ≤ (s[i].toNat : Int)) = false := by simp; omega
     have e : (some s[i]).any isDig = false := by simp [isDig]; omega
     rw [e]
     clear e h1
     go_enter Tryz.func253, Tryz.ntmps253
     go_wp2
     go_ret
     exact ⟨rfl, rfl⟩
 · have hi' : ¬ (i : Int) < (s.size : Int) := by omega
   rw [list_none s i hi]
   go_enter Tryz.func253, Tryz.ntmps253
   go_wp2
   go_ret
   exact ⟨rfl, rfl⟩
end Go.Proofs.Jt
/- R2: The walks of the reference's Step and Broken. -/
namespace Go.Proofs.Jt
open Go.RowKit Go.Proofs Go.Lib Go.Proofs.Utf

theorem drop_getD (l : List UInt8) (i k : Nat) : (l.drop i).getD k 0 = l.getD (i + k) 0 := by
 rw [List.getD_eq_getElem?_getD, List.getD_eq_getElem?_getD, List.getElem?_drop]
theorem get_getD (s : ByteArray) (i : Nat) (h : i < s.size) : s.data.toList.getD i 0 = s[i] := by
 rw [List.getD_eq_getElem?_getD, list_get s i h]; rfl
set_option maxRecDepth 100000 in
set_option maxHeartbeats 1000000 in
theorem step_any (s : ByteArray) (i : Nat) (w : World) (hs : s.size ≤ 16777216) (hi : i < s.size) : Calls Tryz.prog 223 #[.string s, .int .i64 i] w fun e w' => e = .returned (.int .i64 (stepL (s.data.toList.drop i) : Nat)) ∧ w' = w := by
 have hne : s.data.toList.drop i ≠ [] := by
  intro e
  have := congrArg List.length e
  rw [List.length_drop, ← Lib.size_eq] at this
  simp at this
  omega
 have hb0 : (s.data.toList.drop i).getD 0 0 = s[i] := by rw [drop_getD, Nat.add_zero, get_getD s i hi]
 have hll : (s.data.toList.drop i).length = s.size - i := by rw [List.length_drop, ← Lib.size_eq]
 have hgk : ∀ k, (h : i + k < s.size) → (s.data.toList.drop i).getD k 0 = s[i + k] := fun k h => by rw [drop_getD, get_getD s _ h]
 have hc : s[i].toNat < 256 := s[i].toNat_lt
 by_cases h128 : s[i].toNat < 128
 · have e := step_ascii _ hne (by rw [hb0]; exact h128)
   have t1 : (s[i].toNat : Int) < 128 := by omega
   unfold stepL
   rw [e.1, e.2, if_pos rfl]
   clear e hb0 hll hgk
   go_enter Tryz.func223, Tryz.ntmps223
   go_wp2
   go_ret
   exact ⟨rfl, rfl⟩
 · obtain ⟨c, hcc⟩ : ∃ c, s[i].toNat = c := ⟨_, rfl⟩
   have hy := step_yes (s.data.toList.drop i) c (by rw [hb0]; exact hcc)
   have hn := step_no (s.data.toList.drop i) c hne (by rw [hb0]; exact hcc) (by omega)
   rw [hcc] at h128 hc
   have t1 : ¬ (c : Int) < 128 := by omega
   obtain ⟨r, hr⟩ : ∃ r, stepL (s.data.toList.drop i) = r := ⟨_, rfl⟩
   have hR : (¬ (stN c ≠ 0 ∧ stN c < s.size - i ∧ Conts (s.data.toList.drop i) (stN c) (stLo c) (stHi c)) → r = 0) ∧ ((stN c ≠ 0 ∧ stN c < s.size - i ∧ Conts (s.data.toList.drop i) (stN c) (stLo c) (stHi c)) → r = stN c + 1) := by
    rw [← hr]
    unfold stepL
    rw [hll] at hy hn
    refine ⟨fun h => if_neg fun hp => h (hn hp), fun h => ?_⟩
    have := hy h.1 h.2.1 h.2.2
    rw [if_pos this.1, this.2]
   rw [hr]
   obtain ⟨n, hN⟩ : ∃ n, stN c = n := ⟨_, rfl⟩
   obtain ⟨lo1, hl1⟩ : ∃ n, (if c = 224 then 160 else 128) = n := ⟨_, rfl⟩
   obtain ⟨hi1, hh1⟩ : ∃ n, (if c = 237 then 159 else 191) = n := ⟨_, rfl⟩
   obtain ⟨lo, hl⟩ : ∃ n, stLo c = n := ⟨_, rfl⟩
   obtain ⟨up, hh⟩ : ∃ n, stHi c = n := ⟨_, rfl⟩
   rw [hN, hl, hh] at hR
   have hn3 : n ≤ 3 := by rw [← hN]; unfold stN; (repeat' split) <;> omega
   have HN := Lib.hid hN
   have HL1 := Lib.hid hl1
   have HH1 := Lib.hid hh1
   have HL := Lib.hid hl
   have HH := Lib.hid hh
   have HR := Lib.hid hR
   clear hy hn hr hb0 hll hN hl1 hh1 hl hh hR
   go_enter Tryz.func223, Tryz.ntmps223
   go_upto_block 0 with (fail)
   simp only [hcc] at *
   go_cut [7] (fun v wx => v = .int .i64 n ∧ w = wx)
   case first =>
    rcases (show (194 ≤ c ∧ c ≤ 223) ∨ (224 ≤ c ∧ c ≤ 239) ∨ (240 ≤ c ∧ c ≤ 244) ∨ c < 194 ∨ 244 < c by omega) with hp | hp | hp | hp | hp
    · have hv : stN c = 1 := by unfold stN; (repeat' split) <;> omega
      have HV := Lib.hid hv
      clear hv
      have u1 : decide ((194 : Int) ≤ (c : Int)) = true := by simp; omega
      have u2 : decide ((c : Int) ≤ 223) = true := by simp; omega
      go_wp2_with (fail)
      go_meet
      exact ⟨by rw [← HN.out, HV.out]; rfl, rfl⟩
    · have hv : stN c = 2 := by unfold stN; (repeat' split) <;> omega
      have HV := Lib.hid hv
      clear hv
      have u1 : decide ((194 : Int) ≤ (c : Int)) = true := by simp; omega
      have u2 : decide ((c : Int) ≤ 223) = false := by simp; omega
      have u3 : decide ((224 : Int) ≤ (c : Int)) = true := by simp; omega
      have u4 : decide ((c : Int) ≤ 239) = true := by simp; omega
      go_wp2_with (fail)
      go_meet
      exact ⟨by rw [← HN.out, HV.out]; rfl, rfl⟩
    · have hv : stN c = 3 := by unfold stN; (repeat' split) <;> omega
      have HV := Lib.hid hv
      clear hv
      have u1 : decide ((194 : Int) ≤ (c : Int)) = true := by simp; omega
      have u2 : decide ((c : Int) ≤ 223) = false := by simp; omega
      have u3 : decide ((224 : Int) ≤ (c : Int)) = true := by simp; omega
      have u4 : decide ((c : Int) ≤ 239) = false := by simp; omega
      have u5 : decide ((240 : Int) ≤ (c : Int)) = true := by simp; omega
      have u6 : decide ((c : Int) ≤ 244) = true := by simp; omega
      go_wp2_with (fail)
      go_meet
      exact ⟨by rw [← HN.out, HV.out]; rfl, rfl⟩
    · have hv : stN c = 0 := by unfold stN; (repeat' split) <;> omega
      have HV := Lib.hid hv
      clear hv
      have u1 : decide ((194 : Int) ≤ (c : Int)) = false := by simp; omega
      have u3 : decide ((224 : Int) ≤ (c : Int)) = false := by simp; omega
      have u5 : decide ((240 : Int) ≤ (c : Int)) = false := by simp; omega
      go_wp2_with (fail)
      go_meet
      exact ⟨by rw [← HN.out, HV.out]; rfl, rfl⟩
    · have hv : stN c = 0 := by unfold stN; (repeat' split) <;> omega
      have HV := Lib.hid hv
      clear hv
      have u1 : decide ((194 : Int) ≤ (c : Int)) = true := by simp; omega
      have u2 : decide ((c : Int) ≤ 223) = false := by simp; omega
      have u3 : decide ((224 : Int) ≤ (c : Int)) = true := by simp; omega
      have u4 : decide ((c : Int) ≤ 239) = false := by simp; omega
      have u5 : decide ((240 : Int) ≤ (c : Int)) = true := by simp; omega
      have u6 : decide ((c : Int) ≤ 244) = false := by simp; omega
      go_wp2_with (fail)
      go_meet
      exact ⟨by rw [← HN.out, HV.out]; rfl, rfl⟩
   case rest =>
    obtain ⟨rfl, rfl⟩ := hcut
    go_upto_if 40 with (fail)
    go_cut [5] (fun v wx => v = .int .i64 (lo1 : Nat) ∧ w = wx)
    case first =>
     by_cases e0 : c = 224
     · have u1 : ((c : Int) == 224) = true := by rw [e0]; rfl
       have E0 := Lib.hid e0
       clear e0
       go_wp2_with (fail)
       go_meet
       exact ⟨by rw [← HL1.out]; rw [if_pos E0.out]; rfl, rfl⟩
     · have u1 : ((c : Int) == 224) = false := beq_eq_false_iff_ne.2 (by omega)
       have E0 := Lib.hid e0
       clear e0
       go_wp2_with (fail)
       go_meet
       exact ⟨by rw [← HL1.out]; rw [if_neg E0.out]; rfl, rfl⟩
    case rest =>
    obtain ⟨rfl, rfl⟩ := hcut
    go_upto_if 42 with (fail)
    go_cut [6] (fun v wx => v = .int .i64 (hi1 : Nat) ∧ w = wx)
    case first =>
     by_cases e0 : c = 237
     · have u1 : ((c : Int) == 237) = true := by rw [e0]; rfl
       have E0 := Lib.hid e0
       clear e0
       go_wp2_with (fail)
       go_meet
       exact ⟨by rw [← HH1.out]; rw [if_pos E0.out]; rfl, rfl⟩
     · have u1 : ((c : Int) == 237) = false := beq_eq_false_iff_ne.2 (by omega)
       have E0 := Lib.hid e0
       clear e0
       go_wp2_with (fail)
       go_meet
       exact ⟨by rw [← HH1.out]; rw [if_neg E0.out]; rfl, rfl⟩
    case rest =>
    obtain ⟨rfl, rfl⟩ := hcut
    go_upto_if 44 with (fail)
    go_cut [5] (fun v wx => v = .int .i64 (lo : Nat) ∧ w = wx)
    case first =>
     by_cases e0 : c = 240
     · have u1 : ((c : Int) == 240) = true := by rw [e0]; rfl
       have E0 := Lib.hid e0
       clear e0
       go_wp2_with (fail)
       go_meet
       exact ⟨by rw [← HL.out]; unfold stLo; rw [if_pos E0.out]; rfl, rfl⟩
     · have u1 : ((c : Int) == 240) = false := beq_eq_false_iff_ne.2 (by omega)
       have E0 := Lib.hid e0
       clear e0
       go_wp2_with (fail)
       go_meet
       exact ⟨by rw [← HL.out]; unfold stLo; rw [if_neg E0.out]; rw [HL1.out], rfl⟩
    case rest =>
    obtain ⟨rfl, rfl⟩ := hcut
    go_upto_if 46 with (fail)
    go_cut [6] (fun v wx => v = .int .i64 (up : Nat) ∧ w = wx)
    case first =>
     by_cases e0 : c = 244
     · have u1 : ((c : Int) == 244) = true := by rw [e0]; rfl
       have E0 := Lib.hid e0
       clear e0
       go_wp2_with (fail)
       go_meet
       exact ⟨by rw [← HH.out]; unfold stHi; rw [if_pos E0.out]; rfl, rfl⟩
     · have u1 : ((c : Int) == 244) = false := beq_eq_false_iff_ne.2 (by omega)
       have E0 := Lib.hid e0
       clear e0
       go_wp2_with (fail)
       go_meet
       exact ⟨by rw [← HH.out]; unfold stHi; rw [if_neg E0.out]; rw [HH1.out], rfl⟩
    case rest =>
    obtain ⟨rfl, rfl⟩ := hcut
    have i16 : (i : Int) ≤ 16777216 := by omega
    by_cases hn0 : n = 0
    · have u1 : ((n : Int) == 0) = true := by rw [hn0]; rfl
      have hr : r = 0 := HR.out.1 fun h => h.1 hn0
      clear hn0
      go_wp2
      go_ret
      exact ⟨ret_int (by omega), rfl⟩
    · have u1 : ((n : Int) == 0) = false := beq_eq_false_iff_ne.2 (by omega)
      by_cases hlen : i + n < s.size
      · have u2 : decide ((s.size : Int) ≤ (i : Int) + (n : Int)) = false := by simp; omega
        go_wp2
        go_loopw [5, 6, 9] (fun a b v wr => ∃ k : Nat, a = .int .i64 ((if k = 1 then lo else 128 : Nat) : Nat) ∧ b = .int .i64 ((if k = 1 then up else 191 : Nat) : Nat) ∧ v = .int .i64 k ∧ 1 ≤ k ∧ k ≤ n + 1 ∧ (∀ j, 1 ≤ j → j < k → (if j = 1 then lo else 128) ≤ ((s.data.toList.drop i).getD j 0).toNat ∧ ((s.data.toList.drop i).getD j 0).toNat ≤ (if j = 1 then up else 191)) ∧ wr = w) (fun _ _ v _ => n + 1 - (RowKit.intOf v).toNat)
        case atStart => exact ⟨1, rfl, rfl, rfl, by omega, by omega, fun j h1 h2 => by omega, rfl⟩
        case round =>
         obtain ⟨k, rfl, rfl, rfl, hk1, hkn, hall, rfl⟩ := hrel
         have HALL := Lib.hid hall
         clear hall
         by_cases hk : (k : Int) ≤ (n : Int)
         · have hlt : i + k < s.size := by omega
           have hg := hgk k hlt
           obtain ⟨lk, hlk⟩ : ∃ x, (if k = 1 then lo else 128) = x := ⟨_, rfl⟩
           obtain ⟨uk, huk⟩ : ∃ x, (if k = 1 then up else 191) = x := ⟨_, rfl⟩
           simp only [hlk, huk]
           have HLK := Lib.hid hlk
           have HUK := Lib.hid huk
           have HG := Lib.hid hg
           have e2 : (if k + 1 = 1 then lo else 128) = 128 := if_neg (by omega)
           have e3 : (if k + 1 = 1 then up else 191) = 191 := if_neg (by omega)
           have E2 := Lib.hid e2
           have E3 := Lib.hid e3
           have hd0 : s[i + k].toNat < 256 := s[i + k].toNat_lt
           clear hlk huk hg e2 e3 hgk
           by_cases h1 : s[i + k].toNat < lk
           · have v1 : decide (s[i + k].toNat < lk) = true := by simp; omega
             have hr : r = 0 := HR.out.1 fun h => by
              have := h.2.2 k (by omega) (by omega)
              rw [HG.out, HLK.out] at this
              omega
             clear h1
             go_wp2
             go_ret
             exact ⟨ret_int (by omega), rfl⟩
           · have v1 : decide (s[i + k].toNat < lk) = false := by simp; omega
             by_cases h2 : uk < s[i + k].toNat
             · have v2 : decide (uk < s[i + k].toNat) = true := by simp; omega
               have hr : r = 0 := HR.out.1 fun h => by
                have := h.2.2 k (by omega) (by omega)
                rw [HG.out, HUK.out] at this
                omega
               clear h1 h2
               go_wp2
               go_ret
               exact ⟨ret_int (by omega), rfl⟩
             · have v2 : decide (uk < s[i + k].toNat) = false := by simp; omega
               have H1 := Lib.hid h1
               have H2 := Lib.hid h2
               clear h1 h2
               go_wp2
               refine ⟨⟨k + 1, by rw [E2.out]; rfl, by rw [E3.out]; rfl, by go_num, by omega, by omega, fun j j1 j2 => ?_, trivial⟩, by simp [RowKit.intOf]; omega⟩
               by_cases hjk : j = k
               · subst hjk
                 have a1 := H1.out
                 have a2 := H2.out
                 rw [HG.out, HLK.out, HUK.out]
                 omega
               · exact HALL.out j j1 (by omega)
         · have hr : r = n + 1 := HR.out.2 ⟨hn0, by omega, fun j h1 h2 => HALL.out j h1 (by omega)⟩
           clear hgk
           go_wp2
           go_ret
           exact ⟨ret_int (by omega), rfl⟩
      · have u2 : decide ((s.size : Int) ≤ (i : Int) + (n : Int)) = true := by simp; omega
        have hr : r = 0 := HR.out.1 fun h => by omega
        clear hlen
        go_wp2
        go_ret
        exact ⟨ret_int (by omega), rfl⟩
end Go.Proofs.Jt
/- R3: The walks of the reference's Broken and numbered. -/
namespace Go.Proofs.Jt
open Go.RowKit Go.Proofs Go.Lib Go.Proofs.Utf

theorem valid_parts (l : List UInt8) (hne : l ≠ []) : validD l = (isPt l && validD (l.drop (headW l))) := by
 rw [validD_step l hne]
 unfold isPt headW
 by_cases h : (decodeL l).1 = 65533 ∧ (decodeL l).2 = 1
 · rw [if_pos h]; simp [h]
 · rw [if_neg h]; simp [h]
theorem drop_ne (s : ByteArray) (i : Nat) (hi : i < s.size) : s.data.toList.drop i ≠ [] := by
 intro e
 have := congrArg List.length e
 rw [List.length_drop, ← Lib.size_eq] at this
 simp at this
 omega
def brokenI (l : List UInt8) : Int := if validD l then -1 else (br l 0 : Int)
theorem headW_size (s : ByteArray) (i : Nat) (hi : i < s.size) : 1 ≤ headW (s.data.toList.drop i) ∧ i + headW (s.data.toList.drop i) ≤ s.size := by
 have h1 := headW_pos (s.data.toList.drop i)
 have h2 := headW_le (s.data.toList.drop i) (List.length_pos_iff.2 (drop_ne s i hi))
 rw [List.length_drop, ← Lib.size_eq] at h2
 omega
set_option maxRecDepth 100000 in
set_option maxHeartbeats 1000000 in
theorem broken_ref (s : ByteArray) (w : World) (hs : s.size ≤ 16777216) : Calls Tryz.prog 184 #[.string s] w fun e w' => e = .returned (.int .i64 (brokenI s.data.toList)) ∧ w' = w := by
 obtain ⟨r, hr⟩ : ∃ r, brokenI s.data.toList = r := ⟨_, rfl⟩
 rw [hr]
 unfold brokenI at hr
 have HR := Lib.hid hr
 clear hr
 have hst := fun i hi w => step_any s i w hs hi
 go_enter Tryz.func184, Tryz.ntmps184
 go_wp2
 go_loopw [3] (fun v wr => ∃ i : Nat, v = .int .i64 i ∧ i ≤ s.size ∧ validD s.data.toList = validD (s.data.toList.drop i) ∧ br s.data.toList 0 = br (s.data.toList.drop i) i ∧ wr = w) (fun v _ => s.size - (RowKit.intOf v).toNat)
 case atStart => exact ⟨0, rfl, Nat.zero_le _, rfl, rfl, rfl⟩
 case round =>
  obtain ⟨i, rfl, hi, hv, hb, rfl⟩ := hrel
  have HV := Lib.hid hv
  have HB := Lib.hid hb
  clear hv hb
  by_cases hlt : (i : Int) < (s.size : Int)
  · have hi' : i < s.size := by omega
    have hc := hst i hi' wr
    have hw := headW_size s i hi'
    have hne := drop_ne s i hi'
    have hvp := valid_parts _ hne
    have hbs := br_step (s.data.toList.drop i) i hne
    unfold stepL at hc
    cases hp : isPt (s.data.toList.drop i) with
    | true =>
     rw [hp, if_pos rfl] at hc
     rw [hp, Bool.true_and, List.drop_drop] at hvp
     rw [hp, if_pos rfl, List.drop_drop] at hbs
     obtain ⟨m, hm⟩ : ∃ m, headW (s.data.toList.drop i) = m := ⟨_, rfl⟩
     rw [hm] at hc hw hvp hbs
     have u1 : ((m : Int) == 0) = false := beq_eq_false_iff_ne.2 (by omega)
     have HVP := Lib.hid hvp
     have HBS := Lib.hid hbs
     clear hst hvp hbs hp hm hne
     go_wp2_with (first
      | (go_at_call 223; refine hc.mono ?_; rintro e w1 ⟨rfl, rfl⟩))
     go_roundw
     case rel => exact ⟨i + m, by go_num, by omega, by rw [HV.out, HVP.out], by rw [HB.out, HBS.out], trivial⟩
     case measure => simp [RowKit.intOf]; omega
    | false =>
     rw [hp, if_neg (by decide)] at hc
     rw [hp, Bool.false_and] at hvp
     rw [hp, if_neg (by decide)] at hbs
     have hr : r = (i : Int) := by rw [← HR.out, HV.out, hvp, if_neg (by decide), HB.out, hbs]
     clear hst hvp hbs hp hne hw
     go_wp2_with (first
      | (go_at_call 223; refine hc.mono ?_; rintro e w1 ⟨rfl, rfl⟩))
     go_ret
     exact ⟨ret_int hr.symm, rfl⟩
  · have hd : s.data.toList.drop i = [] := List.drop_eq_nil_of_le (by rw [← Lib.size_eq]; omega)
    have hr : r = -1 := by rw [← HR.out, HV.out, hd]; rfl
    clear hst hd
    go_wp2
    go_ret
    exact ⟨ret_int (by omega), rfl⟩
end Go.Proofs.Jt
/- RB: Merged texts: R4, R5, R6. -/
/- R4: The walk of the reference's numbered. -/
namespace Go.Proofs.Jt
open Go.RowKit Go.Proofs Go.Lib Go.Proofs.Utf

theorem dig_yes {l : List UInt8} {j : Nat} (h : digAt l j = true) : run isDig (l.drop j) = run isDig (l.drop (j + 1)) + 1 ∧ j < l.length := by
  unfold digAt at h
  rw [run_at]
  cases hc : l[j]? with
  | none => rw [hc] at h; cases h
  | some c =>
    rw [hc] at h
    simp only [Option.any_some] at h
    simp only [h, if_true, true_and]
    exact (List.getElem?_eq_some_iff.1 hc).1
theorem dig_no {l : List UInt8} {j : Nat} (h : digAt l j = false) : run isDig (l.drop j) = 0 := by
  unfold digAt at h
  rw [run_at]
  cases hc : l[j]? with
  | none => rfl
  | some c =>
    rw [hc] at h
    simp only [Option.any_some] at h
    simp only [h]
    rfl
theorem is_lt {l : List UInt8} {j : Nat} {c : UInt8} (h : l[j]? = some c) : j < l.length := (List.getElem?_eq_some_iff.1 h).1
/-- where the digits end that begin at a place -/
def runE (l : List UInt8) (j : Nat) : Nat := j + run isDig (l.drop j)
theorem runE_yes {l : List UInt8} {j : Nat} (h : digAt l j = true) : runE l j = runE l (j + 1) := by
  unfold runE; rw [(dig_yes h).1]; omega
theorem runE_no {l : List UInt8} {j : Nat} (h : digAt l j = false) : runE l j = j := by
  unfold runE; rw [dig_no h]; rfl
theorem runE_le (l : List UInt8) (j : Nat) (h : j ≤ l.length) : j ≤ runE l j ∧ runE l j ≤ l.length := by
  unfold runE
  have := run_drop_le isDig l j
  omega
theorem digAt_run (l : List UInt8) (j : Nat) : digAt l j = decide (0 < run isDig (l.drop j)) := by
  cases h : digAt l j with
  | true => have := (dig_yes h).1; symm; simp; omega
  | false => have := dig_no h; symm; simp; omega
def isAt (l : List UInt8) (i : Nat) (c : UInt8) : Bool := decide (l[i]? = some c)
theorem isAt_lt {l : List UInt8} {i : Nat} {c : UInt8} (h : isAt l i c = true) : i < l.length := is_lt (of_decide_eq_true h)
/-- numbered, by places of the whole text -/
def nNeg (l : List UInt8) (i : Nat) : Nat := if isAt l i 45 then i + 1 else i
def nInt (l : List UInt8) (i : Nat) : Nat := if isAt l i 48 then i + 1 else runE l i
def nDot (l : List UInt8) (i : Nat) : Nat := if isAt l i 46 && digAt l (i + 1) then runE l (i + 1) else i
def nSign (l : List UInt8) (i : Nat) : Nat := if isAt l i 43 || isAt l i 45 then i + 1 else i
def nExp (l : List UInt8) (i : Nat) : Nat := if (isAt l i 101 || isAt l i 69) && digAt l (nSign l (i + 1)) then runE l (nSign l (i + 1)) else i
def nAll (l : List UInt8) (i : Nat) : Nat := if digAt l (nNeg l i) then nExp l (nDot l (nInt l (nNeg l i))) else i
theorem drop_get (l : List UInt8) (i n : Nat) : (l.drop i)[n]? = l[i + n]? := by rw [List.getElem?_drop]
theorem nAll_eq (l : List UInt8) (i : Nat) : nAll l i = i + numN (l.drop i) := by
  have e1 : nNeg l i = i + negN (l.drop i) := by
    unfold nNeg negN isAt; simp only [drop_get, Nat.add_zero, decide_eq_true_eq]; split <;> rfl
  have e2 : ∀ n, nInt l (i + n) = i + intN (l.drop i) n := by
    intro n
    unfold nInt intN runE isAt
    rw [drop_get, List.drop_drop]
    simp only [decide_eq_true_eq]
    split <;> omega
  have e3 : ∀ n, nDot l (i + n) = i + dotN (l.drop i) n := by
    intro n
    unfold nDot dotN runE isAt
    rw [drop_get, List.drop_drop, digAt_run, ← Nat.add_assoc]
    simp only [Bool.and_eq_true, decide_eq_true_eq]
    split <;> omega
  have e4 : ∀ n, nSign l (i + n) = i + signN (l.drop i) n := by
    intro n
    unfold nSign signN isAt
    rw [drop_get]
    simp only [Bool.or_eq_true, decide_eq_true_eq]
    split <;> omega
  have e5 : ∀ n, nExp l (i + n) = i + expN (l.drop i) n := by
    intro n
    unfold nExp expN runE isAt
    rw [drop_get, List.drop_drop, Nat.add_assoc, e4, digAt_run]
    simp only [Bool.and_eq_true, Bool.or_eq_true, decide_eq_true_eq]
    split <;> omega
  unfold nAll numN
  rw [e1, digAt_run, List.drop_drop, e2, e3, e5]
  simp only [decide_eq_true_eq]
  split
  · rename_i h
    rw [if_neg (by omega)]
  · rename_i h
    rw [if_pos (by omega)]; rfl

set_option maxRecDepth 100000 in
set_option maxHeartbeats 1000000 in
theorem numbered_any (s : ByteArray) (i : Nat) (w : World) (hs : s.size ≤ 16777216) (_hi : i ≤ s.size) : Calls Tryz.prog 235 #[.string s, .int .i64 i] w fun e w' => e = .returned (.int .i64 (nAll s.data.toList i : Nat)) ∧ w' = w := by
  have h45 : ∀ (i : Nat) w, Calls Tryz.prog 252 #[.string s, .int .i64 i, .int .u8 45] w fun e w' => e = .returned (.bool (isAt s.data.toList i 45)) ∧ w = w' := fun i w => (ris_any s i 45 w hs).mono fun _ _ h => ⟨h.1, h.2.symm⟩
  have h46 : ∀ (i : Nat) w, Calls Tryz.prog 252 #[.string s, .int .i64 i, .int .u8 46] w fun e w' => e = .returned (.bool (isAt s.data.toList i 46)) ∧ w = w' := fun i w => (ris_any s i 46 w hs).mono fun _ _ h => ⟨h.1, h.2.symm⟩
  have h101 : ∀ (i : Nat) w, Calls Tryz.prog 252 #[.string s, .int .i64 i, .int .u8 101] w fun e w' => e = .returned (.bool (isAt s.data.toList i 101)) ∧ w = w' := fun i w => (ris_any s i 101 w hs).mono fun _ _ h => ⟨h.1, h.2.symm⟩
  have h69 : ∀ (i : Nat) w, Calls Tryz.prog 252 #[.string s, .int .i64 i, .int .u8 69] w fun e w' => e = .returned (.bool (isAt s.data.toList i 69)) ∧ w = w' := fun i w => (ris_any s i 69 w hs).mono fun _ _ h => ⟨h.1, h.2.symm⟩
  have h43 : ∀ (i : Nat) w, Calls Tryz.prog 252 #[.string s, .int .i64 i, .int .u8 43] w fun e w' => e = .returned (.bool (isAt s.data.toList i 43)) ∧ w = w' := fun i w => (ris_any s i 43 w hs).mono fun _ _ h => ⟨h.1, h.2.symm⟩
  have h43b : ∀ (i : Nat) w, Calls Tryz.prog 252 #[.string s, .int .i64 ((i : Int) + 1), .int .u8 43] w fun e w' => e = .returned (.bool (isAt s.data.toList (i + 1) 43)) ∧ w = w' := fun i w => h43 (i + 1) w
  have h45b : ∀ (i : Nat) w, Calls Tryz.prog 252 #[.string s, .int .i64 ((i : Int) + 1), .int .u8 45] w fun e w' => e = .returned (.bool (isAt s.data.toList (i + 1) 45)) ∧ w = w' := fun i w => h45 (i + 1) w
  have hd : ∀ (i : Nat) w, Calls Tryz.prog 253 #[.string s, .int .i64 i] w fun e w' => e = .returned (.bool (digAt s.data.toList i)) ∧ w = w' := fun i w => (digit_any s i w hs).mono fun _ _ h => ⟨h.1, h.2.symm⟩
  have hd1 : ∀ (i : Nat) w, Calls Tryz.prog 253 #[.string s, .int .i64 ((i : Int) + 1)] w fun e w' => e = .returned (.bool (digAt s.data.toList (i + 1))) ∧ w = w' := fun i w => (digit_any s (i + 1) w hs).mono fun _ _ h => ⟨h.1, h.2.symm⟩
  have hle : ∀ (p : Nat) (c : UInt8), isAt s.data.toList p c = true → p < s.size := fun p c h => by rw [Lib.size_eq]; exact isAt_lt h
  have hre : ∀ p, p ≤ s.size → p ≤ runE s.data.toList p ∧ runE s.data.toList p ≤ s.size := fun p h => by
    have := runE_le s.data.toList p (by rw [← Lib.size_eq]; exact h)
    rw [← Lib.size_eq] at this
    exact this
  have hdl : ∀ p, digAt s.data.toList p = true → p < s.size := fun p h => by rw [Lib.size_eq]; exact (dig_yes h).2
  obtain ⟨r, hr⟩ : ∃ r, nAll s.data.toList i = r := ⟨_, rfl⟩
  rw [hr]
  unfold nAll at hr
  obtain ⟨n0, h0⟩ : ∃ r, nNeg s.data.toList i = r := ⟨_, rfl⟩
  obtain ⟨n1, h1⟩ : ∃ r, nInt s.data.toList n0 = r := ⟨_, rfl⟩
  obtain ⟨n2, h2⟩ : ∃ r, nDot s.data.toList n1 = r := ⟨_, rfl⟩
  obtain ⟨n3, h3⟩ : ∃ r, nExp s.data.toList n2 = r := ⟨_, rfl⟩
  rw [h0, h1, h2, h3] at hr
  unfold nNeg at h0
  unfold nInt at h1
  unfold nDot at h2
  unfold nExp at h3
  obtain ⟨n4, h4⟩ : ∃ r, nSign s.data.toList (n2 + 1) = r := ⟨_, rfl⟩
  rw [h4] at h3
  unfold nSign at h4
  have HR := Lib.hid hr
  have H0 := Lib.hid h0
  have H1 := Lib.hid h1
  have H2 := Lib.hid h2
  have H3 := Lib.hid h3
  have H4 := Lib.hid h4
  clear hr h0 h1 h2 h3 h4
  go_enter Tryz.func235, Tryz.ntmps235
  go_upto_if 10 with (first
    | (go_at_call_of 252 (Value.int .u8 45); refine (h45 _ _).mono ?_; rintro e w1 ⟨rfl, rfl⟩)
    | (go_at_call_of 252 (Value.int .u8 46); refine (h46 _ _).mono ?_; rintro e w1 ⟨rfl, rfl⟩)
    | (go_at_call_of 252 (Value.int .u8 101); refine (h101 _ _).mono ?_; rintro e w1 ⟨rfl, rfl⟩)
    | (go_at_call_of 252 (Value.int .u8 69); refine (h69 _ _).mono ?_; rintro e w1 ⟨rfl, rfl⟩)
    | (go_at_call_of 252 (Value.int .u8 43); refine (h43 _ _).mono ?_; rintro e w1 ⟨rfl, rfl⟩)
    | (go_at_call 253; refine (hd _ _).mono ?_; rintro e w1 ⟨rfl, rfl⟩)
    | (go_at_call 253; refine (hd1 _ _).mono ?_; rintro e w1 ⟨rfl, rfl⟩))
  go_cut [5] (fun v wx => v = .int .i64 n0 ∧ w = wx)
  case first =>
    cases e0 : isAt s.data.toList i 45 with
    | true =>
      have hl := hle _ _ e0
      go_wp2_with (first
    | (go_at_call_of 252 (Value.int .u8 45); refine (h45 _ _).mono ?_; rintro e w1 ⟨rfl, rfl⟩)
    | (go_at_call_of 252 (Value.int .u8 46); refine (h46 _ _).mono ?_; rintro e w1 ⟨rfl, rfl⟩)
    | (go_at_call_of 252 (Value.int .u8 101); refine (h101 _ _).mono ?_; rintro e w1 ⟨rfl, rfl⟩)
    | (go_at_call_of 252 (Value.int .u8 69); refine (h69 _ _).mono ?_; rintro e w1 ⟨rfl, rfl⟩)
    | (go_at_call_of 252 (Value.int .u8 43); refine (h43 _ _).mono ?_; rintro e w1 ⟨rfl, rfl⟩)
    | (go_at_call 253; refine (hd _ _).mono ?_; rintro e w1 ⟨rfl, rfl⟩)
    | (go_at_call 253; refine (hd1 _ _).mono ?_; rintro e w1 ⟨rfl, rfl⟩))
      go_meet
      exact ⟨by rw [← H0.out, if_pos e0]; rfl, rfl⟩
    | false =>
      go_wp2_with (first
    | (go_at_call_of 252 (Value.int .u8 45); refine (h45 _ _).mono ?_; rintro e w1 ⟨rfl, rfl⟩)
    | (go_at_call_of 252 (Value.int .u8 46); refine (h46 _ _).mono ?_; rintro e w1 ⟨rfl, rfl⟩)
    | (go_at_call_of 252 (Value.int .u8 101); refine (h101 _ _).mono ?_; rintro e w1 ⟨rfl, rfl⟩)
    | (go_at_call_of 252 (Value.int .u8 69); refine (h69 _ _).mono ?_; rintro e w1 ⟨rfl, rfl⟩)
    | (go_at_call_of 252 (Value.int .u8 43); refine (h43 _ _).mono ?_; rintro e w1 ⟨rfl, rfl⟩)
    | (go_at_call 253; refine (hd _ _).mono ?_; rintro e w1 ⟨rfl, rfl⟩)
    | (go_at_call 253; refine (hd1 _ _).mono ?_; rintro e w1 ⟨rfl, rfl⟩))
      go_meet
      exact ⟨by rw [← H0.out, if_neg (by rw [e0]; decide)], rfl⟩
  case rest =>
  obtain ⟨rfl, rfl⟩ := hcut
  cases hd0 : digAt s.data.toList n0 with
  | false =>
    have hr : r = i := by rw [← HR.out, if_neg (by rw [hd0]; decide)]
    go_wp2_with (first
    | (go_at_call_of 252 (Value.int .u8 45); refine (h45 _ _).mono ?_; rintro e w1 ⟨rfl, rfl⟩)
    | (go_at_call_of 252 (Value.int .u8 46); refine (h46 _ _).mono ?_; rintro e w1 ⟨rfl, rfl⟩)
    | (go_at_call_of 252 (Value.int .u8 101); refine (h101 _ _).mono ?_; rintro e w1 ⟨rfl, rfl⟩)
    | (go_at_call_of 252 (Value.int .u8 69); refine (h69 _ _).mono ?_; rintro e w1 ⟨rfl, rfl⟩)
    | (go_at_call_of 252 (Value.int .u8 43); refine (h43 _ _).mono ?_; rintro e w1 ⟨rfl, rfl⟩)
    | (go_at_call 253; refine (hd _ _).mono ?_; rintro e w1 ⟨rfl, rfl⟩)
    | (go_at_call 253; refine (hd1 _ _).mono ?_; rintro e w1 ⟨rfl, rfl⟩))
    go_ret
    exact ⟨ret_int (by omega), rfl⟩
  | true =>
    have hlt0 := hdl n0 hd0
    have hr : r = n3 := by rw [← HR.out, if_pos hd0]
    have hb1 : n0 ≤ n1 ∧ n1 ≤ s.size := by
      have := hre n0 (by omega)
      rw [← H1.out]
      split <;> omega
    have hb2 : n1 ≤ n2 ∧ n2 ≤ s.size := by
      rw [← H2.out]
      split
      · rename_i h
        simp only [Bool.and_eq_true] at h
        have := hdl _ h.2
        have := hre (n1 + 1) (by omega)
        omega
      · omega
    have hg0 := list_get s n0 hlt0
    go_upto_if 21 with (first
    | (go_at_call_of 252 (Value.int .u8 45); refine (h45 _ _).mono ?_; rintro e w1 ⟨rfl, rfl⟩)
    | (go_at_call_of 252 (Value.int .u8 46); refine (h46 _ _).mono ?_; rintro e w1 ⟨rfl, rfl⟩)
    | (go_at_call_of 252 (Value.int .u8 101); refine (h101 _ _).mono ?_; rintro e w1 ⟨rfl, rfl⟩)
    | (go_at_call_of 252 (Value.int .u8 69); refine (h69 _ _).mono ?_; rintro e w1 ⟨rfl, rfl⟩)
    | (go_at_call_of 252 (Value.int .u8 43); refine (h43 _ _).mono ?_; rintro e w1 ⟨rfl, rfl⟩)
    | (go_at_call 253; refine (hd _ _).mono ?_; rintro e w1 ⟨rfl, rfl⟩)
    | (go_at_call 253; refine (hd1 _ _).mono ?_; rintro e w1 ⟨rfl, rfl⟩))
    go_cut [5] (fun v wx => v = .int .i64 n1 ∧ w = wx)
    case first =>
      cases e0 : isAt s.data.toList n0 48 with
      | true =>
        have t0 : ((s[n0].toNat : Int) == 48) = true := by
          have := of_decide_eq_true e0
          rw [hg0] at this
          rw [Option.some.inj this]; rfl
        have E0 := Lib.hid e0
        clear hg0 e0
        simp only [t0]
        go_wp2_with (first
    | (go_at_call_of 252 (Value.int .u8 45); refine (h45 _ _).mono ?_; rintro e w1 ⟨rfl, rfl⟩)
    | (go_at_call_of 252 (Value.int .u8 46); refine (h46 _ _).mono ?_; rintro e w1 ⟨rfl, rfl⟩)
    | (go_at_call_of 252 (Value.int .u8 101); refine (h101 _ _).mono ?_; rintro e w1 ⟨rfl, rfl⟩)
    | (go_at_call_of 252 (Value.int .u8 69); refine (h69 _ _).mono ?_; rintro e w1 ⟨rfl, rfl⟩)
    | (go_at_call_of 252 (Value.int .u8 43); refine (h43 _ _).mono ?_; rintro e w1 ⟨rfl, rfl⟩)
    | (go_at_call 253; refine (hd _ _).mono ?_; rintro e w1 ⟨rfl, rfl⟩)
    | (go_at_call 253; refine (hd1 _ _).mono ?_; rintro e w1 ⟨rfl, rfl⟩))
        go_meet
        exact ⟨by rw [← H1.out, if_pos E0.out]; rfl, rfl⟩
      | false =>
        have t0 : ((s[n0].toNat : Int) == 48) = false := byte_not (c := 48) fun h => by
          have := of_decide_eq_false e0
          rw [hg0, h] at this
          exact this rfl
        have E0 := Lib.hid e0
        have hN1 : runE s.data.toList n0 = n1 := by rw [← H1.out, if_neg (by rw [e0]; decide)]
        clear hg0 e0
        simp only [t0]
        go_wp2_with (first
    | (go_at_call_of 252 (Value.int .u8 45); refine (h45 _ _).mono ?_; rintro e w1 ⟨rfl, rfl⟩)
    | (go_at_call_of 252 (Value.int .u8 46); refine (h46 _ _).mono ?_; rintro e w1 ⟨rfl, rfl⟩)
    | (go_at_call_of 252 (Value.int .u8 101); refine (h101 _ _).mono ?_; rintro e w1 ⟨rfl, rfl⟩)
    | (go_at_call_of 252 (Value.int .u8 69); refine (h69 _ _).mono ?_; rintro e w1 ⟨rfl, rfl⟩)
    | (go_at_call_of 252 (Value.int .u8 43); refine (h43 _ _).mono ?_; rintro e w1 ⟨rfl, rfl⟩)
    | (go_at_call 253; refine (hd _ _).mono ?_; rintro e w1 ⟨rfl, rfl⟩)
    | (go_at_call 253; refine (hd1 _ _).mono ?_; rintro e w1 ⟨rfl, rfl⟩))
        go_loopw [5] (fun v wr => ∃ j : Nat, v = .int .i64 j ∧ runE s.data.toList j = n1 ∧ j ≤ s.size ∧ w = wr) (fun v _ => s.size - (RowKit.intOf v).toNat)
        case atStart => exact ⟨_, rfl, hN1, by omega, rfl⟩
        case round =>
          obtain ⟨j, rfl, hj, hjs, rfl⟩ := hrel
          have HJ := Lib.hid hj
          clear hj
          cases e1 : digAt s.data.toList j with
          | true =>
            have hl1 := hdl _ e1
            go_wp2_with (first
    | (go_at_call_of 252 (Value.int .u8 45); refine (h45 _ _).mono ?_; rintro e w1 ⟨rfl, rfl⟩)
    | (go_at_call_of 252 (Value.int .u8 46); refine (h46 _ _).mono ?_; rintro e w1 ⟨rfl, rfl⟩)
    | (go_at_call_of 252 (Value.int .u8 101); refine (h101 _ _).mono ?_; rintro e w1 ⟨rfl, rfl⟩)
    | (go_at_call_of 252 (Value.int .u8 69); refine (h69 _ _).mono ?_; rintro e w1 ⟨rfl, rfl⟩)
    | (go_at_call_of 252 (Value.int .u8 43); refine (h43 _ _).mono ?_; rintro e w1 ⟨rfl, rfl⟩)
    | (go_at_call 253; refine (hd _ _).mono ?_; rintro e w1 ⟨rfl, rfl⟩)
    | (go_at_call 253; refine (hd1 _ _).mono ?_; rintro e w1 ⟨rfl, rfl⟩))
            go_roundw
            case rel => exact ⟨j + 1, by go_num, by rw [← runE_yes e1]; exact HJ.out, by omega, trivial⟩
            case measure => simp [RowKit.intOf]; omega
          | false =>
            go_wp2_with (first
    | (go_at_call_of 252 (Value.int .u8 45); refine (h45 _ _).mono ?_; rintro e w1 ⟨rfl, rfl⟩)
    | (go_at_call_of 252 (Value.int .u8 46); refine (h46 _ _).mono ?_; rintro e w1 ⟨rfl, rfl⟩)
    | (go_at_call_of 252 (Value.int .u8 101); refine (h101 _ _).mono ?_; rintro e w1 ⟨rfl, rfl⟩)
    | (go_at_call_of 252 (Value.int .u8 69); refine (h69 _ _).mono ?_; rintro e w1 ⟨rfl, rfl⟩)
    | (go_at_call_of 252 (Value.int .u8 43); refine (h43 _ _).mono ?_; rintro e w1 ⟨rfl, rfl⟩)
    | (go_at_call 253; refine (hd _ _).mono ?_; rintro e w1 ⟨rfl, rfl⟩)
    | (go_at_call 253; refine (hd1 _ _).mono ?_; rintro e w1 ⟨rfl, rfl⟩))
            go_meet
            exact ⟨by rw [← HJ.out, runE_no e1], rfl⟩
    case rest =>
    obtain ⟨rfl, rfl⟩ := hcut
    clear hg0 hlt0 hd0
    go_upto_region 10 with (fail)
    go_cut [37] (fun v wx => v = .bool (isAt s.data.toList n1 46 && digAt s.data.toList (n1 + 1)) ∧ w = wx)
    case first =>
      cases e0 : isAt s.data.toList n1 46 with
      | true =>
        have hl0 := hle _ _ e0
        cases e2 : digAt s.data.toList (n1 + 1) with
        | true =>
          go_wp2_with (first
    | (go_at_call_of 252 (Value.int .u8 45); refine (h45 _ _).mono ?_; rintro e w1 ⟨rfl, rfl⟩)
    | (go_at_call_of 252 (Value.int .u8 46); refine (h46 _ _).mono ?_; rintro e w1 ⟨rfl, rfl⟩)
    | (go_at_call_of 252 (Value.int .u8 101); refine (h101 _ _).mono ?_; rintro e w1 ⟨rfl, rfl⟩)
    | (go_at_call_of 252 (Value.int .u8 69); refine (h69 _ _).mono ?_; rintro e w1 ⟨rfl, rfl⟩)
    | (go_at_call_of 252 (Value.int .u8 43); refine (h43 _ _).mono ?_; rintro e w1 ⟨rfl, rfl⟩)
    | (go_at_call 253; refine (hd _ _).mono ?_; rintro e w1 ⟨rfl, rfl⟩)
    | (go_at_call 253; refine (hd1 _ _).mono ?_; rintro e w1 ⟨rfl, rfl⟩))
          go_meet
          exact ⟨by rw [e0, e2]; rfl, rfl⟩
        | false =>
          go_wp2_with (first
    | (go_at_call_of 252 (Value.int .u8 45); refine (h45 _ _).mono ?_; rintro e w1 ⟨rfl, rfl⟩)
    | (go_at_call_of 252 (Value.int .u8 46); refine (h46 _ _).mono ?_; rintro e w1 ⟨rfl, rfl⟩)
    | (go_at_call_of 252 (Value.int .u8 101); refine (h101 _ _).mono ?_; rintro e w1 ⟨rfl, rfl⟩)
    | (go_at_call_of 252 (Value.int .u8 69); refine (h69 _ _).mono ?_; rintro e w1 ⟨rfl, rfl⟩)
    | (go_at_call_of 252 (Value.int .u8 43); refine (h43 _ _).mono ?_; rintro e w1 ⟨rfl, rfl⟩)
    | (go_at_call 253; refine (hd _ _).mono ?_; rintro e w1 ⟨rfl, rfl⟩)
    | (go_at_call 253; refine (hd1 _ _).mono ?_; rintro e w1 ⟨rfl, rfl⟩))
          go_meet
          exact ⟨by rw [e0, e2]; rfl, rfl⟩
      | false =>
        go_wp2_with (first
    | (go_at_call_of 252 (Value.int .u8 45); refine (h45 _ _).mono ?_; rintro e w1 ⟨rfl, rfl⟩)
    | (go_at_call_of 252 (Value.int .u8 46); refine (h46 _ _).mono ?_; rintro e w1 ⟨rfl, rfl⟩)
    | (go_at_call_of 252 (Value.int .u8 101); refine (h101 _ _).mono ?_; rintro e w1 ⟨rfl, rfl⟩)
    | (go_at_call_of 252 (Value.int .u8 69); refine (h69 _ _).mono ?_; rintro e w1 ⟨rfl, rfl⟩)
    | (go_at_call_of 252 (Value.int .u8 43); refine (h43 _ _).mono ?_; rintro e w1 ⟨rfl, rfl⟩)
    | (go_at_call 253; refine (hd _ _).mono ?_; rintro e w1 ⟨rfl, rfl⟩)
    | (go_at_call 253; refine (hd1 _ _).mono ?_; rintro e w1 ⟨rfl, rfl⟩))
        go_meet
        exact ⟨by rw [e0]; rfl, rfl⟩
    case rest =>
    obtain ⟨rfl, rfl⟩ := hcut
    go_upto_if 37 with (fail)
    go_cut [5] (fun v wx => v = .int .i64 n2 ∧ w = wx)
    case first =>
      cases e0 : (isAt s.data.toList n1 46 && digAt s.data.toList (n1 + 1)) with
      | true =>
        have hN2 : runE s.data.toList (n1 + 1) = n2 := by rw [← H2.out, e0]; rfl
        have hl2 := hdl (n1 + 1) (by simp only [Bool.and_eq_true] at e0; exact e0.2)
        have E0 := Lib.hid e0
        clear e0
        go_wp2_with (first
    | (go_at_call_of 252 (Value.int .u8 45); refine (h45 _ _).mono ?_; rintro e w1 ⟨rfl, rfl⟩)
    | (go_at_call_of 252 (Value.int .u8 46); refine (h46 _ _).mono ?_; rintro e w1 ⟨rfl, rfl⟩)
    | (go_at_call_of 252 (Value.int .u8 101); refine (h101 _ _).mono ?_; rintro e w1 ⟨rfl, rfl⟩)
    | (go_at_call_of 252 (Value.int .u8 69); refine (h69 _ _).mono ?_; rintro e w1 ⟨rfl, rfl⟩)
    | (go_at_call_of 252 (Value.int .u8 43); refine (h43 _ _).mono ?_; rintro e w1 ⟨rfl, rfl⟩)
    | (go_at_call 253; refine (hd _ _).mono ?_; rintro e w1 ⟨rfl, rfl⟩)
    | (go_at_call 253; refine (hd1 _ _).mono ?_; rintro e w1 ⟨rfl, rfl⟩))
        go_loopw [5] (fun v wr => ∃ j : Nat, v = .int .i64 j ∧ runE s.data.toList j = n2 ∧ j ≤ s.size ∧ w = wr) (fun v _ => s.size - (RowKit.intOf v).toNat)
        case atStart => exact ⟨_, by go_num, hN2, by omega, rfl⟩
        case round =>
          obtain ⟨j, rfl, hj, hjs, rfl⟩ := hrel
          have HJ := Lib.hid hj
          clear hj
          cases e1 : digAt s.data.toList j with
          | true =>
            have hl1 := hdl _ e1
            go_wp2_with (first
    | (go_at_call_of 252 (Value.int .u8 45); refine (h45 _ _).mono ?_; rintro e w1 ⟨rfl, rfl⟩)
    | (go_at_call_of 252 (Value.int .u8 46); refine (h46 _ _).mono ?_; rintro e w1 ⟨rfl, rfl⟩)
    | (go_at_call_of 252 (Value.int .u8 101); refine (h101 _ _).mono ?_; rintro e w1 ⟨rfl, rfl⟩)
    | (go_at_call_of 252 (Value.int .u8 69); refine (h69 _ _).mono ?_; rintro e w1 ⟨rfl, rfl⟩)
    | (go_at_call_of 252 (Value.int .u8 43); refine (h43 _ _).mono ?_; rintro e w1 ⟨rfl, rfl⟩)
    | (go_at_call 253; refine (hd _ _).mono ?_; rintro e w1 ⟨rfl, rfl⟩)
    | (go_at_call 253; refine (hd1 _ _).mono ?_; rintro e w1 ⟨rfl, rfl⟩))
            go_roundw
            case rel => exact ⟨j + 1, by go_num, by rw [← runE_yes e1]; exact HJ.out, by omega, trivial⟩
            case measure => simp [RowKit.intOf]; omega
          | false =>
            go_wp2_with (first
    | (go_at_call_of 252 (Value.int .u8 45); refine (h45 _ _).mono ?_; rintro e w1 ⟨rfl, rfl⟩)
    | (go_at_call_of 252 (Value.int .u8 46); refine (h46 _ _).mono ?_; rintro e w1 ⟨rfl, rfl⟩)
    | (go_at_call_of 252 (Value.int .u8 101); refine (h101 _ _).mono ?_; rintro e w1 ⟨rfl, rfl⟩)
    | (go_at_call_of 252 (Value.int .u8 69); refine (h69 _ _).mono ?_; rintro e w1 ⟨rfl, rfl⟩)
    | (go_at_call_of 252 (Value.int .u8 43); refine (h43 _ _).mono ?_; rintro e w1 ⟨rfl, rfl⟩)
    | (go_at_call 253; refine (hd _ _).mono ?_; rintro e w1 ⟨rfl, rfl⟩)
    | (go_at_call 253; refine (hd1 _ _).mono ?_; rintro e w1 ⟨rfl, rfl⟩))
            go_meet
            exact ⟨by rw [← HJ.out, runE_no e1], rfl⟩
      | false =>
        have E0 := Lib.hid e0
        clear e0
        go_wp2_with (first
    | (go_at_call_of 252 (Value.int .u8 45); refine (h45 _ _).mono ?_; rintro e w1 ⟨rfl, rfl⟩)
    | (go_at_call_of 252 (Value.int .u8 46); refine (h46 _ _).mono ?_; rintro e w1 ⟨rfl, rfl⟩)
    | (go_at_call_of 252 (Value.int .u8 101); refine (h101 _ _).mono ?_; rintro e w1 ⟨rfl, rfl⟩)
    | (go_at_call_of 252 (Value.int .u8 69); refine (h69 _ _).mono ?_; rintro e w1 ⟨rfl, rfl⟩)
    | (go_at_call_of 252 (Value.int .u8 43); refine (h43 _ _).mono ?_; rintro e w1 ⟨rfl, rfl⟩)
    | (go_at_call 253; refine (hd _ _).mono ?_; rintro e w1 ⟨rfl, rfl⟩)
    | (go_at_call 253; refine (hd1 _ _).mono ?_; rintro e w1 ⟨rfl, rfl⟩))
        go_meet
        exact ⟨by rw [← H2.out, E0.out]; rfl, rfl⟩
    case rest =>
    obtain ⟨rfl, rfl⟩ := hcut
    go_upto_region 14 with (fail)
    go_cut [52] (fun v wx => v = .bool (isAt s.data.toList n2 101 || isAt s.data.toList n2 69) ∧ w = wx)
    case first =>
      cases e0 : isAt s.data.toList n2 101 with
      | true =>
        go_wp2_with (first
    | (go_at_call_of 252 (Value.int .u8 45); refine (h45 _ _).mono ?_; rintro e w1 ⟨rfl, rfl⟩)
    | (go_at_call_of 252 (Value.int .u8 46); refine (h46 _ _).mono ?_; rintro e w1 ⟨rfl, rfl⟩)
    | (go_at_call_of 252 (Value.int .u8 101); refine (h101 _ _).mono ?_; rintro e w1 ⟨rfl, rfl⟩)
    | (go_at_call_of 252 (Value.int .u8 69); refine (h69 _ _).mono ?_; rintro e w1 ⟨rfl, rfl⟩)
    | (go_at_call_of 252 (Value.int .u8 43); refine (h43 _ _).mono ?_; rintro e w1 ⟨rfl, rfl⟩)
    | (go_at_call 253; refine (hd _ _).mono ?_; rintro e w1 ⟨rfl, rfl⟩)
    | (go_at_call 253; refine (hd1 _ _).mono ?_; rintro e w1 ⟨rfl, rfl⟩))
        go_meet
        exact ⟨by rw [e0]; rfl, rfl⟩
      | false =>
        go_wp2_with (first
    | (go_at_call_of 252 (Value.int .u8 45); refine (h45 _ _).mono ?_; rintro e w1 ⟨rfl, rfl⟩)
    | (go_at_call_of 252 (Value.int .u8 46); refine (h46 _ _).mono ?_; rintro e w1 ⟨rfl, rfl⟩)
    | (go_at_call_of 252 (Value.int .u8 101); refine (h101 _ _).mono ?_; rintro e w1 ⟨rfl, rfl⟩)
    | (go_at_call_of 252 (Value.int .u8 69); refine (h69 _ _).mono ?_; rintro e w1 ⟨rfl, rfl⟩)
    | (go_at_call_of 252 (Value.int .u8 43); refine (h43 _ _).mono ?_; rintro e w1 ⟨rfl, rfl⟩)
    | (go_at_call 253; refine (hd _ _).mono ?_; rintro e w1 ⟨rfl, rfl⟩)
    | (go_at_call 253; refine (hd1 _ _).mono ?_; rintro e w1 ⟨rfl, rfl⟩))
        go_meet
        exact ⟨by rw [e0]; rfl, rfl⟩
    case rest =>
    obtain ⟨rfl, rfl⟩ := hcut
    go_upto_if 52 with (fail)
    go_cut [5] (fun v wx => v = .int .i64 n3 ∧ w = wx)
    case first =>
      cases e0 : (isAt s.data.toList n2 101 || isAt s.data.toList n2 69) with
      | true =>
        have hl2 : n2 < s.size := by
          simp only [Bool.or_eq_true] at e0
          rcases e0 with h | h
          · exact hle _ _ h
          · exact hle _ _ h
        have h4s : n4 ≤ s.size := by
          rw [← H4.out]
          split
          · rename_i h
            simp only [Bool.or_eq_true] at h
            rcases h with h | h
            · have := hle _ _ h; omega
            · have := hle _ _ h; omega
          · omega
        have E0 := Lib.hid e0
        clear e0
        go_upto_region 16 with (fail)
        go_cut [62] (fun v wx => v = .bool (isAt s.data.toList (n2 + 1) 43 || isAt s.data.toList (n2 + 1) 45) ∧ w = wx)
        case first =>
          cases e0 : isAt s.data.toList (n2 + 1) 43 with
          | true =>
            go_wp2_with (first
    | (go_at_call_of 252 (Value.int .u8 45); refine (h45 _ _).mono ?_; rintro e w1 ⟨rfl, rfl⟩)
    | (go_at_call_of 252 (Value.int .u8 46); refine (h46 _ _).mono ?_; rintro e w1 ⟨rfl, rfl⟩)
    | (go_at_call_of 252 (Value.int .u8 101); refine (h101 _ _).mono ?_; rintro e w1 ⟨rfl, rfl⟩)
    | (go_at_call_of 252 (Value.int .u8 69); refine (h69 _ _).mono ?_; rintro e w1 ⟨rfl, rfl⟩)
    | (go_at_call_of 252 (Value.int .u8 43); refine (h43 _ _).mono ?_; rintro e w1 ⟨rfl, rfl⟩)
    | (go_at_call_of 252 (Value.int .u8 43); refine (h43b _ _).mono ?_; rintro e w1 ⟨rfl, rfl⟩)
    | (go_at_call_of 252 (Value.int .u8 45); refine (h45b _ _).mono ?_; rintro e w1 ⟨rfl, rfl⟩)
    | (go_at_call 253; refine (hd _ _).mono ?_; rintro e w1 ⟨rfl, rfl⟩)
    | (go_at_call 253; refine (hd1 _ _).mono ?_; rintro e w1 ⟨rfl, rfl⟩))
            go_meet
            exact ⟨by rw [e0]; rfl, rfl⟩
          | false =>
            go_wp2_with (first
    | (go_at_call_of 252 (Value.int .u8 45); refine (h45 _ _).mono ?_; rintro e w1 ⟨rfl, rfl⟩)
    | (go_at_call_of 252 (Value.int .u8 46); refine (h46 _ _).mono ?_; rintro e w1 ⟨rfl, rfl⟩)
    | (go_at_call_of 252 (Value.int .u8 101); refine (h101 _ _).mono ?_; rintro e w1 ⟨rfl, rfl⟩)
    | (go_at_call_of 252 (Value.int .u8 69); refine (h69 _ _).mono ?_; rintro e w1 ⟨rfl, rfl⟩)
    | (go_at_call_of 252 (Value.int .u8 43); refine (h43 _ _).mono ?_; rintro e w1 ⟨rfl, rfl⟩)
    | (go_at_call_of 252 (Value.int .u8 43); refine (h43b _ _).mono ?_; rintro e w1 ⟨rfl, rfl⟩)
    | (go_at_call_of 252 (Value.int .u8 45); refine (h45b _ _).mono ?_; rintro e w1 ⟨rfl, rfl⟩)
    | (go_at_call 253; refine (hd _ _).mono ?_; rintro e w1 ⟨rfl, rfl⟩)
    | (go_at_call 253; refine (hd1 _ _).mono ?_; rintro e w1 ⟨rfl, rfl⟩))
            go_meet
            exact ⟨by rw [e0]; rfl, rfl⟩
        case rest =>
        obtain ⟨rfl, rfl⟩ := hcut
        go_upto_if 62 with (fail)
        go_cut [6] (fun v wx => v = .int .i64 n4 ∧ w = wx)
        case first =>
          cases e0 : (isAt s.data.toList (n2 + 1) 43 || isAt s.data.toList (n2 + 1) 45) with
          | true =>
            have E1 := Lib.hid e0
            clear e0
            go_wp2_with (first
    | (go_at_call_of 252 (Value.int .u8 45); refine (h45 _ _).mono ?_; rintro e w1 ⟨rfl, rfl⟩)
    | (go_at_call_of 252 (Value.int .u8 46); refine (h46 _ _).mono ?_; rintro e w1 ⟨rfl, rfl⟩)
    | (go_at_call_of 252 (Value.int .u8 101); refine (h101 _ _).mono ?_; rintro e w1 ⟨rfl, rfl⟩)
    | (go_at_call_of 252 (Value.int .u8 69); refine (h69 _ _).mono ?_; rintro e w1 ⟨rfl, rfl⟩)
    | (go_at_call_of 252 (Value.int .u8 43); refine (h43 _ _).mono ?_; rintro e w1 ⟨rfl, rfl⟩)
    | (go_at_call 253; refine (hd _ _).mono ?_; rintro e w1 ⟨rfl, rfl⟩)
    | (go_at_call 253; refine (hd1 _ _).mono ?_; rintro e w1 ⟨rfl, rfl⟩))
            go_meet
            exact ⟨by rw [← H4.out, E1.out]; go_num, rfl⟩
          | false =>
            have E1 := Lib.hid e0
            clear e0
            go_wp2_with (first
    | (go_at_call_of 252 (Value.int .u8 45); refine (h45 _ _).mono ?_; rintro e w1 ⟨rfl, rfl⟩)
    | (go_at_call_of 252 (Value.int .u8 46); refine (h46 _ _).mono ?_; rintro e w1 ⟨rfl, rfl⟩)
    | (go_at_call_of 252 (Value.int .u8 101); refine (h101 _ _).mono ?_; rintro e w1 ⟨rfl, rfl⟩)
    | (go_at_call_of 252 (Value.int .u8 69); refine (h69 _ _).mono ?_; rintro e w1 ⟨rfl, rfl⟩)
    | (go_at_call_of 252 (Value.int .u8 43); refine (h43 _ _).mono ?_; rintro e w1 ⟨rfl, rfl⟩)
    | (go_at_call 253; refine (hd _ _).mono ?_; rintro e w1 ⟨rfl, rfl⟩)
    | (go_at_call 253; refine (hd1 _ _).mono ?_; rintro e w1 ⟨rfl, rfl⟩))
            go_meet
            exact ⟨by rw [← H4.out, E1.out]; go_num, rfl⟩
        case rest =>
        obtain ⟨rfl, rfl⟩ := hcut
        cases e2 : digAt s.data.toList n4 with
        | true =>
          have hN3 : runE s.data.toList n4 = n3 := by rw [← H3.out, E0.out, e2]; rfl
          have hl4 := hdl _ e2
          go_wp2_with (first
    | (go_at_call_of 252 (Value.int .u8 45); refine (h45 _ _).mono ?_; rintro e w1 ⟨rfl, rfl⟩)
    | (go_at_call_of 252 (Value.int .u8 46); refine (h46 _ _).mono ?_; rintro e w1 ⟨rfl, rfl⟩)
    | (go_at_call_of 252 (Value.int .u8 101); refine (h101 _ _).mono ?_; rintro e w1 ⟨rfl, rfl⟩)
    | (go_at_call_of 252 (Value.int .u8 69); refine (h69 _ _).mono ?_; rintro e w1 ⟨rfl, rfl⟩)
    | (go_at_call_of 252 (Value.int .u8 43); refine (h43 _ _).mono ?_; rintro e w1 ⟨rfl, rfl⟩)
    | (go_at_call 253; refine (hd _ _).mono ?_; rintro e w1 ⟨rfl, rfl⟩)
    | (go_at_call 253; refine (hd1 _ _).mono ?_; rintro e w1 ⟨rfl, rfl⟩))
          go_loopw [6] (fun v wr => ∃ j : Nat, v = .int .i64 j ∧ runE s.data.toList j = n3 ∧ j ≤ s.size ∧ w = wr) (fun v _ => s.size - (RowKit.intOf v).toNat)
          case atStart => exact ⟨_, rfl, hN3, by omega, rfl⟩
          case round =>
            obtain ⟨j, rfl, hj, hjs, rfl⟩ := hrel
            have HJ := Lib.hid hj
            clear hj
            cases e1 : digAt s.data.toList j with
            | true =>
              have hl1 := hdl _ e1
              go_wp2_with (first
    | (go_at_call_of 252 (Value.int .u8 45); refine (h45 _ _).mono ?_; rintro e w1 ⟨rfl, rfl⟩)
    | (go_at_call_of 252 (Value.int .u8 46); refine (h46 _ _).mono ?_; rintro e w1 ⟨rfl, rfl⟩)
    | (go_at_call_of 252 (Value.int .u8 101); refine (h101 _ _).mono ?_; rintro e w1 ⟨rfl, rfl⟩)
    | (go_at_call_of 252 (Value.int .u8 69); refine (h69 _ _).mono ?_; rintro e w1 ⟨rfl, rfl⟩)
    | (go_at_call_of 252 (Value.int .u8 43); refine (h43 _ _).mono ?_; rintro e w1 ⟨rfl, rfl⟩)
    | (go_at_call 253; refine (hd _ _).mono ?_; rintro e w1 ⟨rfl, rfl⟩)
    | (go_at_call 253; refine (hd1 _ _).mono ?_; rintro e w1 ⟨rfl, rfl⟩))
              go_roundw
              case rel => exact ⟨j + 1, by go_num, by rw [← runE_yes e1]; exact HJ.out, by omega, trivial⟩
              case measure => simp [RowKit.intOf]; omega
            | false =>
              go_wp2_with (first
    | (go_at_call_of 252 (Value.int .u8 45); refine (h45 _ _).mono ?_; rintro e w1 ⟨rfl, rfl⟩)
    | (go_at_call_of 252 (Value.int .u8 46); refine (h46 _ _).mono ?_; rintro e w1 ⟨rfl, rfl⟩)
    | (go_at_call_of 252 (Value.int .u8 101); refine (h101 _ _).mono ?_; rintro e w1 ⟨rfl, rfl⟩)
    | (go_at_call_of 252 (Value.int .u8 69); refine (h69 _ _).mono ?_; rintro e w1 ⟨rfl, rfl⟩)
    | (go_at_call_of 252 (Value.int .u8 43); refine (h43 _ _).mono ?_; rintro e w1 ⟨rfl, rfl⟩)
    | (go_at_call 253; refine (hd _ _).mono ?_; rintro e w1 ⟨rfl, rfl⟩)
    | (go_at_call 253; refine (hd1 _ _).mono ?_; rintro e w1 ⟨rfl, rfl⟩))
              go_meet
              exact ⟨by rw [← HJ.out, runE_no e1], rfl⟩
        | false =>
          go_wp2_with (first
    | (go_at_call_of 252 (Value.int .u8 45); refine (h45 _ _).mono ?_; rintro e w1 ⟨rfl, rfl⟩)
    | (go_at_call_of 252 (Value.int .u8 46); refine (h46 _ _).mono ?_; rintro e w1 ⟨rfl, rfl⟩)
    | (go_at_call_of 252 (Value.int .u8 101); refine (h101 _ _).mono ?_; rintro e w1 ⟨rfl, rfl⟩)
    | (go_at_call_of 252 (Value.int .u8 69); refine (h69 _ _).mono ?_; rintro e w1 ⟨rfl, rfl⟩)
    | (go_at_call_of 252 (Value.int .u8 43); refine (h43 _ _).mono ?_; rintro e w1 ⟨rfl, rfl⟩)
    | (go_at_call 253; refine (hd _ _).mono ?_; rintro e w1 ⟨rfl, rfl⟩)
    | (go_at_call 253; refine (hd1 _ _).mono ?_; rintro e w1 ⟨rfl, rfl⟩))
          go_meet
          exact ⟨by rw [← H3.out, E0.out, e2]; rfl, rfl⟩
      | false =>
        have E0 := Lib.hid e0
        clear e0
        go_wp2_with (first
    | (go_at_call_of 252 (Value.int .u8 45); refine (h45 _ _).mono ?_; rintro e w1 ⟨rfl, rfl⟩)
    | (go_at_call_of 252 (Value.int .u8 46); refine (h46 _ _).mono ?_; rintro e w1 ⟨rfl, rfl⟩)
    | (go_at_call_of 252 (Value.int .u8 101); refine (h101 _ _).mono ?_; rintro e w1 ⟨rfl, rfl⟩)
    | (go_at_call_of 252 (Value.int .u8 69); refine (h69 _ _).mono ?_; rintro e w1 ⟨rfl, rfl⟩)
    | (go_at_call_of 252 (Value.int .u8 43); refine (h43 _ _).mono ?_; rintro e w1 ⟨rfl, rfl⟩)
    | (go_at_call 253; refine (hd _ _).mono ?_; rintro e w1 ⟨rfl, rfl⟩)
    | (go_at_call 253; refine (hd1 _ _).mono ?_; rintro e w1 ⟨rfl, rfl⟩))
        go_meet
        exact ⟨by rw [← H3.out, E0.out]; rfl, rfl⟩
    case rest =>
    obtain ⟨rfl, rfl⟩ := hcut
    go_wp2_with (first
    | (go_at_call_of 252 (Value.int .u8 45); refine (h45 _ _).mono ?_; rintro e w1 ⟨rfl, rfl⟩)
    | (go_at_call_of 252 (Value.int .u8 46); refine (h46 _ _).mono ?_; rintro e w1 ⟨rfl, rfl⟩)
    | (go_at_call_of 252 (Value.int .u8 101); refine (h101 _ _).mono ?_; rintro e w1 ⟨rfl, rfl⟩)
    | (go_at_call_of 252 (Value.int .u8 69); refine (h69 _ _).mono ?_; rintro e w1 ⟨rfl, rfl⟩)
    | (go_at_call_of 252 (Value.int .u8 43); refine (h43 _ _).mono ?_; rintro e w1 ⟨rfl, rfl⟩)
    | (go_at_call 253; refine (hd _ _).mono ?_; rintro e w1 ⟨rfl, rfl⟩)
    | (go_at_call 253; refine (hd1 _ _).mono ?_; rintro e w1 ⟨rfl, rfl⟩))
    go_ret
    exact ⟨ret_int (by omega), rfl⟩
end Go.Proofs.Jt
/- R5: The walk of the reference's hex. -/
namespace Go.Proofs.Jt
open Go.RowKit Go.Proofs Go.Lib Go.Proofs.Utf

theorem hexV_le (c : UInt8) : hexV c ≤ 15 := by unfold hexV; (repeat' split) <;> omega
def hvP (g : Nat → UInt8) : Nat → Int
  | 0 => 0
  | k + 1 => 16 * hvP g k + hexV (g (k + 1))
theorem hvP_bound (g : Nat → UInt8) : ∀ k, k ≤ 4 → (∀ j, 1 ≤ j → j ≤ k → 0 ≤ hexV (g j)) → 0 ≤ hvP g k ∧ hvP g k ≤ 65535
  | 0, _, _ => by simp [hvP]
  | 1, _, h => by have a := h 1 (by omega) (by omega); have b := hexV_le (g 1); simp [hvP]; omega
  | 2, _, h => by have a := h 1 (by omega) (by omega); have b := hexV_le (g 1); have a2 := h 2 (by omega) (by omega); have b2 := hexV_le (g 2); simp [hvP]; omega
  | 3, _, h => by have a := h 1 (by omega) (by omega); have b := hexV_le (g 1); have a2 := h 2 (by omega) (by omega); have b2 := hexV_le (g 2); have a3 := h 3 (by omega) (by omega); have b3 := hexV_le (g 3); simp [hvP]; omega
  | 4, _, h => by have a := h 1 (by omega) (by omega); have b := hexV_le (g 1); have a2 := h 2 (by omega) (by omega); have b2 := hexV_le (g 2); have a3 := h 3 (by omega) (by omega); have b3 := hexV_le (g 3); have a4 := h 4 (by omega) (by omega); have b4 := hexV_le (g 4); simp [hvP]; omega
  | k + 5, h, _ => by omega
theorem unit_less (l : List UInt8) (h : ¬ (isAt l 0 117 = true ∧ 4 < l.length)) : unitL l = -1 := by
  match l with
  | u :: a :: b :: c :: d :: t =>
    rw [unitL_cons, if_neg]
    intro hu
    exact h ⟨by simp [isAt, hu.1], by simp⟩
  | [] => rfl
  | [_] => rfl
  | [_, _] => rfl
  | [_, _, _] => rfl
  | [_, _, _, _] => rfl
theorem unit_no (l : List UInt8) (k : Nat) (h1 : 1 ≤ k) (h4 : k ≤ 4) (h : hexV (l.getD k 0) < 0) : unitL l = -1 := by
  match l with
  | u :: a :: b :: c :: d :: t =>
    rw [unitL_cons, if_neg]
    rintro ⟨_, g1, g2, g3, g4⟩
    rcases (show k = 1 ∨ k = 2 ∨ k = 3 ∨ k = 4 by omega) with rfl | rfl | rfl | rfl <;> simp at h <;> omega
  | [] => rfl
  | [_] => rfl
  | [_, _] => rfl
  | [_, _, _] => rfl
  | [_, _, _, _] => rfl
theorem unit_yes (l : List UInt8) (h0 : isAt l 0 117 = true) (hl : 4 < l.length) (h : ∀ j, 1 ≤ j → j ≤ 4 → 0 ≤ hexV (l.getD j 0)) : unitL l = hvP (fun j => l.getD j 0) 4 := by
  obtain ⟨u, a, b, c, d, t, rfl⟩ := five hl
  have hu : u = 117 := by simpa [isAt] using h0
  have a1 := h 1 (by omega) (by omega)
  have a2 := h 2 (by omega) (by omega)
  have a3 := h 3 (by omega) (by omega)
  have a4 := h 4 (by omega) (by omega)
  simp at a1 a2 a3 a4
  rw [unitL_cons, if_pos ⟨hu, a1, a2, a3, a4⟩]
  simp [hvP]
  omega
theorem hexV_dig (c : UInt8) (h1 : 48 ≤ c.toNat) (h2 : c.toNat ≤ 57) : hexV c = (c.toNat : Int) - 48 := by unfold hexV; rw [if_pos ⟨h1, h2⟩]
theorem hexV_low2 (c : UInt8) (h1 : 97 ≤ c.toNat) (h2 : c.toNat ≤ 102) : hexV c = (c.toNat : Int) - 97 + 10 := by unfold hexV; rw [if_neg (by omega), if_pos ⟨h1, h2⟩]; omega
theorem hexV_up (c : UInt8) (h1 : 65 ≤ c.toNat) (h2 : c.toNat ≤ 70) : hexV c = (c.toNat : Int) - 65 + 10 := by unfold hexV; rw [if_neg (by omega), if_neg (by omega), if_pos ⟨h1, h2⟩]; omega
theorem hexV_none (c : UInt8) (h1 : ¬ (48 ≤ c.toNat ∧ c.toNat ≤ 57)) (h2 : ¬ (97 ≤ c.toNat ∧ c.toNat ≤ 102)) (h3 : ¬ (65 ≤ c.toNat ∧ c.toNat ≤ 70)) : hexV c = -1 := by unfold hexV; rw [if_neg h1, if_neg h2, if_neg h3]
set_option maxRecDepth 100000 in
set_option maxHeartbeats 1000000 in
theorem hex_any (s : ByteArray) (i : Nat) (w : World) (hs : s.size ≤ 16777216) (hi : i ≤ s.size) : Calls Tryz.prog 258 #[.string s, .int .i64 i] w fun e w' => e = .returned (.int .i64 (unitL (s.data.toList.drop i))) ∧ w' = w := by
  have h117 : ∀ (i : Nat) w, Calls Tryz.prog 252 #[.string s, .int .i64 i, .int .u8 117] w fun e w' => e = .returned (.bool (isAt s.data.toList i 117)) ∧ w = w' := fun i w => (ris_any s i 117 w hs).mono fun _ _ h => ⟨h.1, h.2.symm⟩
  have hll : (s.data.toList.drop i).length = s.size - i := by rw [List.length_drop, ← Lib.size_eq]
  have hia : isAt (s.data.toList.drop i) 0 117 = isAt s.data.toList i 117 := by unfold isAt; rw [List.getElem?_drop]; rfl
  have hgk : ∀ k, (h : i + k < s.size) → (s.data.toList.drop i).getD k 0 = s[i + k] := fun k h => by rw [drop_getD, get_getD s _ h]
  have hno := unit_less (s.data.toList.drop i)
  have hbad := unit_no (s.data.toList.drop i)
  have hyes := unit_yes (s.data.toList.drop i)
  rw [hia, hll] at hno hyes
  obtain ⟨g, hg⟩ : ∃ g : Nat → UInt8, (fun j => (s.data.toList.drop i).getD j 0) = g := ⟨_, rfl⟩
  have hgj : ∀ j, (s.data.toList.drop i).getD j 0 = g j := fun j => by rw [← hg]
  rw [hg] at hyes
  simp only [hgj] at hgk hbad hyes
  obtain ⟨r, hr⟩ : ∃ r, unitL (s.data.toList.drop i) = r := ⟨_, rfl⟩
  rw [hr] at hno hbad hyes ⊢
  clear hll hia hg hgj hr
  cases e0 : isAt s.data.toList i 117 with
  | false =>
    have hr : r = -1 := hno (by rw [e0]; simp)
    clear hno hbad hyes hgk
    go_enter Tryz.func258, Tryz.ntmps258
    go_wp2_with (first
      | (go_at_call 252; refine (h117 _ _).mono ?_; rintro e w1 ⟨rfl, rfl⟩))
    go_ret
    exact ⟨ret_int (by omega), rfl⟩
  | true =>
    by_cases hlen : i + 4 < s.size
    · have hyes2 := hyes e0 (by omega)
      have u2 : decide (s.size ≤ i + 4) = false := by simp; omega
      have u3 : decide ((s.size : Int) ≤ (i : Int) + 4) = false := by simp; omega
      clear hno hyes
      go_enter Tryz.func258, Tryz.ntmps258
      go_wp2_with (first
        | (go_at_call 252; refine (h117 _ _).mono ?_; rintro e w1 ⟨rfl, rfl⟩))
      go_loopw [5, 6] (fun a v wr => ∃ k : Nat, a = .int .i64 (hvP g (k - 1)) ∧ v = .int .i64 k ∧ 1 ≤ k ∧ k ≤ 5 ∧ (∀ j, 1 ≤ j → j < k → 0 ≤ hexV (g j)) ∧ w = wr) (fun _ v _ => 6 - (RowKit.intOf v).toNat)
      case atStart => exact ⟨1, rfl, rfl, by omega, by omega, fun j h1 h2 => by omega, rfl⟩
      case round =>
        obtain ⟨k, rfl, rfl, hk1, hk, hall, rfl⟩ := hrel
        have hbd := hvP_bound g (k - 1) (by omega) (fun j h1 h2 => hall j h1 (by omega))
        have HALL := Lib.hid hall
        clear hall
        by_cases hk4 : k < 5
        · have hlt : i + k < s.size := by omega
          have hle4 : (k : Int) ≤ 4 := by omega
          have hg1 := hgk k hlt
          have hd0 : s[i + k].toNat < 256 := s[i + k].toNat_lt
          have hvs : hvP g k = 16 * hvP g (k - 1) + hexV (g k) := by
            obtain ⟨m, rfl⟩ : ∃ m, k = m + 1 := ⟨k - 1, by omega⟩
            rfl
          have hb1 := hbad k (by omega) (by omega)
          have hvl := hexV_le (g k)
          obtain ⟨x, hx⟩ : ∃ x, hexV (g k) = x := ⟨_, rfl⟩
          obtain ⟨n, hn⟩ : ∃ n, hvP g (k - 1) = n := ⟨_, rfl⟩
          rw [hn, hx] at hvs
          rw [hx] at hb1 hvl
          rw [hn] at hbd
          simp only [hn]
          have hxe : hexV s[i + k] = x := by rw [← hg1, hx]
          obtain ⟨c, hc⟩ : ∃ c, s[i + k].toNat = c := ⟨_, rfl⟩
          have q1 := hexV_dig s[i + k]
          have q2 := hexV_low2 s[i + k]
          have q3 := hexV_up s[i + k]
          have q4 := hexV_none s[i + k]
          rw [hxe, hc] at q1 q2 q3 q4
          rw [hc] at hd0
          have HV := Lib.hid hvs
          have HX := Lib.hid hx
          have HC := Lib.hid hc
          clear hvs hx hn hg1 hxe hgk hbad
          by_cases c1 : 48 ≤ c ∧ c ≤ 57
          · have e := q1 c1.1 c1.2
            have v1 : decide ((48 : Int) ≤ (c : Int)) = true := by simp; omega
            have v2 : decide ((c : Int) ≤ 57) = true := by simp; omega
            have hx0 : 0 ≤ x := by omega
            clear q1 q2 q3 q4 c1 hyes2 hb1
            go_wp2
            go_roundw
            case rel =>
              refine ⟨k + 1, by rw [show k + 1 - 1 = k by omega, HV.out, e], by go_num, by omega, by omega, fun j h1 h2 => ?_, trivial⟩
              by_cases hj : j = k
              · rw [hj, HX.out]; exact hx0
              · exact HALL.out j h1 (by omega)
            case measure => simp [RowKit.intOf]; omega
          · by_cases c2 : 97 ≤ c ∧ c ≤ 102
            · have e := q2 c2.1 c2.2
              have v1 : decide ((48 : Int) ≤ (c : Int)) = true := by simp; omega
              have v2 : decide ((c : Int) ≤ 57) = false := by simp; omega
              have v3 : decide ((97 : Int) ≤ (c : Int)) = true := by simp; omega
              have v4 : decide ((c : Int) ≤ 102) = true := by simp; omega
              have hx0 : 0 ≤ x := by omega
              clear q1 q2 q3 q4 c1 hyes2 hb1
              go_wp2
              go_roundw
              case rel =>
                refine ⟨k + 1, by rw [show k + 1 - 1 = k by omega, HV.out, e], by go_num, by omega, by omega, fun j h1 h2 => ?_, trivial⟩
                by_cases hj : j = k
                · rw [hj, HX.out]; exact hx0
                · exact HALL.out j h1 (by omega)
              case measure => simp [RowKit.intOf]; omega
            · by_cases c3 : 65 ≤ c ∧ c ≤ 70
              · have e := q3 c3.1 c3.2
                have v1 : decide ((48 : Int) ≤ (c : Int)) = true := by simp; omega
                have v2 : decide ((c : Int) ≤ 57) = false := by simp; omega
                have v3 : decide ((97 : Int) ≤ (c : Int)) = false := by simp; omega
                have v5 : decide ((65 : Int) ≤ (c : Int)) = true := by simp; omega
                have v6 : decide ((c : Int) ≤ 70) = true := by simp; omega
                have hx0 : 0 ≤ x := by omega
                clear q1 q2 q3 q4 c1 hyes2 hb1
                go_wp2
                go_roundw
                case rel =>
                  refine ⟨k + 1, by rw [show k + 1 - 1 = k by omega, HV.out, e], by go_num, by omega, by omega, fun j h1 h2 => ?_, trivial⟩
                  by_cases hj : j = k
                  · rw [hj, HX.out]; exact hx0
                  · exact HALL.out j h1 (by omega)
                case measure => simp [RowKit.intOf]; omega
              · have e := q4 c1 c2 c3
                have hr : r = -1 := hb1 (by omega)
                clear q1 q2 q3 q4 hyes2
                rcases (show c < 48 ∨ (58 ≤ c ∧ c < 65) ∨ (71 ≤ c ∧ c < 97) ∨ 102 < c by omega) with cc | cc | cc | cc
                · have v1 : decide ((48 : Int) ≤ (c : Int)) = false := by simp; omega
                  have v3 : decide ((97 : Int) ≤ (c : Int)) = false := by simp; omega
                  have v5 : decide ((65 : Int) ≤ (c : Int)) = false := by simp; omega
                  clear c1 c2 c3 cc
                  go_wp2
                  go_ret
                  exact ⟨ret_int (by omega), rfl⟩
                · have v1 : decide ((48 : Int) ≤ (c : Int)) = true := by simp; omega
                  have v2 : decide ((c : Int) ≤ 57) = false := by simp; omega
                  have v3 : decide ((97 : Int) ≤ (c : Int)) = false := by simp; omega
                  have v5 : decide ((65 : Int) ≤ (c : Int)) = false := by simp; omega
                  clear c1 c2 c3 cc
                  go_wp2
                  go_ret
                  exact ⟨ret_int (by omega), rfl⟩
                · have v1 : decide ((48 : Int) ≤ (c : Int)) = true := by simp; omega
                  have v2 : decide ((c : Int) ≤ 57) = false := by simp; omega
                  have v3 : decide ((97 : Int) ≤ (c : Int)) = false := by simp; omega
                  have v5 : decide ((65 : Int) ≤ (c : Int)) = true := by simp; omega
                  have v6 : decide ((c : Int) ≤ 70) = false := by simp; omega
                  clear c1 c2 c3 cc
                  go_wp2
                  go_ret
                  exact ⟨ret_int (by omega), rfl⟩
                · have v1 : decide ((48 : Int) ≤ (c : Int)) = true := by simp; omega
                  have v2 : decide ((c : Int) ≤ 57) = false := by simp; omega
                  have v3 : decide ((97 : Int) ≤ (c : Int)) = true := by simp; omega
                  have v4 : decide ((c : Int) ≤ 102) = false := by simp; omega
                  have v5 : decide ((65 : Int) ≤ (c : Int)) = true := by simp; omega
                  have v6 : decide ((c : Int) ≤ 70) = false := by simp; omega
                  clear c1 c2 c3 cc
                  go_wp2
                  go_ret
                  exact ⟨ret_int (by omega), rfl⟩
        · have hk5 : k = 5 := by omega
          have hr : r = hvP g 4 := by
            rw [hyes2]
            intro j h1 h2
            exact HALL.out j h1 (by omega)
          have e4 : hvP g (k - 1) = r := by rw [hk5, hr]
          have hle4 : ¬ (k : Int) ≤ 4 := by omega
          rw [e4]
          clear hyes2 hk5 hr hgk hbad
          go_wp2
          go_ret
          exact ⟨rfl, rfl⟩
    · have hr : r = -1 := hno (fun h => hlen (by omega))
      have u2 : decide (s.size ≤ i + 4) = true := by simp; omega
      have u3 : decide ((s.size : Int) ≤ (i : Int) + 4) = true := by simp; omega
      clear hno hbad hyes hgk
      go_enter Tryz.func258, Tryz.ntmps258
      go_wp2_with (first
        | (go_at_call 252; refine (h117 _ _).mono ?_; rintro e w1 ⟨rfl, rfl⟩))
      go_ret
      exact ⟨ret_int (by omega), rfl⟩
end Go.Proofs.Jt
/- R6: The walk of the reference's point. -/
namespace Go.Proofs.Jt
open Go.RowKit Go.Proofs Go.Lib Go.Proofs.Utf

theorem bytes_of (w : World) (C : Array Value) (l : List UInt8) (n : Nat) (hn : n = l.length) (h : C = (l.map fun b => Value.int .u8 (b.toNat : Int)).toArray) :
    (convert 189 9 (.slice (some ⟨w.heap.size, 0, none⟩) n n)).run Tryz.prog (w.alloc (.cells C 5)) = .ok (.string ⟨l.toArray⟩) (w.alloc (.cells C 5)) := by
  subst hn
  refine run_convert_bytes_back _ 189 9 5 ⟨w.heap.size, 0, none⟩ l.length l (by kernel_rfl) (by kernel_rfl) (by kernel_rfl) fun j hj => ?_
  have : (⟨w.heap.size, 0, none⟩ : Addr).add j = ⟨w.heap.size, j, none⟩ := by simp [Addr.add]; omega
  rw [this, World.cell?_alloc_mark, h]
  simp [hj]
theorem u8_int (x : Int) (h0 : 0 ≤ x) (h1 : x < 256) : Value.int .u8 ((x.toNat.toUInt8).toNat : Int) = Value.int .u8 x := by
  congr 1
  simp
  omega
set_option maxRecDepth 100000 in
set_option maxHeartbeats 1000000 in
theorem point_any (p : Int) (w : World) (hp : IsPoint p) : Calls Tryz.prog 259 #[.int .i64 p] w fun e w' => e = .returned (.string ⟨(encodeRune p).toArray⟩) ∧ Below w.heap.size w w' := by
  have hp' := hp
  unfold IsPoint at hp'
  obtain ⟨E, hE⟩ : ∃ E, encodeRune p = E := ⟨_, rfl⟩
  rw [hE]
  by_cases h1 : p < 128
  · have hrun := bytes_of w #[.int .u8 p] E 1 (by rw [← hE, enc1 p ⟨by omega, by omega⟩]; rfl) (by rw [← hE, enc1 p ⟨by omega, by omega⟩]; simp only [List.map_cons, List.map_nil]; rw [u8_int p (by omega) (by omega)])
    clear hE
    go_enter Tryz.func259, Tryz.ntmps259
    go_wp2
    go_ret
    exact ⟨rfl, (Below.refl _ _).alloc (Nat.le_refl _) _⟩
  · by_cases h2 : p < 2048
    · have hrun := bytes_of w #[.int .u8 (192 + p / 64), .int .u8 (128 + p % 64)] E 2 (by rw [← hE, enc2 p ⟨by omega, by omega⟩]; rfl) (by rw [← hE, enc2 p ⟨by omega, by omega⟩]; simp only [List.map_cons, List.map_nil]; rw [u8_int _ (by omega) (by omega), u8_int _ (by omega) (by omega)])
      clear hE
      go_enter Tryz.func259, Tryz.ntmps259
      go_wp2
      go_ret
      exact ⟨rfl, (Below.refl _ _).alloc (Nat.le_refl _) _⟩
    · by_cases h3 : p < 65536
      · have hrun := bytes_of w #[.int .u8 (224 + p / 4096), .int .u8 (128 + p / 64 % 64), .int .u8 (128 + p % 64)] E 3 (by rw [← hE, enc3 p (by omega)]; rfl) (by rw [← hE, enc3 p (by omega)]; simp only [List.map_cons, List.map_nil]; rw [u8_int _ (by omega) (by omega), u8_int _ (by omega) (by omega), u8_int _ (by omega) (by omega)])
        clear hE
        go_enter Tryz.func259, Tryz.ntmps259
        go_wp2
        go_ret
        exact ⟨rfl, (Below.refl _ _).alloc (Nat.le_refl _) _⟩
      · have hrun := bytes_of w #[.int .u8 (240 + p / 262144), .int .u8 (128 + p / 4096 % 64), .int .u8 (128 + p / 64 % 64), .int .u8 (128 + p % 64)] E 4 (by rw [← hE, enc4 p ⟨by omega, by omega⟩]; rfl) (by rw [← hE, enc4 p ⟨by omega, by omega⟩]; simp only [List.map_cons, List.map_nil]; rw [u8_int _ (by omega) (by omega), u8_int _ (by omega) (by omega), u8_int _ (by omega) (by omega), u8_int _ (by omega) (by omega)])
        clear hE
        go_enter Tryz.func259, Tryz.ntmps259
        go_wp2
        go_ret
        exact ⟨rfl, (Below.refl _ _).alloc (Nat.le_refl _) _⟩
end Go.Proofs.Jt
