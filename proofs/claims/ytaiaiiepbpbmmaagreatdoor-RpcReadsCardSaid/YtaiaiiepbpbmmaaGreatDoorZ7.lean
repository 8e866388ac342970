/- The reference's words in memory; is, Open. Printed by gen_z7.py. -/
import Derived.Test.YtaiaiiepbpbmmaaGreatDoorVF2
import Derived.Test.YtaiaiiepbpbmmaaGreatDoorRY
namespace Go.Proofs.Jt
open Go.RowKit Go.Maps Go.Lib Go.Proofs.Utf Go.Proofs

theorem tokP_rowE {w : World} {E B R : Nat} {v : Value} {T : List Tok} (h : w.ownsRow B E 4 v T.length (tokCells T)) (hR : w.heap.size ≤ R) (hw : WK (kt T)) : ∃ p c, v = .slice p (kt T).length c ∧ (kt T).length ≤ c ∧ c ≤ maxLen ∧ TokP w R p (kt T) := by
 have hl : (kt T).length = T.length := List.length_map ..
 rcases h.2 with ⟨rfl, h2⟩ | ⟨g, cap, cur, rfl, h2, h3, h4, h5, h6, h7⟩
 · have e : T = [] := List.eq_nil_of_length_eq_zero h2
   subst e
   exact ⟨none, 0, rfl, Nat.le_refl _, Nat.zero_le _, fun i k x hk => by cases hk⟩
 · refine ⟨some ⟨g, 0, none⟩, cap, by rw [hl], by rw [hl]; exact h4, h5, fun i k x hk => ?_⟩
   unfold kt at hk
   rw [List.getElem?_map] at hk
   cases ht : T[i]? with
   | none => rw [ht] at hk; cases hk
   | some j =>
    rw [ht] at hk
    obtain ⟨rfl, rfl⟩ : j.kind = k ∧ j.text = x := by have := Option.some.inj hk; injection this with a b; exact ⟨a, b⟩
    have hm := hw j.kind j.text (List.mem_map.2 ⟨j, List.mem_of_getElem? ht, rfl⟩)
    obtain ⟨g', cap', e1, _, hc⟩ := toks_at h (by have := (List.getElem?_eq_some_iff.1 ht).1; omega)
    injection e1 with e1
    injection e1 with e1
    injection e1 with e1
    subst e1
    obtain ⟨c0, c1, c2, c3, hgl⟩ := hc i j ht
    refine ⟨g, 0, rfl, by omega, by rw [Nat.zero_add]; exact c0, by rw [Nat.zero_add]; exact c1, hm.2.2, hm.1, hm.2.1, _, _, by rw [Nat.zero_add]; exact c2, by rw [Nat.zero_add]; exact c3⟩
set_option maxRecDepth 100000 in
set_option maxHeartbeats 4000000 in
theorem rtis_any {w : World} {p : Option Addr} {c R : Nat} {K : List KT} (h : TokP w R p K) (_hl : K.length ≤ 100000000) (j : Nat) (_hj : j ≤ 200000000) (B : ByteArray) (b : List UInt8) (hB : B.data.toList = b) :
 ∀ w', Below w.heap.size w w' → Calls Tryz.prog 201 #[.slice p K.length c, .int .i64 j, .string B] w' fun e w'' => e = .returned (.bool (decide (K[j]? = some (1, b)))) ∧ w'' = w' := by
 intro w' hb
 have HT := Lib.hid (h.kept (w' := w') fun b _ hl => hb.block b hl)
 clear h hb
 by_cases hjn : (j : Int) < (K.length : Int)
 · obtain ⟨y, hy⟩ : ∃ y, K[j]? = some y := ⟨_, List.getElem?_eq_getElem (by omega)⟩
   obtain ⟨k, x⟩ := y
   obtain ⟨g, o, rfl, -, k0, k1, -, hk4, -, -⟩ := HT.out j k x hy
   obtain ⟨X, hX⟩ : ∃ X : ByteArray, (⟨x.toArray⟩ : ByteArray) = X := ⟨_, rfl⟩
   have hXl : X.data.toList = x := by rw [← hX]
   rw [hX] at k1
   by_cases hk : k = 1
   · subst hk
     by_cases hxb : X = B
     · subst hxb
       obtain ⟨t1, t2⟩ := str_same X
       have hr : decide (K[j]? = some (1, b)) = true := decide_eq_true (by rw [hy, ← hXl, hB])
       rw [hr]
       clear hr hX hXl hB hy
       go_enter Tryz.func201, Tryz.ntmps201
       go_wp2_with fail
       go_ret
       exact ⟨rfl, rfl⟩
     · obtain ⟨t1, t2, t3⟩ := str_ne hxb
       have hr : decide (K[j]? = some (1, b)) = false := decide_eq_false (by
        rw [hy, ← hXl, ← hB]
        intro e
        injection e with e
        injection e with _ e
        exact hxb (ByteArray.ext (Array.toList_inj.1 e)))
       rw [hr]
       clear hr hX hXl hB hy
       go_enter Tryz.func201, Tryz.ntmps201
       go_wp2_with fail
       go_ret
       exact ⟨rfl, rfl⟩
   · have n1 : ((k : Int) == 1) = false := beq_eq_false_iff_ne.2 (by omega)
     have hr : decide (K[j]? = some (1, b)) = false := decide_eq_false (by
      rw [hy]
      intro e
      injection e with e
      injection e with e _
      exact hk e)
     rw [hr]
     clear hr hX hXl hB hy hk
     go_enter Tryz.func201, Tryz.ntmps201
     go_wp2_with fail
     go_ret
     exact ⟨rfl, rfl⟩
 · have hr : decide (K[j]? = some (1, b)) = false := decide_eq_false (by
    rw [List.getElem?_eq_none (by omega)]
    intro e
    cases e)
   rw [hr]
   clear hr hB
   go_enter Tryz.func201, Tryz.ntmps201
   go_wp2_with fail
   go_ret
   exact ⟨rfl, rfl⟩
def tkIs (K : List KT) (j : Nat) (B : ByteArray) : Bool := decide (K[j]? = some (1, B.data.toList))
theorem tkIs_at {K : List KT} {j k : Nat} {x b : List UInt8} {r : Bool} (hy : K[j]? = some (k, x)) (B : ByteArray) (hB : B.data.toList = b) (h : decide ((k, x) = (1, b)) = r) : tkIs K j B = r := by
 unfold tkIs
 rw [hy, hB, ← h]
 simp only [Option.some.injEq]
set_option maxRecDepth 100000 in
set_option maxHeartbeats 4000000 in
theorem ropen_any {w : World} {p : Option Addr} {c R : Nat} {K : List KT} (h : TokP w R p K) (hl : K.length ≤ 100000000) :
 ∀ w', Below w.heap.size w w' → Calls Tryz.prog 151 #[.slice p K.length c] w' fun e w'' => e = .returned (.int .i64 (openN K 0 0 : Nat)) ∧ w'' = w' := by
 intro w' hb
 obtain ⟨D, hD⟩ : ∃ D, openN K 0 0 = D := ⟨_, rfl⟩
 rw [hD]
 have HD := Lib.hid hD
 have HT : Hid (∀ (j : Nat) (B : ByteArray), j ≤ 200000000 → Calls Tryz.prog 201 #[.slice p K.length c, .int .i64 j, .string B] w' fun e w'' => e = .returned (.bool (tkIs K j B)) ∧ w'' = w') := Lib.hid fun j B hj => rtis_any h hl j hj B _ rfl w' hb
 clear h hD hb
 go_enter Tryz.func151, Tryz.ntmps151
 go_wp2_with fail
 go_loopw [3, 4, 5] (fun nv hv iv wr => ∃ (j n h : Nat), iv = .int .i64 j ∧ j ≤ K.length ∧ nv = .int .i64 n ∧ n ≤ j ∧ n ≤ h ∧ hv = .int .i64 h ∧ h ≤ j ∧ openN (K.drop j) n h = D ∧ wr = w') (fun _ _ iv _ => K.length - (RowKit.intOf iv).toNat)
 case atStart => exact ⟨0, 0, 0, rfl, Nat.zero_le _, rfl, Nat.le_refl _, Nat.le_refl _, rfl, Nat.le_refl _, by rw [List.drop_zero]; exact HD.out, rfl⟩
 case round =>
  obtain ⟨j, n, h, rfl, hj, rfl, hnj, hn, rfl, hh, hO, rfl⟩ := hrel
  by_cases hjn : (j : Int) < (K.length : Int)
  · obtain ⟨y, hy⟩ : ∃ y, K[j]? = some y := ⟨_, List.getElem?_eq_getElem (by omega)⟩
    obtain ⟨k, x⟩ := y
    rw [drop_cons hy, openN_cons] at hO
    have q := fun B => HT.out j B (by omega)
    have hq : ∀ (B : ByteArray) (b : List UInt8) (r : Bool), B.data.toList = b → decide ((k, x) = (1, b)) = r → tkIs K j B = r := fun B b r h1 h2 => tkIs_at hy B h1 h2
    by_cases ho : k = 1 ∧ (x = [91] ∨ x = [123])
    · rw [if_pos ho] at hO
      obtain ⟨rfl, ho⟩ := ho
      have HO := Lib.hid hO
      clear hO hy
      by_cases hm : (n : Int) + 1 > (h : Int)
      all_goals
       rcases ho with rfl | rfl
      all_goals
       have q1 := hq ⟨#[91]⟩ [91] _ rfl rfl
       have q2 := hq ⟨#[123]⟩ [123] _ rfl rfl
       have q3 := hq ⟨#[93]⟩ [93] _ rfl rfl
       have q4 := hq ⟨#[125]⟩ [125] _ rfl rfl
       simp (decide := true) only at q1 q2 q3 q4
       clear hq
       go_wp2_with (first | (go_at_call 201; refine (q _).mono ?_; rintro e1 w1 ⟨rfl, hw⟩; subst hw; first | rw [q1] | rw [q2] | rw [q3] | rw [q4]))
       go_roundw
       case rel => exact ⟨j + 1, n + 1, max (n + 1) h, by go_num, by omega, by go_num, by omega, by omega, by first | (rw [show max (n + 1) h = n + 1 by omega]; go_num; done) | (rw [show max (n + 1) h = h by omega]; done), by omega, HO.out, by first | rfl | trivial⟩
       case measure => simp [RowKit.intOf]; omega
    · rw [if_neg ho] at hO
      by_cases hcl : k = 1 ∧ (x = [93] ∨ x = [125])
      · rw [if_pos hcl] at hO
        obtain ⟨rfl, hcl⟩ := hcl
        have HO := Lib.hid hO
        clear hO hy ho
        have hmx : max (n - 1) h = h := by omega
        have hf : ¬ ((n : Int) - 1 > (h : Int)) := by omega
        have hf0 : ¬ ((n : Int) > (h : Int)) := by omega
        by_cases hp : (n : Int) > 0
        all_goals
         rcases hcl with rfl | rfl
        all_goals
         have q1 := hq ⟨#[91]⟩ [91] _ rfl rfl
         have q2 := hq ⟨#[123]⟩ [123] _ rfl rfl
         have q3 := hq ⟨#[93]⟩ [93] _ rfl rfl
         have q4 := hq ⟨#[125]⟩ [125] _ rfl rfl
         simp (decide := true) only at q1 q2 q3 q4
         clear hq
         go_wp2_with (first | (go_at_call 201; refine (q _).mono ?_; rintro e1 w1 ⟨rfl, hw⟩; subst hw; first | rw [q1] | rw [q2] | rw [q3] | rw [q4]))
         go_roundw
         case rel => exact ⟨j + 1, n - 1, max (n - 1) h, by go_num, by omega, by first | (rw [show ((n - 1 : Nat) : Int) = (n : Int) - 1 by omega]; done) | (rw [show n - 1 = n by omega]; done) | go_num, by omega, by omega, by rw [hmx], by omega, HO.out, by first | rfl | trivial⟩
         case measure => simp [RowKit.intOf]; omega
      · rw [if_neg hcl] at hO
        have HO := Lib.hid hO
        have e1 : decide ((k, x) = (1, [91])) = false := decide_eq_false fun e => ho (by cases e; exact ⟨rfl, .inl rfl⟩)
        have e2 : decide ((k, x) = (1, [123])) = false := decide_eq_false fun e => ho (by cases e; exact ⟨rfl, .inr rfl⟩)
        have e3 : decide ((k, x) = (1, [93])) = false := decide_eq_false fun e => hcl (by cases e; exact ⟨rfl, .inl rfl⟩)
        have e4 : decide ((k, x) = (1, [125])) = false := decide_eq_false fun e => hcl (by cases e; exact ⟨rfl, .inr rfl⟩)
        have hf0 : ¬ ((n : Int) > (h : Int)) := by omega
        have q1 := hq ⟨#[91]⟩ [91] _ rfl e1
        have q2 := hq ⟨#[123]⟩ [123] _ rfl e2
        have q3 := hq ⟨#[93]⟩ [93] _ rfl e3
        have q4 := hq ⟨#[125]⟩ [125] _ rfl e4
        clear hq hO hy ho hcl e1 e2 e3 e4
        go_wp2_with (first | (go_at_call 201; refine (q _).mono ?_; rintro e1 w1 ⟨rfl, hw⟩; subst hw; first | rw [q1] | rw [q2] | rw [q3] | rw [q4]))
        go_roundw
        case rel => exact ⟨j + 1, n, max n h, by go_num, by omega, rfl, by omega, by omega, by rw [show max n h = h by omega], by omega, HO.out, by first | rfl | trivial⟩
        case measure => simp [RowKit.intOf]; omega
  · go_wp2_with fail
    go_ret
    have : j = K.length := by omega
    subst this
    rw [List.drop_length, openN] at hO
    subst hO
    exact ⟨by first | rfl | go_num, by first | rfl | trivial⟩
end Go.Proofs.Jt
