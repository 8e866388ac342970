/- jtext's escaped. -/
import Derived.Test.YtphiceebhncflaaDoorJ4
namespace Go.Proofs.Jt
open Go.RowKit Go.Proofs Go.Lib Go.Proofs.Utf Go.Maps

theorem simple_look : ∀ b : UInt8, b.toNat < 128 → escLook b.toNat = Option.map (fun n : Nat => (n : Int)) (simple b) := forall_u8 (by decide +kernel)
theorem simple_high : ∀ b : UInt8, 128 ≤ b.toNat → simple b = none := forall_u8 (by decide +kernel)
theorem look_high (r : Int) (h : 128 ≤ r) : escLook r = none := by
  unfold escLook
  repeat rw [if_neg (by omega)]
theorem look_eq (s : ByteArray) : escLook (decodeGo s).1 = Option.map (fun n : Nat => (n : Int)) (s.data.toList[0]?.bind simple) ∧ (0 < s.size → 1 ≤ (decodeGo s).2) ∧ (decodeGo s).1 ≤ 1114111 := by
  by_cases h : s.size = 0
  · have e0 : s.data.toList = [] := List.length_eq_zero_iff.1 (by rw [← Lib.size_eq]; exact h)
    unfold decodeGo
    rw [if_pos h, e0]
    exact ⟨by decide, fun h' => by omega, by simp⟩
  · have hl : s.data.toList ≠ [] := fun e => h (by rw [Lib.size_eq, e]; rfl)
    have hd : decodeGo s = decodeL s.data.toList := by
      unfold decodeGo decodeL
      rw [if_neg h]
    rw [hd]
    have hp : (decodeL s.data.toList).1 ≤ 1114111 := by
      rcases dec_point _ hl with h | h
      · omega
      · unfold IsPoint at h; omega
    have hw := headW_pos s.data.toList
    unfold headW at hw
    refine ⟨?_, fun _ => hw, hp⟩
    obtain ⟨b, t, e⟩ := List.exists_cons_of_ne_nil hl
    rw [e]
    simp only [List.getElem?_cons_zero, Option.bind_some]
    by_cases hb : b.toNat < 128
    · rw [decodeL_ascii b t hb]
      exact simple_look b hb
    · rw [simple_high b (by omega), look_high _ (by have := dec_high b t (by omega); omega)]
      rfl
theorem cut_back (s : ByteArray) (w : World) (h : 5 ≤ s.size) :
    Calls Tryd.prog 78 #[.string (s.extract 5 s.size), .string ⟨#[92]⟩] w fun e w' => (∃ t : ByteArray, e = .returned (.tuple #[.string t, .bool (decide (s.data.toList[5]? = some 92))]) ∧ t.size ≤ s.size ∧ (s.data.toList[5]? = some 92 → t.data.toList = s.data.toList.drop 6)) ∧ w = w' := by
  refine (Tryd.strings_CutPrefix (s.extract 5 s.size) ⟨#[92]⟩ w).mono ?_
  rintro e w' ⟨rfl, rfl⟩
  refine ⟨⟨⟨(Lib.trimPrefix (s.extract 5 s.size).data.toList [92]).toArray⟩, ?_, ?_, ?_⟩, rfl⟩
  · have e : Lib.hasPrefix (s.extract 5 s.size).data.toList [92] = decide (s.data.toList[5]? = some 92) := by
      rw [Lib.extract_to_end]
      by_cases h : 5 < s.size
      · rw [List.drop_eq_getElem_cons (by rw [← Lib.size_eq]; exact h), List.getElem?_eq_getElem (by rw [← Lib.size_eq]; exact h)]
        have e : ((92 : UInt8) == s.data[5]) = decide (s.data[5] = 92) := by rw [Bool.eq_iff_iff, beq_iff_eq, decide_eq_true_iff]; exact eq_comm
        simp [Lib.hasPrefix, List.isPrefixOf, e]
      · rw [List.drop_eq_nil_of_le (by rw [← Lib.size_eq]; omega), list_end s 5 h]
        rfl
    rw [← e]
  · rw [size_mk, Lib.extract_to_end]
    unfold Lib.trimPrefix
    have := Lib.size_eq s
    split
    · rw [List.drop_drop, List.length_drop]; omega
    · rw [List.length_drop]; omega
  · intro h5
    rw [Lib.extract_to_end]
    have hlt : 5 < s.data.toList.length := (List.getElem?_eq_some_iff.1 h5).1
    have hd : s.data.toList.drop 5 = 92 :: s.data.toList.drop 6 := by
      rw [List.drop_eq_getElem_cons hlt]
      congr 1
      rw [List.getElem?_eq_getElem hlt] at h5
      exact Option.some.inj h5
    rw [hd]
    simp [Lib.trimPrefix, Lib.hasPrefix, List.isPrefixOf]
set_option maxRecDepth 100000 in
set_option maxHeartbeats 2000000 in
theorem escaped_simple (s : ByteArray) (w : World) (hT : Tabs w) (_hs : s.size ≤ 140737488355328) (x : Nat) (hx : s.data.toList[0]?.bind simple = some x) :
    Calls Tryd.prog 56 #[.string s] w fun e w' => e = .returned (.tuple #[.int .i32 x, .int .i64 1]) ∧ Below w.heap.size w w' := by
  obtain ⟨h1, h2, h3⟩ := look_eq s
  have h1' : escLook (decodeGo s).1 = some (x : Int) := by rw [h1, hx]; rfl
  have hpos : 0 < s.size := by
    by_cases h : 0 < s.size
    · exact h
    · rw [list_end s 0 h] at hx; cases hx
  have h2' := h2 hpos
  have hdec := Tryd.utf8_DecodeRuneInString s w
  have hD := escD_has (decodeGo s).1
  rw [h1'] at hD
  dsimp only [Option.isSome, Option.getD] at hD
  clear h1'
  obtain ⟨c, hc⟩ : ∃ c, (decodeGo s).1 = c := ⟨_, rfl⟩
  obtain ⟨n, hn⟩ : ∃ n, (decodeGo s).2 = n := ⟨_, rfl⟩
  rw [hc] at h3 hD
  rw [hn] at h2'
  rw [hc, hn] at hdec
  clear hc hn
  have hkey : keyOf Tryd.prog 21 (.int .i32 (c : Int)) = some (.int .i32 (c : Int)) := keyOf_int_mk Tryd.underlying21 (by simp [Lit.wf, IntKind.min, IntKind.max, IntKind.signed, IntKind.bits]; omega)
  have h2i : (0 : Int) < (n : Int) := by omega
  clear h1 h2 hx
  go_enter Tryd.func56, Tryd.ntmps56
  go_wp2_with (first
    | (go_at_call 55; refine (hdec hT.1).mono ?_; rintro e w1 ⟨rfl, hb1⟩)
    | (go_at_call 37; refine (escapes_any w1).mono ?_; rintro e w2 ⟨rfl, ho2, hb2⟩)
    | (at_lookup; refine wpList_lookup_own_ok _ rfl _ _ 62 rfl 21 21 law21 Tryd.underlying62 (plainElem (H := Unit) Tryd.prog 21) (zero21 _) (.lit (.int .i32 0)) [] (plainElem_int Tryd.underlying21 (by decide)) _ _ escD rfl ho2 _ _ rfl hkey ?_; rw [hD.1]; intro v ps hv
       obtain ⟨q, rfl, hq, _⟩ := plainElem_int_inv Tryd.underlying21 hv
       clear hv))
  go_ret2
  have hz1 := hb1.size
  refine ⟨?_, hb1.trans (hb2.mono hz1)⟩
  rw [hD.2] at hq
  have e : q = x := by
    have := congrArg Prod.fst hq
    simp only [DataW.lit.injEq, Lit.int.injEq, true_and] at this
    exact this.symm
  rw [e]
  rfl
set_option maxRecDepth 100000 in
set_option maxHeartbeats 2000000 in
theorem escaped_neg (s : ByteArray) (w : World) (hT : Tabs w) (hs : s.size ≤ 140737488355328) (hx : s.data.toList[0]?.bind simple = none) (hu : unitL s.data.toList < 0) :
    Calls Tryd.prog 56 #[.string s] w fun e w' => e = .returned (.tuple #[.int .i32 (escR s.data.toList).1, .int .i64 (escR s.data.toList).2]) ∧ Below w.heap.size w w' := by
  obtain ⟨h1, h2, h3⟩ := look_eq s
  rw [hx] at h1
  have hdec := Tryd.utf8_DecodeRuneInString s w
  have hD := escD_has (decodeGo s).1
  rw [h1] at hD
  dsimp only [Option.map, Option.isSome, Option.getD] at hD
  obtain ⟨c, hc⟩ : ∃ c, (decodeGo s).1 = c := ⟨_, rfl⟩
  obtain ⟨n, hn⟩ : ∃ n, (decodeGo s).2 = n := ⟨_, rfl⟩
  rw [hc] at h3 hD
  rw [hc, hn] at hdec
  clear hc hn
  have hkey : keyOf Tryd.prog 21 (.int .i32 (c : Int)) = some (.int .i32 (c : Int)) := keyOf_int_mk Tryd.underlying21 (by simp [Lit.wf, IntKind.min, IntKind.max, IntKind.signed, IntKind.bits]; omega)
  have hU := fun w hT => unit_any s w hT hs
  obtain ⟨a, ha'⟩ : ∃ a, unitL s.data.toList = a := ⟨_, rfl⟩
  have hR : escR s.data.toList = (0, 0) := by unfold escR; rw [hx]; simp only; rw [if_pos hu]
  rw [hR]
  rw [ha'] at hU hu
  clear h1 h2 hx ha'
  go_enter Tryd.func56, Tryd.ntmps56
  go_wp2_with (first
    | (go_at_call 55; refine (hdec hT.1).mono ?_; rintro e w1 ⟨rfl, hb1⟩; have hT1 := hT.below hb1)
    | (go_at_call 37; refine (escapes_any w1).mono ?_; rintro e w2 ⟨rfl, ho2, hb2⟩; have hT2 := hT1.below hb2)
    | (at_lookup; refine wpList_lookup_own_ok _ rfl _ _ 62 rfl 21 21 law21 Tryd.underlying62 (plainElem (H := Unit) Tryd.prog 21) (zero21 _) (.lit (.int .i32 0)) [] (plainElem_int Tryd.underlying21 (by decide)) _ _ escD rfl ho2 _ _ rfl hkey ?_; rw [hD.1]; intro v ps hv
       obtain ⟨q, rfl, hq, _⟩ := plainElem_int_inv Tryd.underlying21 hv
       clear hv hq)
    | (go_at_call_of 77 (Value.string s); refine (hU _ hT2).mono ?_; rintro e w3 ⟨rfl, hb3⟩; have hT3 := hT2.below hb3))
  go_ret2
  have hz1 := hb1.size
  have hz2 := hb2.size
  exact ⟨rfl, (hb1.trans (hb2.mono hz1)).trans (hb3.mono (by omega))⟩
set_option maxRecDepth 100000 in
set_option maxHeartbeats 2000000 in
theorem escaped_low (s : ByteArray) (w : World) (hT : Tabs w) (hs : s.size ≤ 140737488355328) (hx : s.data.toList[0]?.bind simple = none) (h0 : 0 ≤ unitL s.data.toList) (hu : unitL s.data.toList < 55296) :
    Calls Tryd.prog 56 #[.string s] w fun e w' => e = .returned (.tuple #[.int .i32 (escR s.data.toList).1, .int .i64 (escR s.data.toList).2]) ∧ Below w.heap.size w w' := by
  obtain ⟨h1, h2, h3⟩ := look_eq s
  rw [hx] at h1
  have hdec := Tryd.utf8_DecodeRuneInString s w
  have hD := escD_has (decodeGo s).1
  rw [h1] at hD
  dsimp only [Option.map, Option.isSome, Option.getD] at hD
  obtain ⟨c, hc⟩ : ∃ c, (decodeGo s).1 = c := ⟨_, rfl⟩
  obtain ⟨n, hn⟩ : ∃ n, (decodeGo s).2 = n := ⟨_, rfl⟩
  rw [hc] at h3 hD
  rw [hc, hn] at hdec
  clear hc hn
  have hkey : keyOf Tryd.prog 21 (.int .i32 (c : Int)) = some (.int .i32 (c : Int)) := keyOf_int_mk Tryd.underlying21 (by simp [Lit.wf, IntKind.min, IntKind.max, IntKind.signed, IntKind.bits]; omega)
  have hU := fun w hT => unit_any s w hT hs
  obtain ⟨a, ha'⟩ : ∃ a, unitL s.data.toList = a := ⟨_, rfl⟩
  have hR : escR s.data.toList = (unitL s.data.toList, 5) := by unfold escR; rw [hx]; simp only; rw [if_neg (by omega), if_pos (.inl hu)]
  rw [hR, ha']
  rw [ha'] at hU h0 hu
  clear h1 h2 hx ha'
  go_enter Tryd.func56, Tryd.ntmps56
  go_wp2_with (first
    | (go_at_call 55; refine (hdec hT.1).mono ?_; rintro e w1 ⟨rfl, hb1⟩; have hT1 := hT.below hb1)
    | (go_at_call 37; refine (escapes_any w1).mono ?_; rintro e w2 ⟨rfl, ho2, hb2⟩; have hT2 := hT1.below hb2)
    | (at_lookup; refine wpList_lookup_own_ok _ rfl _ _ 62 rfl 21 21 law21 Tryd.underlying62 (plainElem (H := Unit) Tryd.prog 21) (zero21 _) (.lit (.int .i32 0)) [] (plainElem_int Tryd.underlying21 (by decide)) _ _ escD rfl ho2 _ _ rfl hkey ?_; rw [hD.1]; intro v ps hv
       obtain ⟨q, rfl, hq, _⟩ := plainElem_int_inv Tryd.underlying21 hv
       clear hv hq)
    | (go_at_call_of 77 (Value.string s); refine (hU _ hT2).mono ?_; rintro e w3 ⟨rfl, hb3⟩; have hT3 := hT2.below hb3))
  go_ret2
  have hz1 := hb1.size
  have hz2 := hb2.size
  exact ⟨rfl, (hb1.trans (hb2.mono hz1)).trans (hb3.mono (by omega))⟩
set_option maxRecDepth 100000 in
set_option maxHeartbeats 2000000 in
theorem escaped_high (s : ByteArray) (w : World) (hT : Tabs w) (hs : s.size ≤ 140737488355328) (hx : s.data.toList[0]?.bind simple = none) (hu : 57343 < unitL s.data.toList) :
    Calls Tryd.prog 56 #[.string s] w fun e w' => e = .returned (.tuple #[.int .i32 (escR s.data.toList).1, .int .i64 (escR s.data.toList).2]) ∧ Below w.heap.size w w' := by
  obtain ⟨h1, h2, h3⟩ := look_eq s
  rw [hx] at h1
  have hdec := Tryd.utf8_DecodeRuneInString s w
  have hD := escD_has (decodeGo s).1
  rw [h1] at hD
  dsimp only [Option.map, Option.isSome, Option.getD] at hD
  obtain ⟨c, hc⟩ : ∃ c, (decodeGo s).1 = c := ⟨_, rfl⟩
  obtain ⟨n, hn⟩ : ∃ n, (decodeGo s).2 = n := ⟨_, rfl⟩
  rw [hc] at h3 hD
  rw [hc, hn] at hdec
  clear hc hn
  have hkey : keyOf Tryd.prog 21 (.int .i32 (c : Int)) = some (.int .i32 (c : Int)) := keyOf_int_mk Tryd.underlying21 (by simp [Lit.wf, IntKind.min, IntKind.max, IntKind.signed, IntKind.bits]; omega)
  have hU := fun w hT => unit_any s w hT hs
  obtain ⟨a, ha'⟩ : ∃ a, unitL s.data.toList = a := ⟨_, rfl⟩
  have hR : escR s.data.toList = (unitL s.data.toList, 5) := by unfold escR; rw [hx]; simp only; rw [if_neg (by omega), if_pos (.inr hu)]
  have hrg := (unitL_range s.data.toList).2
  rw [hR, ha']
  rw [ha'] at hU hu hrg
  have hnl : ¬ a < 0 := by omega
  have hnm : decide (a < 55296) = false := by simp; omega
  clear h1 h2 hx ha'
  go_enter Tryd.func56, Tryd.ntmps56
  go_wp2_with (first
    | (go_at_call 55; refine (hdec hT.1).mono ?_; rintro e w1 ⟨rfl, hb1⟩; have hT1 := hT.below hb1)
    | (go_at_call 37; refine (escapes_any w1).mono ?_; rintro e w2 ⟨rfl, ho2, hb2⟩; have hT2 := hT1.below hb2)
    | (at_lookup; refine wpList_lookup_own_ok _ rfl _ _ 62 rfl 21 21 law21 Tryd.underlying62 (plainElem (H := Unit) Tryd.prog 21) (zero21 _) (.lit (.int .i32 0)) [] (plainElem_int Tryd.underlying21 (by decide)) _ _ escD rfl ho2 _ _ rfl hkey ?_; rw [hD.1]; intro v ps hv
       obtain ⟨q, rfl, hq, _⟩ := plainElem_int_inv Tryd.underlying21 hv
       clear hv hq)
    | (go_at_call_of 77 (Value.string s); refine (hU _ hT2).mono ?_; rintro e w3 ⟨rfl, hb3⟩; have hT3 := hT2.below hb3))
  go_ret2
  have hz1 := hb1.size
  have hz2 := hb2.size
  exact ⟨rfl, (hb1.trans (hb2.mono hz1)).trans (hb3.mono (by omega))⟩
set_option maxRecDepth 100000 in
set_option maxHeartbeats 2000000 in
theorem escaped_lone (s : ByteArray) (w : World) (hT : Tabs w) (hs : s.size ≤ 140737488355328) (hx : s.data.toList[0]?.bind simple = none) (h0 : 55296 ≤ unitL s.data.toList) (hu : unitL s.data.toList ≤ 57343) (h5b : s.data.toList[5]? ≠ some 92) :
    Calls Tryd.prog 56 #[.string s] w fun e w' => e = .returned (.tuple #[.int .i32 (escR s.data.toList).1, .int .i64 (escR s.data.toList).2]) ∧ Below w.heap.size w w' := by
  obtain ⟨h1, h2, h3⟩ := look_eq s
  rw [hx] at h1
  have hdec := Tryd.utf8_DecodeRuneInString s w
  have hD := escD_has (decodeGo s).1
  rw [h1] at hD
  dsimp only [Option.map, Option.isSome, Option.getD] at hD
  obtain ⟨c, hc⟩ : ∃ c, (decodeGo s).1 = c := ⟨_, rfl⟩
  obtain ⟨n, hn⟩ : ∃ n, (decodeGo s).2 = n := ⟨_, rfl⟩
  rw [hc] at h3 hD
  rw [hc, hn] at hdec
  clear hc hn
  have hkey : keyOf Tryd.prog 21 (.int .i32 (c : Int)) = some (.int .i32 (c : Int)) := keyOf_int_mk Tryd.underlying21 (by simp [Lit.wf, IntKind.min, IntKind.max, IntKind.signed, IntKind.bits]; omega)
  have hU := fun w hT => unit_any s w hT hs
  obtain ⟨a, ha'⟩ : ∃ a, unitL s.data.toList = a := ⟨_, rfl⟩
  have hR : escR s.data.toList = (0, 0) := by unfold escR; rw [hx]; simp only; rw [if_neg (by omega), if_neg (by omega), if_neg (fun h => h5b h.2.1)]
  have h5 : 5 ≤ s.size := by
    by_cases h : 4 < s.size
    · omega
    · rw [unit_short (by rw [← Lib.size_eq]; omega)] at h0; omega
  rw [hR]
  have hB : decide (s.data.toList[5]? = some 92) = false := decide_eq_false h5b
  rw [ha'] at hU h0 hu
  have hnl : ¬ a < 0 := by omega
  have hnm : decide (a < 55296) = false := by simp; omega
  have hnh : decide (57343 < a) = false := by simp; omega
  clear h1 h2 hx ha'
  go_enter Tryd.func56, Tryd.ntmps56
  go_wp2_with (first
    | (go_at_call 55; refine (hdec hT.1).mono ?_; rintro e w1 ⟨rfl, hb1⟩; have hT1 := hT.below hb1)
    | (go_at_call 37; refine (escapes_any w1).mono ?_; rintro e w2 ⟨rfl, ho2, hb2⟩; have hT2 := hT1.below hb2)
    | (at_lookup; refine wpList_lookup_own_ok _ rfl _ _ 62 rfl 21 21 law21 Tryd.underlying62 (plainElem (H := Unit) Tryd.prog 21) (zero21 _) (.lit (.int .i32 0)) [] (plainElem_int Tryd.underlying21 (by decide)) _ _ escD rfl ho2 _ _ rfl hkey ?_; rw [hD.1]; intro v ps hv
       obtain ⟨q, rfl, hq, _⟩ := plainElem_int_inv Tryd.underlying21 hv
       clear hv hq)
    | (go_at_call_of 77 (Value.string s); refine (hU _ hT2).mono ?_; rintro e w3 ⟨rfl, hb3⟩; have hT3 := hT2.below hb3)
    | (go_at_call 78; refine (cut_back s w3 h5).mono ?_; rw [hB]; rintro e w3' ⟨⟨t, rfl, ht, htl⟩, hw⟩; subst hw; clear htl)
    | (go_at_call_of 77 (Value.string t); refine (unit_any t w3 hT3 (by omega)).mono ?_; rintro e w4 ⟨rfl, hb4⟩; have hz4 := Lib.hid hb4.size))
  go_ret2
  have hz1 := hb1.size
  have hz2 := hb2.size
  have hz3 := hb3.size
  exact ⟨rfl, ((hb1.trans (hb2.mono hz1)).trans (hb3.mono (by omega))).trans (hb4.mono (by omega))⟩
set_option maxRecDepth 100000 in
set_option maxHeartbeats 2000000 in
theorem escaped_order (s : ByteArray) (w : World) (hT : Tabs w) (hs : s.size ≤ 140737488355328) (hx : s.data.toList[0]?.bind simple = none) (h5b : s.data.toList[5]? = some 92) (h0 : 55296 ≤ unitL s.data.toList) (hu : unitL s.data.toList ≤ 57343) (ho : 56320 ≤ unitL s.data.toList) :
    Calls Tryd.prog 56 #[.string s] w fun e w' => e = .returned (.tuple #[.int .i32 (escR s.data.toList).1, .int .i64 (escR s.data.toList).2]) ∧ Below w.heap.size w w' := by
  obtain ⟨h1, h2, h3⟩ := look_eq s
  rw [hx] at h1
  have hdec := Tryd.utf8_DecodeRuneInString s w
  have hD := escD_has (decodeGo s).1
  rw [h1] at hD
  dsimp only [Option.map, Option.isSome, Option.getD] at hD
  obtain ⟨c, hc⟩ : ∃ c, (decodeGo s).1 = c := ⟨_, rfl⟩
  obtain ⟨n, hn⟩ : ∃ n, (decodeGo s).2 = n := ⟨_, rfl⟩
  rw [hc] at h3 hD
  rw [hc, hn] at hdec
  clear hc hn
  have hkey : keyOf Tryd.prog 21 (.int .i32 (c : Int)) = some (.int .i32 (c : Int)) := keyOf_int_mk Tryd.underlying21 (by simp [Lit.wf, IntKind.min, IntKind.max, IntKind.signed, IntKind.bits]; omega)
  have hU := fun w hT => unit_any s w hT hs
  obtain ⟨a, ha'⟩ : ∃ a, unitL s.data.toList = a := ⟨_, rfl⟩
  have hR : escR s.data.toList = (0, 0) := by unfold escR; rw [hx]; simp only; rw [if_neg (by omega), if_neg (by omega), if_neg (by omega)]
  have h5 : 5 ≤ s.size := by
    by_cases h : 4 < s.size
    · omega
    · rw [unit_short (by rw [← Lib.size_eq]; omega)] at h0; omega
  rw [hR]
  obtain ⟨b, hb⟩ : ∃ b, unitL (s.data.toList.drop 6) = b := ⟨_, rfl⟩
  have hB : decide (s.data.toList[5]? = some 92) = true := decide_eq_true h5b
  rw [ha'] at hU h0 hu ho
  have hnl : ¬ a < 0 := by omega
  have hnm : decide (a < 55296) = false := by simp; omega
  have hnh : decide (57343 < a) = false := by simp; omega
  have hno : decide (a < 56320) = false := by simp; omega
  have HBB := Lib.hid hb
  clear h1 h2 hx ha' hb
  go_enter Tryd.func56, Tryd.ntmps56
  go_wp2_with (first
    | (go_at_call 55; refine (hdec hT.1).mono ?_; rintro e w1 ⟨rfl, hb1⟩; have hT1 := hT.below hb1)
    | (go_at_call 37; refine (escapes_any w1).mono ?_; rintro e w2 ⟨rfl, ho2, hb2⟩; have hT2 := hT1.below hb2)
    | (at_lookup; refine wpList_lookup_own_ok _ rfl _ _ 62 rfl 21 21 law21 Tryd.underlying62 (plainElem (H := Unit) Tryd.prog 21) (zero21 _) (.lit (.int .i32 0)) [] (plainElem_int Tryd.underlying21 (by decide)) _ _ escD rfl ho2 _ _ rfl hkey ?_; rw [hD.1]; intro v ps hv
       obtain ⟨q, rfl, hq, _⟩ := plainElem_int_inv Tryd.underlying21 hv
       clear hv hq)
    | (go_at_call_of 77 (Value.string s); refine (hU _ hT2).mono ?_; rintro e w3 ⟨rfl, hb3⟩; have hT3 := hT2.below hb3)
    | (go_at_call 78; refine (cut_back s w3 h5).mono ?_; rw [hB]; rintro e w3' ⟨⟨t, rfl, ht, htl⟩, hw⟩; subst hw
       have htu := unit_any t w3 hT3 (by omega)
       rw [htl h5b, HBB.out] at htu
       clear htl)
    | (go_at_call_of 77 (Value.string t); refine htu.mono ?_; rintro e w4 ⟨rfl, hb4⟩; have hz4 := Lib.hid hb4.size))
  go_ret2
  have hz1 := hb1.size
  have hz2 := hb2.size
  have hz3 := hb3.size
  exact ⟨rfl, ((hb1.trans (hb2.mono hz1)).trans (hb3.mono (by omega))).trans (hb4.mono (by omega))⟩
set_option maxRecDepth 100000 in
set_option maxHeartbeats 2000000 in
theorem escaped_second (s : ByteArray) (w : World) (hT : Tabs w) (hs : s.size ≤ 140737488355328) (hx : s.data.toList[0]?.bind simple = none) (h5b : s.data.toList[5]? = some 92) (h0 : 55296 ≤ unitL s.data.toList) (hu : unitL s.data.toList ≤ 57343) (ho : unitL s.data.toList < 56320) (hb0 : unitL (s.data.toList.drop 6) < 56320) :
    Calls Tryd.prog 56 #[.string s] w fun e w' => e = .returned (.tuple #[.int .i32 (escR s.data.toList).1, .int .i64 (escR s.data.toList).2]) ∧ Below w.heap.size w w' := by
  obtain ⟨h1, h2, h3⟩ := look_eq s
  rw [hx] at h1
  have hdec := Tryd.utf8_DecodeRuneInString s w
  have hD := escD_has (decodeGo s).1
  rw [h1] at hD
  dsimp only [Option.map, Option.isSome, Option.getD] at hD
  obtain ⟨c, hc⟩ : ∃ c, (decodeGo s).1 = c := ⟨_, rfl⟩
  obtain ⟨n, hn⟩ : ∃ n, (decodeGo s).2 = n := ⟨_, rfl⟩
  rw [hc] at h3 hD
  rw [hc, hn] at hdec
  clear hc hn
  have hkey : keyOf Tryd.prog 21 (.int .i32 (c : Int)) = some (.int .i32 (c : Int)) := keyOf_int_mk Tryd.underlying21 (by simp [Lit.wf, IntKind.min, IntKind.max, IntKind.signed, IntKind.bits]; omega)
  have hU := fun w hT => unit_any s w hT hs
  obtain ⟨a, ha'⟩ : ∃ a, unitL s.data.toList = a := ⟨_, rfl⟩
  have hR : escR s.data.toList = (0, 0) := by unfold escR; rw [hx]; simp only; rw [if_neg (by omega), if_neg (by omega), if_neg (by omega)]
  have h5 : 5 ≤ s.size := by
    by_cases h : 4 < s.size
    · omega
    · rw [unit_short (by rw [← Lib.size_eq]; omega)] at h0; omega
  rw [hR]
  obtain ⟨b, hb⟩ : ∃ b, unitL (s.data.toList.drop 6) = b := ⟨_, rfl⟩
  have hB : decide (s.data.toList[5]? = some 92) = true := decide_eq_true h5b
  rw [ha'] at hU h0 hu ho
  rw [hb] at hb0
  have hnl : ¬ a < 0 := by omega
  have hnm : decide (a < 55296) = false := by simp; omega
  have hnh : decide (57343 < a) = false := by simp; omega
  have hno : decide (a < 56320) = true := by simp; omega
  have hnp : decide (56320 ≤ b) = false := by simp; omega
  have HBB := Lib.hid hb
  clear h1 h2 hx ha' hb
  go_enter Tryd.func56, Tryd.ntmps56
  go_wp2_with (first
    | (go_at_call 55; refine (hdec hT.1).mono ?_; rintro e w1 ⟨rfl, hb1⟩; have hT1 := hT.below hb1)
    | (go_at_call 37; refine (escapes_any w1).mono ?_; rintro e w2 ⟨rfl, ho2, hb2⟩; have hT2 := hT1.below hb2)
    | (at_lookup; refine wpList_lookup_own_ok _ rfl _ _ 62 rfl 21 21 law21 Tryd.underlying62 (plainElem (H := Unit) Tryd.prog 21) (zero21 _) (.lit (.int .i32 0)) [] (plainElem_int Tryd.underlying21 (by decide)) _ _ escD rfl ho2 _ _ rfl hkey ?_; rw [hD.1]; intro v ps hv
       obtain ⟨q, rfl, hq, _⟩ := plainElem_int_inv Tryd.underlying21 hv
       clear hv hq)
    | (go_at_call_of 77 (Value.string s); refine (hU _ hT2).mono ?_; rintro e w3 ⟨rfl, hb3⟩; have hT3 := hT2.below hb3)
    | (go_at_call 78; refine (cut_back s w3 h5).mono ?_; rw [hB]; rintro e w3' ⟨⟨t, rfl, ht, htl⟩, hw⟩; subst hw
       have htu := unit_any t w3 hT3 (by omega)
       rw [htl h5b, HBB.out] at htu
       clear htl)
    | (go_at_call_of 77 (Value.string t); refine htu.mono ?_; rintro e w4 ⟨rfl, hb4⟩; have hz4 := Lib.hid hb4.size))
  go_ret2
  have hz1 := hb1.size
  have hz2 := hb2.size
  have hz3 := hb3.size
  exact ⟨rfl, ((hb1.trans (hb2.mono hz1)).trans (hb3.mono (by omega))).trans (hb4.mono (by omega))⟩
set_option maxRecDepth 100000 in
set_option maxHeartbeats 2000000 in
theorem escaped_third (s : ByteArray) (w : World) (hT : Tabs w) (hs : s.size ≤ 140737488355328) (hx : s.data.toList[0]?.bind simple = none) (h5b : s.data.toList[5]? = some 92) (h0 : 55296 ≤ unitL s.data.toList) (hu : unitL s.data.toList ≤ 57343) (ho : unitL s.data.toList < 56320) (hb0 : 57343 < unitL (s.data.toList.drop 6)) :
    Calls Tryd.prog 56 #[.string s] w fun e w' => e = .returned (.tuple #[.int .i32 (escR s.data.toList).1, .int .i64 (escR s.data.toList).2]) ∧ Below w.heap.size w w' := by
  obtain ⟨h1, h2, h3⟩ := look_eq s
  rw [hx] at h1
  have hdec := Tryd.utf8_DecodeRuneInString s w
  have hD := escD_has (decodeGo s).1
  rw [h1] at hD
  dsimp only [Option.map, Option.isSome, Option.getD] at hD
  obtain ⟨c, hc⟩ : ∃ c, (decodeGo s).1 = c := ⟨_, rfl⟩
  obtain ⟨n, hn⟩ : ∃ n, (decodeGo s).2 = n := ⟨_, rfl⟩
  rw [hc] at h3 hD
  rw [hc, hn] at hdec
  clear hc hn
  have hkey : keyOf Tryd.prog 21 (.int .i32 (c : Int)) = some (.int .i32 (c : Int)) := keyOf_int_mk Tryd.underlying21 (by simp [Lit.wf, IntKind.min, IntKind.max, IntKind.signed, IntKind.bits]; omega)
  have hU := fun w hT => unit_any s w hT hs
  obtain ⟨a, ha'⟩ : ∃ a, unitL s.data.toList = a := ⟨_, rfl⟩
  have hR : escR s.data.toList = (0, 0) := by unfold escR; rw [hx]; simp only; rw [if_neg (by omega), if_neg (by omega), if_neg (by omega)]
  have h5 : 5 ≤ s.size := by
    by_cases h : 4 < s.size
    · omega
    · rw [unit_short (by rw [← Lib.size_eq]; omega)] at h0; omega
  rw [hR]
  obtain ⟨b, hb⟩ : ∃ b, unitL (s.data.toList.drop 6) = b := ⟨_, rfl⟩
  have hB : decide (s.data.toList[5]? = some 92) = true := decide_eq_true h5b
  rw [ha'] at hU h0 hu ho
  rw [hb] at hb0
  have hnl : ¬ a < 0 := by omega
  have hnm : decide (a < 55296) = false := by simp; omega
  have hnh : decide (57343 < a) = false := by simp; omega
  have hno : decide (a < 56320) = true := by simp; omega
  have hnp : decide (56320 ≤ b) = true := by simp; omega
  have hnq : decide (b ≤ 57343) = false := by simp; omega
  have HBB := Lib.hid hb
  clear h1 h2 hx ha' hb
  go_enter Tryd.func56, Tryd.ntmps56
  go_wp2_with (first
    | (go_at_call 55; refine (hdec hT.1).mono ?_; rintro e w1 ⟨rfl, hb1⟩; have hT1 := hT.below hb1)
    | (go_at_call 37; refine (escapes_any w1).mono ?_; rintro e w2 ⟨rfl, ho2, hb2⟩; have hT2 := hT1.below hb2)
    | (at_lookup; refine wpList_lookup_own_ok _ rfl _ _ 62 rfl 21 21 law21 Tryd.underlying62 (plainElem (H := Unit) Tryd.prog 21) (zero21 _) (.lit (.int .i32 0)) [] (plainElem_int Tryd.underlying21 (by decide)) _ _ escD rfl ho2 _ _ rfl hkey ?_; rw [hD.1]; intro v ps hv
       obtain ⟨q, rfl, hq, _⟩ := plainElem_int_inv Tryd.underlying21 hv
       clear hv hq)
    | (go_at_call_of 77 (Value.string s); refine (hU _ hT2).mono ?_; rintro e w3 ⟨rfl, hb3⟩; have hT3 := hT2.below hb3)
    | (go_at_call 78; refine (cut_back s w3 h5).mono ?_; rw [hB]; rintro e w3' ⟨⟨t, rfl, ht, htl⟩, hw⟩; subst hw
       have htu := unit_any t w3 hT3 (by omega)
       rw [htl h5b, HBB.out] at htu
       clear htl)
    | (go_at_call_of 77 (Value.string t); refine htu.mono ?_; rintro e w4 ⟨rfl, hb4⟩; have hz4 := Lib.hid hb4.size))
  go_ret2
  have hz1 := hb1.size
  have hz2 := hb2.size
  have hz3 := hb3.size
  exact ⟨rfl, ((hb1.trans (hb2.mono hz1)).trans (hb3.mono (by omega))).trans (hb4.mono (by omega))⟩
set_option maxRecDepth 100000 in
set_option maxHeartbeats 2000000 in
theorem escaped_pair (s : ByteArray) (w : World) (hT : Tabs w) (hs : s.size ≤ 140737488355328) (hx : s.data.toList[0]?.bind simple = none) (h5b : s.data.toList[5]? = some 92) (h0 : 55296 ≤ unitL s.data.toList) (hu : unitL s.data.toList ≤ 57343) (ho : unitL s.data.toList < 56320) (hb0 : 56320 ≤ unitL (s.data.toList.drop 6)) (hb1 : unitL (s.data.toList.drop 6) ≤ 57343) :
    Calls Tryd.prog 56 #[.string s] w fun e w' => e = .returned (.tuple #[.int .i32 (escR s.data.toList).1, .int .i64 (escR s.data.toList).2]) ∧ Below w.heap.size w w' := by
  obtain ⟨h1, h2, h3⟩ := look_eq s
  rw [hx] at h1
  have hdec := Tryd.utf8_DecodeRuneInString s w
  have hD := escD_has (decodeGo s).1
  rw [h1] at hD
  dsimp only [Option.map, Option.isSome, Option.getD] at hD
  obtain ⟨c, hc⟩ : ∃ c, (decodeGo s).1 = c := ⟨_, rfl⟩
  obtain ⟨n, hn⟩ : ∃ n, (decodeGo s).2 = n := ⟨_, rfl⟩
  rw [hc] at h3 hD
  rw [hc, hn] at hdec
  clear hc hn
  have hkey : keyOf Tryd.prog 21 (.int .i32 (c : Int)) = some (.int .i32 (c : Int)) := keyOf_int_mk Tryd.underlying21 (by simp [Lit.wf, IntKind.min, IntKind.max, IntKind.signed, IntKind.bits]; omega)
  have hU := fun w hT => unit_any s w hT hs
  obtain ⟨a, ha'⟩ : ∃ a, unitL s.data.toList = a := ⟨_, rfl⟩
  have hR : escR s.data.toList = ((unitL s.data.toList - 55296) * 1024 + unitL (s.data.toList.drop 6) - 56320 + 65536, 11) := by unfold escR; rw [hx]; simp only; rw [if_neg (by omega), if_neg (by omega), if_pos ⟨ho, h5b, hb0, hb1⟩]
  have h5 : 5 ≤ s.size := by
    by_cases h : 4 < s.size
    · omega
    · rw [unit_short (by rw [← Lib.size_eq]; omega)] at h0; omega
  rw [hR]
  obtain ⟨b, hb⟩ : ∃ b, unitL (s.data.toList.drop 6) = b := ⟨_, rfl⟩
  have hB : decide (s.data.toList[5]? = some 92) = true := decide_eq_true h5b
  rw [ha', hb]
  rw [ha'] at hU h0 hu ho
  rw [hb] at hb0 hb1
  have hnl : ¬ a < 0 := by omega
  have hnm : decide (a < 55296) = false := by simp; omega
  have hnh : decide (57343 < a) = false := by simp; omega
  have hno : decide (a < 56320) = true := by simp; omega
  have hnp : decide (56320 ≤ b) = true := by simp; omega
  have hnq : decide (b ≤ 57343) = true := by simp; omega
  have HBB := Lib.hid hb
  clear h1 h2 hx ha' hb
  go_enter Tryd.func56, Tryd.ntmps56
  go_wp2_with (first
    | (go_at_call 55; refine (hdec hT.1).mono ?_; rintro e w1 ⟨rfl, hb1⟩; have hT1 := hT.below hb1)
    | (go_at_call 37; refine (escapes_any w1).mono ?_; rintro e w2 ⟨rfl, ho2, hb2⟩; have hT2 := hT1.below hb2)
    | (at_lookup; refine wpList_lookup_own_ok _ rfl _ _ 62 rfl 21 21 law21 Tryd.underlying62 (plainElem (H := Unit) Tryd.prog 21) (zero21 _) (.lit (.int .i32 0)) [] (plainElem_int Tryd.underlying21 (by decide)) _ _ escD rfl ho2 _ _ rfl hkey ?_; rw [hD.1]; intro v ps hv
       obtain ⟨q, rfl, hq, _⟩ := plainElem_int_inv Tryd.underlying21 hv
       clear hv hq)
    | (go_at_call_of 77 (Value.string s); refine (hU _ hT2).mono ?_; rintro e w3 ⟨rfl, hb3⟩; have hT3 := hT2.below hb3)
    | (go_at_call 78; refine (cut_back s w3 h5).mono ?_; rw [hB]; rintro e w3' ⟨⟨t, rfl, ht, htl⟩, hw⟩; subst hw
       have htu := unit_any t w3 hT3 (by omega)
       rw [htl h5b, HBB.out] at htu
       clear htl)
    | (go_at_call_of 77 (Value.string t); refine htu.mono ?_; rintro e w4 ⟨rfl, hb4⟩; have hz4 := Lib.hid hb4.size))
  go_ret2
  have hz1 := hb1.size
  have hz2 := hb2.size
  have hz3 := hb3.size
  exact ⟨rfl, ((hb1.trans (hb2.mono hz1)).trans (hb3.mono (by omega))).trans (hb4.mono (by omega))⟩
theorem escaped_any (s : ByteArray) (w : World) (hT : Tabs w) (hs : s.size ≤ 140737488355328) :
    Calls Tryd.prog 56 #[.string s] w fun e w' => e = .returned (.tuple #[.int .i32 (escR s.data.toList).1, .int .i64 (escR s.data.toList).2]) ∧ Below w.heap.size w w' := by
  cases hx : s.data.toList[0]?.bind simple with
  | some x =>
    have hR : escR s.data.toList = ((x : Int), 1) := by unfold escR; rw [hx]
    rw [hR]
    exact escaped_simple s w hT hs x hx
  | none =>
    by_cases h1 : unitL s.data.toList < 0
    · exact escaped_neg s w hT hs hx h1
    by_cases h2 : unitL s.data.toList < 55296
    · exact escaped_low s w hT hs hx (by omega) h2
    by_cases h3 : 57343 < unitL s.data.toList
    · exact escaped_high s w hT hs hx h3
    by_cases h4 : s.data.toList[5]? = some 92
    · by_cases h5 : 56320 ≤ unitL s.data.toList
      · exact escaped_order s w hT hs hx h4 (by omega) (by omega) h5
      by_cases h6 : unitL (s.data.toList.drop 6) < 56320
      · exact escaped_second s w hT hs hx h4 (by omega) (by omega) (by omega) h6
      by_cases h7 : 57343 < unitL (s.data.toList.drop 6)
      · exact escaped_third s w hT hs hx h4 (by omega) (by omega) (by omega) h7
      · exact escaped_pair s w hT hs hx h4 (by omega) (by omega) (by omega) (by omega) (by omega)
    · exact escaped_lone s w hT hs hx (by omega) (by omega) h4
end Go.Proofs.Jt
