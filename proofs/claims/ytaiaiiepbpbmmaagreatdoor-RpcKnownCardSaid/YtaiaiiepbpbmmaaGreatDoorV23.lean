/- The reader: value. -/
import Derived.Test.YtaiaiiepbpbmmaaGreatDoorVC
namespace Go.Proofs.Jt
open Go.RowKit Go.Maps Go.Lib Go.Proofs.Utf Go.Proofs

theorem VP.leaf {w w2 W7 : World} {R z : Nat} {tw : Bool} {K : List KT} {o : Option (JV × List KT)} {k : Int} {s : List UInt8} (hz : w.heap.size ≤ z) (hRz : R < z) (hs : s.length ≤ 16777216) (g : w.grownBy w2 (some R)) (r : RD w2 R K false tw) (g7 : w2.grownBy W7 (some z)) (ho : o = some (.mk k s [] [], K)) (hd : (JV.mk k s [] []).dup = false) :
    VP w R tw o k ⟨s.toArray⟩ none 0 0 none 0 0 W7 := by
  refine ⟨g.andThen g7 fun j e => .inl (by cases e; exact hz), fun v r' hv => ?_, fun h => by rw [ho] at h; cases h⟩
  rw [ho] at hv
  cases hv
  rw [hd, Bool.or_false]
  exact ⟨r.kept g7 hRz, rfl, KP.leaf _ _ _ _, by rw [str_mk]; unfold maxLen; omega⟩
theorem VP.wide {w w1 w2 W7 : World} {R z : Nat} {tw : Bool} {o : Option (JV × List KT)} {k : Int} {S : ByteArray} {p p' : Option Addr} {n c n' c' : Nat} (hz : w.heap.size ≤ z) (hzl : z < w1.heap.size) (hRz : R < z) (g : w.grownBy w1 (some R)) (h : VP w1 R tw o k S p n c p' n' c' w2) (g7 : w2.grownBy W7 (some z)) :
    VP w R tw o k S p n c p' n' c' W7 := by
  refine ⟨(g.trans h.gb).andThen g7 fun j e => .inl (by cases e; exact hz), fun v r hv => ?_, fun ho => ?_⟩
  · obtain ⟨q1, q2, q3, q4⟩ := h.good v r hv
    have hs := g.size
    exact ⟨q1.kept g7 hRz, q2, q3.keep g7.size (fun b hb hl => g7.block b hl (fun e => by have := Option.some.inj e; omega)) (fun b hb _ => by omega), q4⟩
  · obtain ⟨K', tw', hr⟩ := h.bad ho
    exact ⟨K', tw', hr.kept g7 hRz⟩
theorem leaf_dup (k : Int) (s : List UInt8) : (JV.mk k s [] []).dup = false := by rw [JV.dup, dupL]
set_option maxRecDepth 100000 in
set_option maxHeartbeats 4000000 in
theorem value_any : ∀ n, ValC n := by
  intro n
  induction n using Nat.strongRecOn with
  | ind n ih =>
  intro w R K tw h hkw hn
  cases K with
  | nil =>
    refine (value_bad h (.inr rfl)).mono ?_
    rintro e w' ⟨rfl, hg, hr'⟩
    have hv : valP n [] = none := by cases n <;> rw [valP]
    exact ⟨0, ⟨#[]⟩, none, 0, 0, none, 0, 0, rfl, ⟨hg, fun v r h => (by rw [hv] at h; cases h), fun _ => ⟨_, _, hr'⟩⟩⟩
  | cons y K =>
  obtain ⟨k, x⟩ := y
  obtain ⟨n, rfl⟩ : ∃ m, n = m + 1 := ⟨n - 1, by omega⟩
  simp only [List.length_cons] at hn
  have hV := valP_cons n k x K
  have hlt := h.lt
  obtain ⟨W, hW⟩ : ∃ W, w.alloc (.cells #[.int .i64 0, .string ⟨#[]⟩, .slice none 0 0, .slice none 0 0] 25) = W := ⟨_, rfl⟩
  have bW : Below w.heap.size w W := by rw [← hW]; exact (Below.refl _ _).alloc (Nat.le_refl _) _
  have hsz : W.heap.size = w.heap.size + 1 := by rw [← hW]; simp
  have hz0 : JBox W w.heap.size := by rw [← hW]; exact JBox.alloc _ _ _ _ _
  have h' := h.below bW
  have h'0 := h'
  obtain ⟨p, c, h1, h2, h3, h4⟩ := h'0
  obtain ⟨c0, c1, c2, cf⟩ := cells3 h1
  obtain ⟨b, o, rfl, hb, k0, k1, hx, hk4, hwd, u, v, k2, k3⟩ := h4 0 k x rfl
  rw [Nat.zero_mul, Nat.add_zero] at k0 k1 k2 k3
  simp only [List.length_cons] at c0
  have g0 : w.grownBy W (some R) := gb_below bW
  have hkw2 : kw K ≤ 100000000 := by rw [kw] at hkw; omega
  have HB0 := Lib.hid hz0
  have HG0 := Lib.hid g0
  have HSZ := Lib.hid hsz
  have HRD := Lib.hid h'
  have hi1 := is_any h' ⟨#[123]⟩
  have HW := Lib.hid hwd
  have HX := Lib.hid hx
  have HLT := Lib.hid hlt
  clear h h' h1 h2 h3 h4 hz0 g0 hsz bW cf hkw hwd hx hlt hb
  by_cases e1 : ((k, x) :: K : List KT).head? = some (1, (⟨#[123]⟩ : ByteArray).data.toList)
  · have e1' : (k, x) = (1, [123]) := Option.some.inj e1
    injection e1' with e2 e3
    subst e2 e3
    rw [if_pos e1, decide_eq_true e1, List.tail_cons] at hi1
    have hV2 : valP (n + 1) ((1, [123]) :: K) = lisP n true K := hV
    have HV := Lib.hid hV2
    have HO : Hid (∀ w1, RD w1 R K false tw → Calls Tryz.prog 164 #[.pointer (some ⟨R, 0, none⟩)] w1 (ValPost w1 R tw (lisP n true K))) := Lib.hid fun w1 hr => object_any (fun m hm => ih m (by omega)) hr hkw2 (by omega)
    clear hV hV2 e1 ih
    go_enter Tryz.func112, Tryz.ntmps112
    go_wp2_with (first
      | (go_at_call 163; refine hi1.mono ?_; rintro e w1 ⟨rfl, g1, r1, s1⟩)
      | (go_at_call 164; refine (HO.out w1 r1).mono ?_; rintro e w2 ⟨vk, vS, vp, vn, vc, vp', vn', vc', rfl, hvp⟩
         have hbx : JBox w2 w.heap.size := (HB0.out.same (g1.block _ HB0.out.lt (fun e => absurd (Option.some.inj e) (Nat.ne_of_gt HLT.out)))).same (hvp.gb.block _ (by have := HB0.out.lt; omega) (fun e => absurd (Option.some.inj e) (Nat.ne_of_gt HLT.out)))
         have HB := Lib.hid hbx
         clear hbx)
      | (refine store_val rfl (.tmp 2) (.tmp 25) rfl w.heap.size rfl (.int .i64 vk) (.string vS) (.slice vp vn vc) (.slice vp' vn' vc') rfl rfl HB.out (fun V hV hgV _ => ?_)))
    have hs1 := HSZ.out
    have hl1 := HLT.out
    refine bodyPost_ret (ret_val Tryz.results112 rfl hV) rfl ⟨vk, vS, vp, vn, vc, vp', vn', vc', rfl, ?_⟩
    rw [HV.out]
    exact hvp.wide (Nat.le_refl _) (by omega) hl1 (HG0.out.trans g1) hgV
  · rw [if_neg e1, decide_eq_false e1] at hi1
    by_cases e5 : ((k, x) :: K : List KT).head? = some (1, (⟨#[91]⟩ : ByteArray).data.toList)
    · have e5' : (k, x) = (1, [91]) := Option.some.inj e5
      injection e5' with e2 e3
      subst e2 e3
      have hV2 : valP (n + 1) ((1, [91]) :: K) = lisP n false K := hV
      have HV := Lib.hid hV2
      have HE5 := Lib.hid e5
      have HO : Hid (∀ w1, RD w1 R K false tw → Calls Tryz.prog 165 #[.pointer (some ⟨R, 0, none⟩)] w1 (ValPost w1 R tw (lisP n false K))) := Lib.hid fun w1 hr => array_any (fun m hm => ih m (by omega)) hr hkw2 (by omega)
      clear hV hV2 e1 e5 ih
      go_enter Tryz.func112, Tryz.ntmps112
      go_wp2_with (first
        | (go_at_call 163; refine hi1.mono ?_; rintro e w1 ⟨rfl, g1, r1, s1⟩; have hi2 := is_any r1 ⟨#[91]⟩; rw [if_pos HE5.out, decide_eq_true HE5.out, List.tail_cons] at hi2; clear hi1)
        | (go_at_call 163; refine hi2.mono ?_; rintro e w3 ⟨rfl, g3, r3, s3⟩)
        | (go_at_call 165; refine (HO.out w3 r3).mono ?_; rintro e w2 ⟨vk, vS, vp, vn, vc, vp', vn', vc', rfl, hvp⟩
           have g13 := g1.trans g3
           have hbx : JBox w2 w.heap.size := (HB0.out.same (g13.block _ HB0.out.lt (fun e => absurd (Option.some.inj e) (Nat.ne_of_gt HLT.out)))).same (hvp.gb.block _ (by have := HB0.out.lt; omega) (fun e => absurd (Option.some.inj e) (Nat.ne_of_gt HLT.out)))
           have HB := Lib.hid hbx
           clear hbx)
        | (refine store_val rfl (.tmp 2) (.tmp 30) rfl w.heap.size rfl (.int .i64 vk) (.string vS) (.slice vp vn vc) (.slice vp' vn' vc') rfl rfl HB.out (fun V hV hgV _ => ?_)))
      have hs1 := HSZ.out
      have hl1 := HLT.out
      refine bodyPost_ret (ret_val Tryz.results112 rfl hV) rfl ⟨vk, vS, vp, vn, vc, vp', vn', vc', rfl, ?_⟩
      rw [HV.out]
      exact hvp.wide (Nat.le_refl _) (by omega) hl1 (HG0.out.trans (g1.trans g3)) hgV
    · have HE5 := Lib.hid e5
      have HNE : Hid (¬ (k = 1 ∧ x = [91]) ∧ ¬ (k = 1 ∧ x = [123])) := Lib.hid ⟨fun h => e5 (by rw [h.1, h.2]; rfl), fun h => e1 (by rw [h.1, h.2]; rfl)⟩
      have HV := Lib.hid hV
      clear hV e1 e5 ih
      go_enter Tryz.func112, Tryz.ntmps112
      go_upto_region 8 with (first
        | (go_at_call 163; refine hi1.mono ?_; rintro e w1 ⟨rfl, g1, r1, s1⟩; have hi2 := is_any r1 ⟨#[91]⟩; rw [if_neg HE5.out, decide_eq_false HE5.out] at hi2; clear hi1)
        | (go_at_call 163; refine hi2.mono ?_; rintro e w3 ⟨rfl, g3, r3, s3⟩))
      clear c0 c1 c2 k0 k1 k2 k3
      have G3 := Lib.hid (HG0.out.trans (g1.trans g3))
      have hb3 : JBox w3 w.heap.size := (HB0.out.same (g1.block _ HB0.out.lt (fun e => absurd (Option.some.inj e) (Nat.ne_of_gt HLT.out)))).same (g3.block _ (by have := HB0.out.lt; omega) (fun e => absurd (Option.some.inj e) (Nat.ne_of_gt HLT.out)))
      have HB3 := Lib.hid hb3
      have HR3 := Lib.hid r3
      obtain ⟨p, c, q1, q2, q3, q4⟩ := r3
      obtain ⟨c0, c1, c2, cf⟩ := cells3 q1
      obtain ⟨b, o, rfl, hb, k0, k1, -, -, -, u, v, k2, k3⟩ := q4 0 k x rfl
      rw [Nat.zero_mul, Nat.add_zero] at k0 k1 k2 k3
      obtain ⟨X, hX⟩ : ∃ X : ByteArray, (⟨x.toArray⟩ : ByteArray) = X := ⟨_, rfl⟩
      rw [hX] at k1
      simp only [List.length_cons] at c0
      clear q1 q2 q3 q4 cf g1 g3 hb3 r1 hi2 hb
      have HA : Hid (∀ V, w3.alloc (.cells #[.int .i64 k, .string X, .int .i64 u, .int .i64 v] 222) = V → RD V R ((k, x) :: K) false tw ∧ JBox V w.heap.size ∧ w.grownBy V (some R)) := Lib.hid fun V hV => by
        have bV : Below w3.heap.size w3 V := by rw [← hV]; exact (Below.refl _ _).alloc (Nat.le_refl _) _
        exact ⟨HR3.out.below bV, HB3.out.same (bV.block _ HB3.out.lt), G3.out.trans (gb_below bV)⟩
      have fin : ∀ (w2 V : World) (kk : Int) (s : List UInt8), s.length ≤ 16777216 → w.grownBy w2 (some R) → RD w2 R K false tw → w2.grownBy V (some w.heap.size) → valP (n + 1) ((k, x) :: K) = some (.mk kk s [] [], K) → VP w R tw (valP (n + 1) ((k, x) :: K)) kk ⟨s.toArray⟩ none 0 0 none 0 0 V := fun w2 V kk s hs g r g7 ho => VP.leaf (Nat.le_refl _) HLT.out hs g r g7 ho (leaf_dup _ _)
      have FIN := Lib.hid fin
      clear fin
      by_cases h3 : k = 3
      · subst h3
        have hv3 : valP (n + 1) ((3, x) :: K) = some (.mk 3 x [] [], K) := by rw [HV.out]; simp
        have HV3 := Lib.hid hv3
        have htk : ∀ V, RD V R ((3, x) :: K) false tw → _ := fun V hr => take_any hr
        rw [hX] at htk
        have HTK := Lib.hid htk
        have HXX := Lib.hid hX
        clear hv3 htk hX
        go_wp2_with (first
          | (go_at_call 166; refine (HTK.out _ (HA.out _ rfl).1).mono ?_; rintro e w4 ⟨rfl, g4, r4, s4⟩
             have hbx : JBox w4 w.heap.size := ((HA.out _ rfl).2.1).same (g4.block _ ((HA.out _ rfl).2.1).lt (fun e => absurd (Option.some.inj e) (Nat.ne_of_gt HLT.out)))
             have HB := Lib.hid hbx
             clear hbx)
          | (refine store_val rfl (.tmp 2) (.tmp 45) rfl w.heap.size rfl (.int .i64 3) (.string X) (.slice none 0 0) (.slice none 0 0) rfl rfl HB.out (fun V hV hgV _ => ?_)))
        refine bodyPost_ret (ret_val Tryz.results112 rfl hV) rfl ⟨3, X, none, 0, 0, none, 0, 0, rfl, ?_⟩
        rw [← HXX.out]
        exact FIN.out _ _ 3 x HX.out ((HA.out _ rfl).2.2.trans g4) r4 hgV HV3.out
      · by_cases h4 : k = 4
        · subst h4
          have hv3 : valP (n + 1) ((4, x) :: K) = some (.mk 4 x [] [], K) := by rw [HV.out]; simp
          have HV3 := Lib.hid hv3
          have htk : ∀ V, RD V R ((4, x) :: K) false tw → _ := fun V hr => take_any hr
          rw [hX] at htk
          have HTK := Lib.hid htk
          have HXX := Lib.hid hX
          clear hv3 htk hX
          go_wp2_with (first
            | (go_at_call 166; refine (HTK.out _ (HA.out _ rfl).1).mono ?_; rintro e w4 ⟨rfl, g4, r4, s4⟩
               have hbx : JBox w4 w.heap.size := ((HA.out _ rfl).2.1).same (g4.block _ ((HA.out _ rfl).2.1).lt (fun e => absurd (Option.some.inj e) (Nat.ne_of_gt HLT.out)))
               have HB := Lib.hid hbx
               clear hbx)
            | (refine store_val rfl (.tmp 2) (.tmp 52) rfl w.heap.size rfl (.int .i64 4) (.string X) (.slice none 0 0) (.slice none 0 0) rfl rfl HB.out (fun V hV hgV _ => ?_)))
          refine bodyPost_ret (ret_val Tryz.results112 rfl hV) rfl ⟨4, X, none, 0, 0, none, 0, 0, rfl, ?_⟩
          rw [← HXX.out]
          exact FIN.out _ _ 4 x HX.out ((HA.out _ rfl).2.2.trans g4) r4 hgV HV3.out
        · by_cases h2 : k = 2
          · subst h2
            have htk : ∀ V, RD V R ((2, x) :: K) false tw → _ := fun V hr => take_any hr
            rw [hX] at htk
            have HTK := Lib.hid htk
            have hwx := HW.out rfl
            rcases hwx with rfl | rfl | rfl
            · have hXe : X = ⟨#[110, 117, 108, 108]⟩ := hX.symm.trans rfl
              obtain ⟨t1a, t1b, t1c⟩ : ¬ X.toList = [116, 114, 117, 101] ∧ (X.toList == [116, 114, 117, 101]) = false ∧ (X.toList != [116, 114, 117, 101]) = true := by rw [hXe, ByteArray.toList_eq]; decide
              obtain ⟨t2a, t2b, t2c⟩ : ¬ X.toList = [102, 97, 108, 115, 101] ∧ (X.toList == [102, 97, 108, 115, 101]) = false ∧ (X.toList != [102, 97, 108, 115, 101]) = true := by rw [hXe, ByteArray.toList_eq]; decide
              have HV3 : Hid (valP (n + 1) ((2, wNull) :: K) = some (.mk 0 [] [] [], K)) := Lib.hid (by rw [HV.out]; rfl)
              clear hXe htk hX
              go_wp2_with (first
                | (go_at_call 166; refine (HTK.out _ (HA.out _ rfl).1).mono ?_; rintro e w4 ⟨rfl, g4, r4, s4⟩
                   have hbx : JBox w4 w.heap.size := ((HA.out _ rfl).2.1).same (g4.block _ ((HA.out _ rfl).2.1).lt (fun e => absurd (Option.some.inj e) (Nat.ne_of_gt HLT.out)))
                   have HB := Lib.hid hbx
                   clear hbx)
                | (refine store_val rfl (.tmp 2) (.tmp 61) rfl w.heap.size rfl (.int .i64 0) (.string ⟨#[]⟩) (.slice none 0 0) (.slice none 0 0) rfl rfl HB.out (fun V hV hgV _ => ?_)))
              refine bodyPost_ret (ret_val Tryz.results112 rfl hV) rfl ⟨0, ⟨#[]⟩, none, 0, 0, none, 0, 0, rfl, ?_⟩
              exact FIN.out _ _ 0 [] (Nat.zero_le _) ((HA.out _ rfl).2.2.trans g4) r4 hgV HV3.out
            · have hXe : X = ⟨#[102, 97, 108, 115, 101]⟩ := hX.symm.trans rfl
              obtain ⟨t1a, t1b, t1c⟩ : ¬ X.toList = [116, 114, 117, 101] ∧ (X.toList == [116, 114, 117, 101]) = false ∧ (X.toList != [116, 114, 117, 101]) = true := by rw [hXe, ByteArray.toList_eq]; decide
              obtain ⟨t2a, t2b, t2c⟩ : X.toList = [102, 97, 108, 115, 101] ∧ (X.toList == [102, 97, 108, 115, 101]) = true ∧ (X.toList != [102, 97, 108, 115, 101]) = false := by rw [hXe, ByteArray.toList_eq]; decide
              have HV3 : Hid (valP (n + 1) ((2, wFalse) :: K) = some (.mk 1 [] [] [], K)) := Lib.hid (by rw [HV.out]; rfl)
              clear hXe htk hX
              go_wp2_with (first
                | (go_at_call 166; refine (HTK.out _ (HA.out _ rfl).1).mono ?_; rintro e w4 ⟨rfl, g4, r4, s4⟩
                   have hbx : JBox w4 w.heap.size := ((HA.out _ rfl).2.1).same (g4.block _ ((HA.out _ rfl).2.1).lt (fun e => absurd (Option.some.inj e) (Nat.ne_of_gt HLT.out)))
                   have HB := Lib.hid hbx
                   clear hbx)
                | (refine store_val rfl (.tmp 2) (.tmp 60) rfl w.heap.size rfl (.int .i64 1) (.string ⟨#[]⟩) (.slice none 0 0) (.slice none 0 0) rfl rfl HB.out (fun V hV hgV _ => ?_)))
              refine bodyPost_ret (ret_val Tryz.results112 rfl hV) rfl ⟨1, ⟨#[]⟩, none, 0, 0, none, 0, 0, rfl, ?_⟩
              exact FIN.out _ _ 1 [] (Nat.zero_le _) ((HA.out _ rfl).2.2.trans g4) r4 hgV HV3.out
            · have hXe : X = ⟨#[116, 114, 117, 101]⟩ := hX.symm.trans rfl
              obtain ⟨t1a, t1b, t1c⟩ : X.toList = [116, 114, 117, 101] ∧ (X.toList == [116, 114, 117, 101]) = true ∧ (X.toList != [116, 114, 117, 101]) = false := by rw [hXe, ByteArray.toList_eq]; decide
              have HV3 : Hid (valP (n + 1) ((2, wTrue) :: K) = some (.mk 2 [] [] [], K)) := Lib.hid (by rw [HV.out]; rfl)
              clear hXe htk hX
              go_wp2_with (first
                | (go_at_call 166; refine (HTK.out _ (HA.out _ rfl).1).mono ?_; rintro e w4 ⟨rfl, g4, r4, s4⟩
                   have hbx : JBox w4 w.heap.size := ((HA.out _ rfl).2.1).same (g4.block _ ((HA.out _ rfl).2.1).lt (fun e => absurd (Option.some.inj e) (Nat.ne_of_gt HLT.out)))
                   have HB := Lib.hid hbx
                   clear hbx)
                | (refine store_val rfl (.tmp 2) (.tmp 57) rfl w.heap.size rfl (.int .i64 2) (.string ⟨#[]⟩) (.slice none 0 0) (.slice none 0 0) rfl rfl HB.out (fun V hV hgV _ => ?_)))
              refine bodyPost_ret (ret_val Tryz.results112 rfl hV) rfl ⟨2, ⟨#[]⟩, none, 0, 0, none, 0, 0, rfl, ?_⟩
              exact FIN.out _ _ 2 [] (Nat.zero_le _) ((HA.out _ rfl).2.2.trans g4) r4 hgV HV3.out
          · skip
            have hv0 : valP (n + 1) ((k, x) :: K) = none := by
              rw [HV.out, if_neg h2, if_neg h3, if_neg h4, if_neg HNE.out.1, if_neg HNE.out.2]
            have HV0 := Lib.hid hv0
            have HTK : Hid (∀ V, RD V R ((k, x) :: K) false tw → _) := Lib.hid fun V hr => take_bad (k := 2) hr (.inr fun y hy => h2 (by injection hy with hy; injection hy))
            have n3 : ((k : Int) == 3) = false := beq_eq_false_iff_ne.2 (by omega)
            have n4 : ((k : Int) == 4) = false := beq_eq_false_iff_ne.2 (by omega)
            have t1 := str_ne (show ¬ (⟨#[]⟩ : ByteArray) = ⟨#[116, 114, 117, 101]⟩ by decide)
            have t2 := str_ne (show ¬ (⟨#[]⟩ : ByteArray) = ⟨#[102, 97, 108, 115, 101]⟩ by decide)
            clear hv0 hX h2 h3 h4
            go_wp2_with (first
              | (go_at_call 166; refine (HTK.out _ (HA.out _ rfl).1).mono ?_; rintro e w4 ⟨rfl, g4, r4, s4⟩
                 have hbx : JBox w4 w.heap.size := ((HA.out _ rfl).2.1).same (g4.block _ ((HA.out _ rfl).2.1).lt (fun e => absurd (Option.some.inj e) (Nat.ne_of_gt HLT.out)))
                 have HB := Lib.hid hbx
                 clear hbx)
              | (refine store_val rfl (.tmp 2) (.tmp 61) rfl w.heap.size rfl (.int .i64 0) (.string ⟨#[]⟩) (.slice none 0 0) (.slice none 0 0) rfl rfl HB.out (fun V hV hgV _ => ?_)))
            refine bodyPost_ret (ret_val Tryz.results112 rfl hV) rfl ⟨0, ⟨#[]⟩, none, 0, 0, none, 0, 0, rfl, ?_⟩
            exact ⟨((HA.out _ rfl).2.2.trans g4).andThen hgV fun j e => .inl (by cases e; exact Nat.le_refl _), fun v r h => (by rw [HV0.out] at h; cases h), fun _ => ⟨_, _, r4.kept hgV HLT.out⟩⟩
end Go.Proofs.Jt
