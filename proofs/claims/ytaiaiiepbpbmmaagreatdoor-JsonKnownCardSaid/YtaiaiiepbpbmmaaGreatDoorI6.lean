/- JsonKnown: the walk. -/
import Derived.Test.YtaiaiiepbpbmmaaGreatDoorI5
namespace Go.Proofs.Jt
open Go.RowKit Go.Maps Go.Lib Go.Proofs.Utf Go.Proofs

set_option maxRecDepth 100000 in
set_option maxHeartbeats 2000000 in
theorem no_any {w : World} (s : ByteArray) (m : Int) (hT : Tabs w) (hs : s.size ≤ 16777216) (hp : ((parV s.data.toList).2 : Int) = m) (hn : m ≠ 0) : Calls Tryz.prog 51 #[.string s, .int .i64 m] w fun e w' => e = .returned (.bool true) ∧ Below w.heap.size w w' := by
  obtain ⟨v, n, hv⟩ : ∃ v n, parV s.data.toList = (v, n) := ⟨_, _, rfl⟩
  rw [hv] at hp
  dsimp only at hp
  have hv0 := par_err hv (by omega)
  subst hv0 hp
  have h := parse_is hT hs hv (S := ⟨#[]⟩) rfl
  rw [show (jn 0).kind = 0 from rfl, show (jn 0).keys.length = 0 from rfl, show (jn 0).items.length = 0 from rfl] at h
  have t1 : ((n : Int) == (n : Int)) = true := by simp
  clear hv hn
  go_enter Tryz.func51, Tryz.ntmps51
  go_wp2_with (first
    | (go_at_call 52; refine h.mono ?_; rintro e w1 ⟨kp, kc, ip, ic, rfl, _, _, hb1⟩
       obtain ⟨V1, hV1⟩ : ∃ V, w1.alloc (.cells #[.int .i64 0, .string ⟨#[]⟩, .slice kp 0 kc, .slice ip 0 ic] 25) = V := ⟨_, rfl⟩
       have hv1 := alloc_b hV1
       obtain ⟨c0, c1, c2, c3⟩ := box_of hV1 V1 (Below.refl _ _)))
  go_ret
  exact ⟨rfl, Below.on hb1 hv1⟩
set_option maxRecDepth 100000 in
set_option maxHeartbeats 2000000 in
theorem odd_any {w : World} {v : JV} {S : ByteArray} {kp ip : Option Addr} {kc ic : Nat} (m : Int) (hT : Tabs w) (h : KI w v kp kc ip ic) (hwt : v.wt ≤ 1000000) (hS : (⟨v.str.toArray⟩ : ByteArray) = S) (hp : (v.chk : Int) = m) (hn : m ≠ 0) :
    Calls Tryz.prog 54 #[.agg #[.int .i64 v.kind, .string S, .slice kp v.keys.length kc, .slice ip v.items.length ic], .int .i64 m] w fun e w' => e = .returned (.bool true) ∧ Below w.heap.size w w' := by
  obtain ⟨n, hc⟩ : ∃ n, v.chk = n := ⟨_, rfl⟩
  rw [hc] at hp
  subst hp
  have hpv : putV v = ((⟨#[]⟩ : ByteArray).data.toList, n) := by
    unfold putV
    rw [if_neg (by omega), hc]
  obtain ⟨W, hW⟩ : ∃ W, w.alloc (.cells #[.int .i64 v.kind, .string S, .slice kp v.keys.length kc, .slice ip v.items.length ic] 25) = W := ⟨_, rfl⟩
  have bW := alloc_b hW
  have HBX := Lib.hid (box_of hW)
  obtain ⟨c0, c1, c2, c3⟩ := HBX.out W (Below.refl _ _)
  have h1 := put_is (hT.below bW) (h.stay bW) hwt hS hpv W (Below.refl _ _)
  have h2 : ∀ V, Below W.heap.size W V → _ := fun V hV => check_is (hT.below (Below.on bW hV)) (h.stay (Below.on bW hV)) hwt hS V (Below.refl _ _)
  rw [hc] at h2
  have H2 := Lib.hid h2
  have HBW := Lib.hid bW
  have t1 : ((n : Int) == (n : Int)) = true := by simp
  clear h hT hS hc hpv bW hn h2
  go_enter Tryz.func54, Tryz.ntmps54
  go_wp2_with (first
    | (go_at_call 84; refine h1.mono ?_; rintro e w1 ⟨rfl, hb1⟩; clear c0 c1 c2 c3; obtain ⟨c0, c1, c2, c3⟩ := HBX.out w1 hb1; have h3 := H2.out w1 hb1)
    | (go_at_call 89; refine h3.mono ?_; rintro e w2 ⟨rfl, hb2⟩))
  go_ret
  exact ⟨rfl, Below.on HBW.out (Below.on hb1 hb2)⟩
theorem odd_leaf {w : World} (k : Int) (S : ByteArray) (m : Int) (hT : Tabs w) (hwt : (JV.mk k S.data.toList [] []).wt ≤ 1000000) (hp : ((JV.mk k S.data.toList [] []).chk : Int) = m) (hn : m ≠ 0) :
    Calls Tryz.prog 54 #[.agg #[.int .i64 k, .string S, .slice none 0 0, .slice none 0 0], .int .i64 m] w fun e w' => e = .returned (.bool true) ∧ Below w.heap.size w w' :=
  odd_any (v := .mk k S.data.toList [] []) m hT (KP.leaf _ (fun _ => True) _ _).ki hwt (arr_back2 S) hp hn
set_option maxRecDepth 100000 in
theorem whole_any {w : World} (S : ByteArray) (hE : ErrV w) (hs : S.size ≤ 16777216) : Calls Tryz.prog 55 #[.string S] w fun e w' => ∃ (n : Int) (b : Bool), ((intL S.data.toList).getD 0 = n ∧ (intL S.data.toList).isSome = b) ∧ e = .returned (.tuple #[.int .i64 n, .bool b]) ∧ Below w.heap.size w w' := by
  have h := int_any (kp := none) (ip := none) (kn := 0) (kc := 0) (n := 0) (ic := 0) 3 S hE hs _ (if_pos rfl)
  obtain ⟨N, hN⟩ : ∃ N, (intL S.data.toList).getD 0 = N := ⟨_, rfl⟩
  obtain ⟨B, hB⟩ : ∃ B, (intL S.data.toList).isSome = B := ⟨_, rfl⟩
  rw [hN, hB] at h ⊢
  clear hN hB
  go_enter Tryz.func55, Tryz.ntmps55
  go_wp2_with (first | (go_at_call 29; refine h.mono ?_; rintro e w1 ⟨rfl, hb1⟩))
  go_ret2
  exact ⟨N, B, ⟨rfl, rfl⟩, rfl, hb1⟩
def nestB (n : Nat) : ByteArray := (⟨(Lib.repeatL [91] n).toArray⟩ : ByteArray) ++ (⟨(Lib.repeatL [93] n).toArray⟩ : ByteArray)
set_option maxRecDepth 100000 in
theorem nested_any {w : World} (n : Nat) (hn : n ≤ 1000) : Calls Tryz.prog 53 #[.int .i64 n] w fun e w' => e = .returned (.string (nestB n)) ∧ Below w.heap.size w w' := by
  have h1 : ∀ V, Calls Tryz.prog 113 #[.string ⟨#[91]⟩, .int .i64 n] V fun e w' => e = .returned (.string ⟨(Lib.repeatL [91] n).toArray⟩) ∧ Below V.heap.size V w' := fun V => Tryz.strings_Repeat ⟨#[91]⟩ n V (by omega) (by show 1 * n ≤ _; omega)
  have h2 : ∀ V, Calls Tryz.prog 113 #[.string ⟨#[93]⟩, .int .i64 n] V fun e w' => e = .returned (.string ⟨(Lib.repeatL [93] n).toArray⟩) ∧ Below V.heap.size V w' := fun V => Tryz.strings_Repeat ⟨#[93]⟩ n V (by omega) (by show 1 * n ≤ _; omega)
  have hA : (⟨(Lib.repeatL [91] n).toArray⟩ : ByteArray).size ≤ 1000 := by rw [arr_size, Lib.repeatL_length]; show n * 1 ≤ _; omega
  have hB : (⟨(Lib.repeatL [93] n).toArray⟩ : ByteArray).size ≤ 1000 := by rw [arr_size, Lib.repeatL_length]; show n * 1 ≤ _; omega
  unfold nestB
  generalize (⟨(Lib.repeatL [91] n).toArray⟩ : ByteArray) = A at *
  generalize (⟨(Lib.repeatL [93] n).toArray⟩ : ByteArray) = B at *
  have h1 := h1 w
  go_enter Tryz.func53, Tryz.ntmps53
  go_wp2_with (first
    | (with_reducible (show Calls _ _ _ w _); go_at_call 113; refine h1.mono ?_; rintro e w1 ⟨rfl, hb1⟩; have h3 := h2 w1)
    | (go_at_call 113; refine h3.mono ?_; rintro e w2 ⟨rfl, hb2⟩))
  go_ret
  exact ⟨rfl, Below.on hb1 hb2⟩
theorem nested64 {w : World} : Calls Tryz.prog 53 #[.int .i64 64] w fun e w' => e = .returned (.string (nestB 64)) ∧ Below w.heap.size w w' := nested_any 64 (by decide)
theorem nested65 {w : World} : Calls Tryz.prog 53 #[.int .i64 65] w fun e w' => e = .returned (.string (nestB 65)) ∧ Below w.heap.size w w' := nested_any 65 (by decide)
theorem nest64_par : (parV (nestB 64).data.toList).2 = 0 := by decide +kernel
theorem nest65_par : ((parV (nestB 65).data.toList).2 : Int) = 3 := by decide +kernel
theorem nest_size (n : Nat) (hn : n ≤ 1000) : (nestB n).size ≤ 16777216 := by
  have hA : (⟨(Lib.repeatL [91] n).toArray⟩ : ByteArray).size ≤ 1000 := by rw [arr_size, Lib.repeatL_length]; show n * 1 ≤ _; omega
  have hB : (⟨(Lib.repeatL [93] n).toArray⟩ : ByteArray).size ≤ 1000 := by rw [arr_size, Lib.repeatL_length]; show n * 1 ≤ _; omega
  unfold nestB
  rw [ByteArray.size_append]
  omega
def xB : ByteArray := ⟨#[123, 34, 97, 34, 58, 49, 44, 34, 98, 34, 58, 50, 125]⟩
def yB : ByteArray := ⟨#[123, 34, 98, 34, 58, 50, 44, 34, 97, 34, 58, 49, 125]⟩
def n1V : JV := .mk 3 [49] [] []
def n2V : JV := .mk 3 [50] [] []
def xV : JV := .mk 6 [] [[97], [98]] [n1V, n2V]
def yV : JV := .mk 6 [] [[98], [97]] [n2V, n1V]
theorem x_par : parV xB.data.toList = (xV, 0) := by
  have : eqV (parV xB.data.toList).1 xV = true ∧ (parV xB.data.toList).2 = 0 := by decide +kernel
  exact Prod.ext ((eqV_iff _ _).1 this.1) this.2
theorem y_par : parV yB.data.toList = (yV, 0) := by
  have : eqV (parV yB.data.toList).1 yV = true ∧ (parV yB.data.toList).2 = 0 := by decide +kernel
  exact Prod.ext ((eqV_iff _ _).1 this.1) this.2
theorem xy_same : sameB xV yV = true := by decide +kernel
theorem one_other : sameB n1V (.mk 3 [49, 46, 48] [] []) = false := by decide +kernel
/-- a value of JSON of one key, as the law lays it -/
theorem ki_keys {w : World} {g c : Nat} (h : w.cell? ⟨g, 0, none⟩ = some (.string ⟨#[97]⟩)) (hl : g < w.heap.size) : KI w (.mk 6 [] [[97]] []) (some ⟨g, 0, none⟩) c none 0 := by
  refine .mk _ _ _ _ _ (fun _ => none) (fun _ => 0) (fun _ => none) (fun _ => 0) (fun i s hs => ?_) ⟨Nat.zero_le _, by show 1 ≤ maxLen; decide, fun s hs => ?_⟩ (fun i y hy => by cases hy) (fun i y hy => by cases hy)
  · match i, hs with
    | 0, hs =>
      obtain rfl := Option.some.inj hs
      exact ⟨⟨g, 0, none⟩, rfl, by rw [show (⟨g, 0, none⟩ : Addr).add 0 = ⟨g, 0, none⟩ by simp [Addr.add]]; exact h, hl⟩
    | i + 1, hs => cases hs
  · rw [List.mem_singleton.1 hs]
    show 1 ≤ maxLen
    decide
set_option maxRecDepth 100000 in
set_option maxHeartbeats 16000000 in
theorem known_walk {w : World} (hT : Tabs w) (hE : ErrV w) : Calls Tryz.prog 11 #[] w fun e w' => e = .returned (.bool true) ∧ Below w.heap.size w w' := by
  have HT : Hid (∀ V, Below w.heap.size w V → Tabs V) := Lib.hid fun V hV => hT.below hV
  have HE : Hid (∀ V, Below w.heap.size w V → ErrV V) := Lib.hid fun V hV => hE.below hV
  have hB := Below.refl w.heap.size w
  clear hT hE
  go_enter Tryz.func11, Tryz.ntmps11
  go_upto_region 3 with (first
    | (go_at_call 26; refine (works_any _ (HT.out _ hB)).mono ?_; rintro e wn ⟨rfl, hb⟩; replace hB := Below.on hB hb; clear hb)
    | (go_at_call 51; refine (no_any _ _ (HT.out _ hB) (by decide) (by decide +kernel) (by decide)).mono ?_; rintro e wn ⟨rfl, hb⟩; replace hB := Below.on hB hb; clear hb))
  obtain ⟨nv, hnv⟩ : ∃ v, parV (nestB 64).data.toList = (v, 0) := ⟨_, Prod.ext rfl nest64_par⟩
  obtain ⟨NS, hNS⟩ : ∃ S : ByteArray, (⟨nv.str.toArray⟩ : ByteArray) = S := ⟨_, rfl⟩
  go_upto_region 4 with (first
    | (go_at_call 53; refine nested64.mono ?_; rintro e wn ⟨rfl, hb⟩; replace hB := Below.on hB hb; clear hb)
    | (go_at_call 52; refine (parse_is (HT.out _ hB) (nest_size 64 (by decide)) hnv hNS).mono ?_; rintro e wn ⟨kp, kc, ip, ic, rfl, _, _, hb⟩; replace hB := Below.on hB hb; clear hb
       obtain ⟨V1, hV1⟩ : ∃ V, wn.alloc (.cells #[.int .i64 nv.kind, .string NS, .slice kp nv.keys.length kc, .slice ip nv.items.length ic] 25) = V := ⟨_, rfl⟩
       replace hB := Below.on hB (alloc_b hV1)))
  go_upto_region 6 with (first
    | (go_at_call 53; refine nested65.mono ?_; rintro e wn ⟨rfl, hb⟩; replace hB := Below.on hB hb; clear hb; have h65 := no_any (nestB 65) 3 (HT.out _ hB) (nest_size 65 (by decide)) nest65_par (by decide))
    | (go_at_call 51; refine h65.mono ?_; rintro e wn ⟨rfl, hb⟩; replace hB := Below.on hB hb; clear hb h65)
    | (go_at_call 51; refine (no_any _ _ (HT.out _ hB) (by decide) (by decide +kernel) (by decide)).mono ?_; rintro e wn ⟨rfl, hb⟩; replace hB := Below.on hB hb; clear hb))
  go_upto_region 8 with (first
    | (with_reducible (show Calls _ _ #[.agg #[.int .i64 6, _, _, _], _] _ _)
       obtain ⟨V2, hV2⟩ : ∃ V, wn.alloc (.cells #[.string ⟨#[97]⟩] 9) = V := ⟨_, rfl⟩
       rw [hV2]
       have hv2 := alloc_b hV2
       replace hB := Below.on hB hv2
       have hh2 : V2.heap[wn.heap.size]? = some (.cells #[.string ⟨#[97]⟩] 9 (0, 0)) := (by rw [← hV2]; exact World.alloc_heap_new wn _)
       have hc2 : V2.cell? ⟨wn.heap.size, 0, none⟩ = some (.string ⟨#[97]⟩) := (by simp [World.cell?, hh2])
       go_at_call 54; refine (odd_any (v := .mk 6 [] [[97]] []) (S := ⟨#[]⟩) 4 (HT.out _ hB) (ki_keys hc2 (Array.getElem?_eq_some_iff.1 hh2).1) (by decide) rfl (by decide +kernel) (by decide)).mono ?_; rintro e wn ⟨rfl, hb⟩; replace hB := Below.on hB hb; clear hb)
    | (go_at_call 54; refine (odd_leaf _ _ _ (HT.out _ hB) (by decide +kernel) (by decide +kernel) (by decide)).mono ?_; rintro e wn ⟨rfl, hb⟩; replace hB := Below.on hB hb; clear hb))
  go_upto_region 14 with (first
    | (go_at_call 55; refine (whole_any _ (HE.out _ hB) (by decide)).mono ?_; rintro e wn ⟨n, b, hnb, rfl, hb⟩; replace hB := Below.on hB hb; clear hb
       first
         | (obtain ⟨rfl, rfl⟩ : n = -7 ∧ b = true; (refine ⟨hnb.1.symm.trans ?_, hnb.2.symm.trans ?_⟩ <;> decide +kernel))
         | (obtain ⟨rfl, rfl⟩ : n = 0 ∧ b = false; (refine ⟨hnb.1.symm.trans ?_, hnb.2.symm.trans ?_⟩ <;> decide +kernel))
         | (obtain ⟨rfl, rfl⟩ : n = 0 ∧ b = true; (refine ⟨hnb.1.symm.trans ?_, hnb.2.symm.trans ?_⟩ <;> decide +kernel))
       clear hnb))
  go_upto_region 15 with (first
    | (go_at_call 56; refine (first_any _).mono ?_; rintro e w0 ⟨rfl, hw0⟩; rw [hw0])
    | (go_at_call 52; refine (parse_is (HT.out _ hB) (by decide) first_par (S := ⟨#[]⟩) rfl).mono ?_; rintro e wp ⟨kp1, kc1, ip1, ic1, rfl, hk1, _, hb⟩; replace hB := Below.on hB hb; clear hb
       obtain ⟨V1, hV1⟩ : ∃ V, wp.alloc (.cells #[.int .i64 firstV.kind, .string ⟨#[]⟩, .slice kp1 firstV.keys.length kc1, .slice ip1 firstV.items.length ic1] 25) = V := ⟨_, rfl⟩
       have hv1 := alloc_b hV1
       replace hB := Below.on hB hv1
       obtain ⟨c0, c1, c2, c3⟩ := box_of hV1 V1 (Below.refl _ _)
       have h27 := fieldA_is (K := ⟨#[99]⟩) (f := jn 0) (b := false) (F := ⟨#[]⟩) (hk1.ki.stay hv1) first_wt (S := ⟨#[]⟩) rfl rfl (by decide) rfl V1 (Below.refl _ _)))
  go_upto_region 16 with (first
    | (go_at_call 27; refine h27.mono ?_; rintro e wq ⟨fp, fc, gp, gc, rfl, _, _, hb⟩; replace hB := Below.on hB hb; clear hb
       obtain ⟨V2, hV2⟩ : ∃ V, wq.alloc (.cells #[.int .i64 (jn 0).kind, .string ⟨#[]⟩, .slice fp (jn 0).keys.length fc, .slice gp (jn 0).items.length gc] 25) = V := ⟨_, rfl⟩
       replace hB := Below.on hB (alloc_b hV2)))
  go_upto_region 17 with (first
    | (go_at_call 52; refine (parse_is (HT.out _ hB) (by decide) x_par (S := ⟨#[]⟩) rfl).mono ?_; rintro e wx ⟨kp3, kc3, ip3, ic3, rfl, hk3, _, hb⟩; replace hB := Below.on hB hb; clear hb
       obtain ⟨V3, hV3⟩ : ∃ V, wx.alloc (.cells #[.int .i64 xV.kind, .string ⟨#[]⟩, .slice kp3 xV.keys.length kc3, .slice ip3 xV.items.length ic3] 25) = V := ⟨_, rfl⟩
       have hv3 := alloc_b hV3
       replace hB := Below.on hB hv3
       have HX3 := Lib.hid (box_of hV3)))
  go_upto_region 18 with (first
    | (go_at_call 52; refine (parse_is (HT.out _ hB) (by decide) y_par (S := ⟨#[]⟩) rfl).mono ?_; rintro e wy ⟨kp4, kc4, ip4, ic4, rfl, hk4, _, hb4⟩; replace hB := Below.on hB hb4
       obtain ⟨V4, hV4⟩ : ∃ V, wy.alloc (.cells #[.int .i64 yV.kind, .string ⟨#[]⟩, .slice kp4 yV.keys.length kc4, .slice ip4 yV.items.length ic4] 25) = V := ⟨_, rfl⟩
       have hv4 := alloc_b hV4
       replace hB := Below.on hB hv4
       have HX4 := Lib.hid (box_of hV4)))
  obtain ⟨c0, c1, c2, c3⟩ := HX3.out V4 (Below.on hb4 hv4)
  obtain ⟨e0, e1, e2, e3⟩ := HX4.out V4 (Below.refl _ _)
  have h31 := same_is (HT.out _ hB) (hk3.ki.stay (Below.on hv3 (Below.on hb4 hv4))) (hk4.ki.stay hv4) (by decide +kernel) (by decide +kernel) (S := ⟨#[]⟩) (T := ⟨#[]⟩) rfl rfl V4 (Below.refl _ _)
  rw [xy_same] at h31
  have hone : ∀ V, Tabs V → Calls Tryz.prog 31 #[.agg #[.int .i64 3, .string ⟨#[49]⟩, .slice none 0 0, .slice none 0 0], .agg #[.int .i64 3, .string ⟨#[49, 46, 48]⟩, .slice none 0 0, .slice none 0 0]] V fun e w'' => e = .returned (.bool false) ∧ Below V.heap.size V w'' := fun V hT => by
    have := same_is (x := n1V) (y := .mk 3 [49, 46, 48] [] []) (S := ⟨#[49]⟩) (T := ⟨#[49, 46, 48]⟩) hT (KP.leaf V (fun _ => True) _ _).ki (KP.leaf V (fun _ => True) _ _).ki (by decide) (by decide) rfl rfl V (Below.refl _ _)
    rw [one_other] at this
    exact this
  go_wp2_with (first
    | (with_reducible (show Calls _ _ _ V4 _); go_at_call 31; refine h31.mono ?_; rintro e wz ⟨rfl, hb⟩; replace hB := Below.on hB hb; clear hb)
    | (go_at_call 31; refine (hone _ (HT.out _ hB)).mono ?_; rintro e wn ⟨rfl, hb⟩; replace hB := Below.on hB hb; clear hb)
    | (go_at_call 26; refine (works_any _ (HT.out _ hB)).mono ?_; rintro e wn ⟨rfl, hb⟩; replace hB := Below.on hB hb; clear hb))
  go_ret
  exact ⟨rfl, hB⟩
end Go.Proofs.Jt
