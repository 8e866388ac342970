/- JsonBlanks: the walk. -/
import Derived.Test.YtphiceebhncflaaDoorV33
import Derived.Test.YtphiceebhncflaaDoorV27
import Derived.Test.YtphiceebhncflaaDoorA1
namespace Go.Proofs.Jt
open Go.RowKit Go.Maps Go.Lib Go.Proofs.Utf Go.Proofs

def blankC : ByteArray := ⟨#[32, 9, 10, 13]⟩
def blankN (n : Nat) : UInt8 := blankC.data.toList.getD (n % 4) 32
theorem blankN_blank (n : Nat) : isBlankB (blankN n) = true := by
  have : ∀ k : Fin 4, isBlankB (blankC.data.toList.getD k.val 32) = true := by decide
  exact this ⟨n % 4, Nat.mod_lt _ (by omega)⟩
theorem blankN_cut (m : Nat) (h : m < 4) : (blankC.extract m (m + 1)).data.toList = [blankC.data.toList.getD m 32] := by
  have h4 : ∀ m : Fin 4, (blankC.extract m.val (m.val + 1)).data.toList = [blankC.data.toList.getD m.val 32] := by decide +kernel
  exact h4 ⟨m, h⟩
/-- the gap by the first j numbers -/
def gapN (z : Nat → Nat) (j : Nat) : List UInt8 := (List.range j).map fun i => blankN (z i)
theorem gapN_len (z : Nat → Nat) (j : Nat) : (gapN z j).length = j := by simp [gapN]
theorem gapN_succ (z : Nat → Nat) (j : Nat) : gapN z (j + 1) = gapN z j ++ [blankN (z j)] := by simp [gapN, List.range_succ]
theorem gapN_blank (z : Nat → Nat) (j : Nat) : ∀ b ∈ gapN z j, isBlankB b = true := fun b hb => by
  obtain ⟨i, _, rfl⟩ := List.mem_map.1 hb
  exact blankN_blank _
/-- the list's items -/
abbrev itsOf (L : List IC) : List JV := L.map (·.y)
theorem take_itsOf {L : List IC} {j : Nat} {c : IC} (h : L[j]? = some c) : (itsOf L).take (j + 1) = (itsOf L).take j ++ [c.y] := by
  rw [List.take_add_one, List.getElem?_map, h]
  rfl
theorem take_empty {L : List IC} {j : Nat} (h : j ≤ L.length) : ((itsOf L).take j).isEmpty = decide (j = 0) := by
  cases j with
  | zero => rfl
  | succ j =>
    cases L with
    | nil => simp at h
    | cons c t => rfl
theorem bytes_of {A : ByteArray} {l : List UInt8} (h : A.data.toList = l) : A.size = l.length := by rw [← h]; exact Array.length_toList.symm
theorem add_list (A B : ByteArray) : (A ++ B).data.toList = A.data.toList ++ B.data.toList := by rw [ByteArray.data_append, Array.toList_append]
/-- what the two texts say -/
theorem whole_two {g : List UInt8} (hg : ∀ b ∈ g, isBlankB b = true) {L : List IC} (hx : ∀ x ∈ itsOf L, x.chk = 0) : ∃ v n, parV (wholeG [] (itsOf L)) = (v, n) ∧ parV (wholeG g (itsOf L)) = (v, n) ∧ v.str = [] ∧ ((n = 0 ∧ v.items.length = L.length) ∨ n = 3) := by
  have hf : ∀ x ∈ itsOf L, x.fnd = 0 := fun x h => (chk_zero (hx x h)).2
  rw [wholeG_par (g := []) (by simp) hf, wholeG_par hg hf]
  by_cases h : 64 < (JV.mk 5 [] [] (itsOf L)).dep
  · exact ⟨jn 0, 3, by rw [if_pos h], by rw [if_pos h], rfl, .inr rfl⟩
  · exact ⟨.mk 5 [] [] (itsOf L), 0, by rw [if_neg h], by rw [if_neg h], rfl, .inl ⟨rfl, by show (itsOf L).length = _; exact List.length_map ..⟩⟩
set_option maxRecDepth 100000 in
set_option maxHeartbeats 8000000 in
theorem blanks_core {w : World} {p q : Option Addr} {c d n : Nat} {L : List IC} (z : Nat → Nat) (hT : Tabs w) (hL : L.length ≤ 20) (hn : n ≤ 20) (hR : JRow w p L)
    (hz : ∀ i, i < n → ∃ a, q = some a ∧ w.cell? (a.add i) = some (.int .u8 (z i : Nat)) ∧ z i ≤ 255 ∧ a.block < w.heap.size) :
    Calls Tryd.prog 10 #[.slice p L.length c, .slice q n d] w fun e w' => e = .returned (.bool true) ∧ Below w.heap.size w w' := by
  have HR := Lib.hid hR
  have HZ := Lib.hid hz
  have HT : Hid (∀ V, Below w.heap.size w V → Tabs V) := Lib.hid fun V hV => hT.below hV
  clear hR hz hT
  go_enter Tryd.func10, Tryd.ntmps10
  go_wp2_with fail
  go_loopw [5, 6] (fun g iv wr => ∃ (A : ByteArray) (j : Nat), g = .string A ∧ iv = .int .i64 j ∧ j ≤ n ∧ A.data.toList = gapN z j ∧ Below w.heap.size w wr) (fun _ iv _ => n - (RowKit.intOf iv).toNat)
  case atStart => exact ⟨⟨#[]⟩, 0, rfl, rfl, Nat.zero_le _, rfl, Below.refl _ _⟩
  case round =>
    obtain ⟨A, j, rfl, rfl, hj, hA, hB⟩ := hrel
    have hAs : A.size = j := by rw [bytes_of hA, gapN_len]
    by_cases hjn : (j : Int) < (n : Int)
    · obtain ⟨a, rfl, hc, hz255, hab⟩ := HZ.out j (by omega)
      have hc2 : wr.cell? (a.add j) = some (.int .u8 (z j : Nat)) := by
        rw [hB.cell (by rw [add_blk]; exact hab)]; exact hc
      have hnew : (A ++ blankC.extract (z j % 4) (z j % 4 + 1)).data.toList = gapN z (j + 1) := by
        rw [add_list, hA, gapN_succ, blankN_cut _ (Nat.mod_lt _ (by omega))]
        rfl
      obtain ⟨y, hy⟩ : ∃ y, z j = y := ⟨_, rfl⟩
      rw [hy] at hc2 hnew hz255
      obtain ⟨m, hm⟩ : ∃ m, y % 4 = m := ⟨_, rfl⟩
      rw [hm] at hnew
      have hm4 : m ≤ 3 := by omega
      have e1 : (y : Int).tmod 4 = (m : Int) := by rw [Int.tmod_eq_emod_of_nonneg (by omega)]; omega
      have e2 : IntKind.u8.wrap (m : Int) = (m : Int) := by unfold IntKind.wrap; simp [IntKind.bits, IntKind.signed]; omega
      have e3 : IntKind.u8.wrap ((m : Int) + 1) = (m : Int) + 1 := by unfold IntKind.wrap; simp [IntKind.bits, IntKind.signed]; omega
      have e4 : (y : Int) % 4 = (m : Int) := by omega
      have HNEW := Lib.hid hnew
      unfold blankC at HNEW
      have hBq := fun n => below_draws hB n
      clear hc hm hy hA hnew
      go_wp2_with fail
      go_quiet (fail)
      go_wp2_with fail
      go_roundw
      case rel => exact ⟨_, j + 1, rfl, by go_num, by omega, HNEW.out, hBq _⟩
      case measure => simp [RowKit.intOf]; omega
    · have hjj : j = n := by omega
      subst hjj
      obtain ⟨g, hg⟩ : ∃ g, gapN z j = g := ⟨_, rfl⟩
      have hgb : ∀ b ∈ g, isBlankB b = true := by rw [← hg]; exact gapN_blank z j
      rw [hg] at hA
      have HGB := Lib.hid hgb
      have HA := Lib.hid hA
      have hgl : g.length ≤ 20 := by rw [← hA, Array.length_toList]; show A.size ≤ 20; omega
      have HGL := Lib.hid hgl
      clear hg hgb hA hgl
      go_wp2_with fail
      go_loopw [7, 8, 9] (fun av bv iv wx => ∃ (U V : ByteArray) (i : Nat), av = .string U ∧ bv = .string V ∧ iv = .int .i64 i ∧ i ≤ L.length ∧ U.data.toList = 91 :: listG [] ((itsOf L).take i) true ∧ V.data.toList = g ++ 91 :: (g ++ listG g ((itsOf L).take i) true) ∧ (∀ x ∈ (itsOf L).take i, x.chk = 0 ∧ x.wt < 1500) ∧ Below w.heap.size w wx) (fun _ _ iv _ => L.length - (RowKit.intOf iv).toNat)
      case atStart => exact ⟨_, _, 0, rfl, rfl, rfl, Nat.zero_le _, by simp [listG], by simp only [add_list, HA.out]; simp [listG], fun x hx => by simp at hx, hB⟩
      case round =>
        obtain ⟨U, V, i, rfl, rfl, rfl, hi, hU, hV, hx, hB2⟩ := hrel
        have hUs : U.size ≤ 300000 := by
          rw [bytes_of hU]
          have h1 := listG_len [] (by simp) ((itsOf L).take i) true (fun x h => (hx x h).2)
          have h2 : ((itsOf L).take i).length ≤ 20 := by rw [List.length_take, List.length_map]; omega
          simp only [List.length_cons]
          omega
        have hVs : V.size ≤ 300000 := by
          rw [bytes_of hV]
          have h1 := listG_len g HGL.out ((itsOf L).take i) true (fun x h => (hx x h).2)
          have h2 : ((itsOf L).take i).length ≤ 20 := by rw [List.length_take, List.length_map]; omega
          have h3 := HGL.out
          simp only [List.length_append, List.length_cons]
          omega
        have HU := Lib.hid hU
        have HV := Lib.hid hV
        have HX := Lib.hid hx
        clear hU hV hx
        by_cases hin : (i : Int) < (L.length : Int)
        · obtain ⟨e, he⟩ : ∃ e, L[i]? = some e := ⟨_, List.getElem?_eq_getElem (by omega)⟩
          obtain ⟨⟨a, rfl, hjc⟩, hki, hel⟩ := HR.out i e he
          obtain ⟨c0, c1, c2, c3, _⟩ := hjc.below hB2
          obtain ⟨y, hy⟩ : ∃ y, e.y = y := ⟨_, rfl⟩
          rw [hy] at hki hel c0 c1 c2 c3
          obtain ⟨S, hS⟩ : ∃ S : ByteArray, (⟨y.str.toArray⟩ : ByteArray) = S := ⟨_, rfl⟩
          rw [hS] at c1
          have hf := few_is hki hel hS wr hB2
          have hfw := @few_wt y
          have HKI : Hid (∀ V, Below w.heap.size w V → KI V y e.kp e.kc e.ip e.ic) := Lib.hid fun V hV => hki.stay hV
          have HTK := Lib.hid (take_itsOf he)
          have HTE := Lib.hid (take_empty (L := L) (j := i) hi)
          have HY := Lib.hid hy
          have HS := Lib.hid hS
          clear hki hel hjc he hy hS
          cases hq : decide (0 < y.sz 1500) with
          | false =>
            rw [hq] at hf
            clear hq hfw
            go_wp2_with (first
              | (go_at_call 25; refine hf.mono ?_; rintro e w1 ⟨rfl, hb1⟩; have hwk := works_any w1 (HT.out w1 (hB2.trans (hb1.mono hB2.size))))
              | (go_at_call 20; refine hwk.mono ?_; rintro e w2 ⟨rfl, hb2⟩))
            go_ret
            exact ⟨rfl, hB2.trans ((Below.on hb1 hb2).mono hB2.size)⟩
          | true =>
            rw [hq] at hf
            have hwt := hfw (of_decide_eq_true hq)
            have hput := fun V (hV : Below w.heap.size w V) => put_is (X := ⟨(putV y).1.toArray⟩) (n := (putV y).2) (HT.out V hV) (HKI.out V hV) (by omega) HS.out rfl V (Below.refl _ _)
            unfold putV at hput
            by_cases h0 : y.chk = 0
            · simp only [h0, if_true] at hput
              obtain ⟨X, hX⟩ : ∃ X : ByteArray, (⟨y.text.toArray⟩ : ByteArray) = X := ⟨_, rfl⟩
              have hXl : X.data.toList = y.text := by rw [← hX]
              have hXs : X.size ≤ 16000 := by rw [← hX, arr_size]; have := text_len y; omega
              rw [hX] at hput
              have HXL := Lib.hid hXl
              have HPUT := Lib.hid hput
              have HC0 : Hid (∀ x ∈ (itsOf L).take (i + 1), x.chk = 0 ∧ x.wt < 1500) := Lib.hid fun x hx => by
                rw [HTK.out] at hx
                rcases List.mem_append.1 hx with hx | hx
                · exact HX.out x hx
                · rw [List.mem_singleton.1 hx, HY.out]; exact ⟨h0, hwt⟩
              clear hq hfw hwt hput hX hXl h0
              by_cases hi0 : (0 : Int) < (i : Int)
              · have HNU : Hid ((U ++ ⟨#[44]⟩ ++ X).data.toList = 91 :: listG [] ((itsOf L).take (i + 1)) true) := Lib.hid (by
                  rw [HTK.out, listG_snoc, HTE.out, decide_eq_false (by omega), add_list, add_list, HU.out, HXL.out, HY.out]
                  simp)
                have HNV : Hid ((V ++ A ++ ⟨#[44]⟩ ++ A ++ X).data.toList = g ++ 91 :: (g ++ listG g ((itsOf L).take (i + 1)) true)) := Lib.hid (by
                  rw [HTK.out, listG_snoc, HTE.out, decide_eq_false (by omega), add_list, add_list, add_list, add_list, HV.out, HXL.out, HY.out, HA.out]
                  simp)
                go_wp2_with (first
                  | (go_at_call 25; refine hf.mono ?_; rintro e w1 ⟨rfl, hb1⟩; have b1 := hB2.trans (hb1.mono hB2.size); have h22 := HPUT.out w1 b1; have d0 := (hb1.cell (World.block_lt_of_cell? _ _ c0)).trans c0; have d1 := (hb1.cell (World.block_lt_of_cell? _ _ c1)).trans c1; have d2 := (hb1.cell (World.block_lt_of_cell? _ _ c2)).trans c2; have d3 := (hb1.cell (World.block_lt_of_cell? _ _ c3)).trans c3)
                  | (go_at_call 22; refine h22.mono ?_; rintro e w2 ⟨rfl, hb2⟩; have b2 := b1.trans (hb2.mono b1.size)))
                go_roundw
                case rel => exact ⟨_, _, i + 1, rfl, rfl, by go_num, by omega, HNU.out, HNV.out, HC0.out, b2⟩
                case measure => simp [RowKit.intOf]; omega
              · have HNU : Hid ((U ++ X).data.toList = 91 :: listG [] ((itsOf L).take (i + 1)) true) := Lib.hid (by
                  rw [HTK.out, listG_snoc, HTE.out, decide_eq_true (by omega), add_list, HU.out, HXL.out, HY.out]
                  simp)
                have HNV : Hid ((V ++ X).data.toList = g ++ 91 :: (g ++ listG g ((itsOf L).take (i + 1)) true)) := Lib.hid (by
                  rw [HTK.out, listG_snoc, HTE.out, decide_eq_true (by omega), add_list, HV.out, HXL.out, HY.out]
                  simp)
                go_wp2_with (first
                  | (go_at_call 25; refine hf.mono ?_; rintro e w1 ⟨rfl, hb1⟩; have b1 := hB2.trans (hb1.mono hB2.size); have h22 := HPUT.out w1 b1; have d0 := (hb1.cell (World.block_lt_of_cell? _ _ c0)).trans c0; have d1 := (hb1.cell (World.block_lt_of_cell? _ _ c1)).trans c1; have d2 := (hb1.cell (World.block_lt_of_cell? _ _ c2)).trans c2; have d3 := (hb1.cell (World.block_lt_of_cell? _ _ c3)).trans c3)
                  | (go_at_call 22; refine h22.mono ?_; rintro e w2 ⟨rfl, hb2⟩; have b2 := b1.trans (hb2.mono b1.size)))
                go_roundw
                case rel => exact ⟨_, _, i + 1, rfl, rfl, by go_num, by omega, HNU.out, HNV.out, HC0.out, b2⟩
                case measure => simp [RowKit.intOf]; omega
            · simp only [h0, if_false] at hput
              obtain ⟨n2, hn2⟩ : ∃ c, y.chk = c := ⟨_, rfl⟩
              simp only [hn2] at hput h0
              have n1 : ((n2 : Int) != 0) = true := by simp; omega
              have n3 : ((n2 : Int) == 0) = false := beq_eq_false_iff_ne.2 (by omega)
              have HPUT := Lib.hid hput
              clear hq hfw hwt hput h0 hn2
              go_wp2_with (first
                | (go_at_call 25; refine hf.mono ?_; rintro e w1 ⟨rfl, hb1⟩; have b1 := hB2.trans (hb1.mono hB2.size); have h22 := HPUT.out w1 b1; have d0 := (hb1.cell (World.block_lt_of_cell? _ _ c0)).trans c0; have d1 := (hb1.cell (World.block_lt_of_cell? _ _ c1)).trans c1; have d2 := (hb1.cell (World.block_lt_of_cell? _ _ c2)).trans c2; have d3 := (hb1.cell (World.block_lt_of_cell? _ _ c3)).trans c3)
                | (go_at_call 22; refine h22.mono ?_; rintro e w2 ⟨rfl, hb2⟩; have b2 := b1.trans (hb2.mono b1.size); have h20 := works_any w2 (HT.out w2 b2))
                | (go_at_call 20; refine h20.mono ?_; rintro e w3 ⟨rfl, hb3⟩))
              go_ret
              exact ⟨rfl, b2.trans (hb3.mono b2.size)⟩
        · have hii : i = L.length := by omega
          have hall : (itsOf L).take i = itsOf L := by rw [hii]; exact List.take_of_length_le (by rw [List.length_map]; exact Nat.le_refl _)
          have hU := HU.out
          have hV := HV.out
          have hx := HX.out
          rw [hall] at hU hV hx
          obtain ⟨rv, rn, hp1, hp2, hrs, hway⟩ := whole_two HGB.out fun x h => (hx x h).1
          have e1 : (U ++ ⟨#[93]⟩).data.toList = wholeG [] (itsOf L) := by
            rw [add_list, hU]
            unfold wholeG
            simp
          have e2 : (V ++ A ++ ⟨#[93]⟩ ++ A).data.toList = wholeG g (itsOf L) := by
            rw [add_list, add_list, add_list, hV, HA.out]
            unfold wholeG
            simp
          have hA20 := HGL.out
          have z1 : (U ++ ⟨#[93]⟩ : ByteArray).size ≤ 16777216 := by rw [ByteArray.size_append]; show _ + 1 ≤ _; omega
          have z2 : (V ++ A ++ ⟨#[93]⟩ ++ A : ByteArray).size ≤ 16777216 := by rw [ByteArray.size_append, ByteArray.size_append, ByteArray.size_append]; show _ + _ + 1 + _ ≤ _; omega
          have hP1 := fun V' (hV' : Below w.heap.size w V') => parse_is (v := rv) (n := rn) (S := ⟨#[]⟩) (HT.out V' hV') z1 (by rw [e1]; exact hp1) (by rw [hrs])
          have hP2 := fun V' (hV' : Below w.heap.size w V') => parse_is (v := rv) (n := rn) (S := ⟨#[]⟩) (HT.out V' hV') z2 (by rw [e2]; exact hp2) (by rw [hrs])
          have h21 := hP1 wr hB2
          have HP2 := Lib.hid hP2
          have HEQ := Lib.hid (eqV_refl rv)
          have HRS : Hid ((⟨rv.str.toArray⟩ : ByteArray) = ⟨#[]⟩) := Lib.hid (by rw [hrs])
          have q1 : ((rn : Int) == (rn : Int)) = true := by simp
          have hway2 : ((rn : Int) == 0) = true ∧ ((rv.items.length : Int) == (L.length : Int)) = true ∨ ((rn : Int) == 0) = false ∧ ((rn : Int) == 3) = true := by
            rcases hway with ⟨h1, h2⟩ | h1
            · exact .inl ⟨by rw [h1]; rfl, by rw [h2]; simp⟩
            · exact .inr ⟨by rw [h1]; rfl, by rw [h1]; rfl⟩
          clear hU hV hx hall hp1 hp2 hrs hway e1 e2 z1 z2 hP1 hP2 hii
          rcases hway2 with ⟨r1, r2⟩ | ⟨r1, r2⟩
          all_goals
            go_wp2_with (first
              | (with_reducible (show Calls _ _ _ wr _); go_at_call 21; refine h21.mono ?_; rintro e w1 ⟨kp, kc, ip, ic, rfl, hkp, _, hb1⟩
                 obtain ⟨V1, hV1⟩ : ∃ V, w1.alloc (.cells #[.int .i64 rv.kind, .string ⟨#[]⟩, .slice kp rv.keys.length kc, .slice ip rv.items.length ic] 45) = V := ⟨_, rfl⟩
                 have hv1 := alloc_b hV1
                 have b1 := hB2.trans ((Below.on hb1 hv1).mono hB2.size)
                 have HBX := Lib.hid (box_of hV1)
                 have HKP := Lib.hid (hkp.ki.stay hv1)
                 have h21b := HP2.out V1 b1
                 clear hkp)
              | (go_at_call 21; refine h21b.mono ?_; rintro e w2 ⟨kp', kc', ip', ic', rfl, hkp', _, hb2⟩
                 obtain ⟨V2, hV2⟩ : ∃ V, w2.alloc (.cells #[.int .i64 rv.kind, .string ⟨#[]⟩, .slice kp' rv.keys.length kc', .slice ip' rv.items.length ic'] 45) = V := ⟨_, rfl⟩
                 have hv2 := alloc_b hV2
                 have b12 := Below.on hb2 hv2
                 have b2 := b1.trans (b12.mono b1.size)
                 obtain ⟨c0, c1, c2, c3⟩ := HBX.out V2 b12
                 obtain ⟨d0, d1, d2, d3⟩ := box_of hV2 V2 (Below.refl _ _)
                 have h24 := equal_is (HKP.out.stay b12) (hkp'.ki.stay hv2) HRS.out HRS.out V2 (Below.refl _ _)
                 rw [HEQ.out] at h24
                 clear hkp')
              | (go_at_call 24; refine h24.mono ?_; rintro e w3 ⟨rfl, hb3⟩
                 have b3 := b2.trans (hb3.mono b2.size)
                 obtain ⟨e0, e1, e2, e3⟩ := HBX.out w3 (Below.on b12 hb3)
                 have h20 := works_any w3 (HT.out w3 b3))
              | (go_at_call 20; refine h20.mono ?_; rintro e w4 ⟨rfl, hb4⟩))
            go_ret
            exact ⟨rfl, b3.trans (hb4.mono b3.size)⟩
theorem zs_of {w : World} {q : Option Addr} {n : Nat} (hD : ∀ i, i < n → ∃ (a : Addr) (z : Int), q = some a ∧ w.cell? (a.add i) = some (.int .u8 z) ∧ 0 ≤ z ∧ z ≤ 255 ∧ a.block < w.heap.size) :
    ∃ z : Nat → Nat, ∀ i, i < n → ∃ a, q = some a ∧ w.cell? (a.add i) = some (.int .u8 (z i : Nat)) ∧ z i ≤ 255 ∧ a.block < w.heap.size := by
  have h2 : ∀ i, ∃ z : Nat, i < n → ∃ a, q = some a ∧ w.cell? (a.add i) = some (.int .u8 (z : Nat)) ∧ z ≤ 255 ∧ a.block < w.heap.size := by
    intro i
    by_cases hi : i < n
    · obtain ⟨a, z, ha, hc, h0, h1, hb⟩ := hD i hi
      obtain ⟨y, rfl⟩ : ∃ y : Nat, z = y := ⟨z.toNat, by omega⟩
      exact ⟨y, fun _ => ⟨a, ha, hc, by omega, hb⟩⟩
    · exact ⟨0, fun h => absurd h hi⟩
  exact ⟨fun i => Classical.choose (h2 i), fun i hi => Classical.choose_spec (h2 i) hi⟩
set_option maxRecDepth 100000 in
/-- the law -/
theorem blanks_walk {w : World} {p q : Option Addr} {c d n : Nat} {L : List IC} (hT : Tabs w) (hL : L.length ≤ maxLen) (hn : n ≤ maxLen) (hR : JRow w p L)
    (hD : ∀ i, i < n → ∃ (a : Addr) (z : Int), q = some a ∧ w.cell? (a.add i) = some (.int .u8 z) ∧ 0 ≤ z ∧ z ≤ 255 ∧ a.block < w.heap.size) :
    Calls Tryd.prog 10 #[.slice p L.length c, .slice q n d] w fun e w' => e = .returned (.bool true) ∧ Below w.heap.size w w' := by
  unfold maxLen at hL hn
  by_cases h1 : L.length ≤ 20
  · by_cases h2 : n ≤ 20
    · obtain ⟨z, hz⟩ := zs_of hD
      exact blanks_core z hT h1 h2 hR hz
    · have h20 := works_any w hT
      have g1 : ¬ (20 : Int) < (L.length : Int) := by omega
      have g2 : (20 : Int) < (n : Int) := by omega
      clear hR hD
      go_enter Tryd.func10, Tryd.ntmps10
      go_wp2_with (first | (go_at_call 20; refine h20.mono ?_; rintro e w2 ⟨rfl, hb2⟩))
      go_ret
      exact ⟨rfl, hb2⟩
  · have h20 := works_any w hT
    have g1 : (20 : Int) < (L.length : Int) := by omega
    clear hR hD
    go_enter Tryd.func10, Tryd.ntmps10
    go_wp2_with (first | (go_at_call 20; refine h20.mono ?_; rintro e w2 ⟨rfl, hb2⟩))
    go_ret
    exact ⟨rfl, hb2⟩
end Go.Proofs.Jt
