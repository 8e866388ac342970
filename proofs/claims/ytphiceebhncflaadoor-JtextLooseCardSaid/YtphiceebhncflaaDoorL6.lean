/- JtextLoose: the walk. -/
import Derived.Test.YtphiceebhncflaaDoorJw
import Derived.Test.YtphiceebhncflaaDoorL1
import Derived.Test.YtphiceebhncflaaDoorR9
namespace Go.Proofs.Jt
open Go.RowKit Go.Proofs Go.Lib Go.Proofs.Utf

def blankAt (n : Nat) : UInt8 := blankB.data.toList.getD (n % 4) 32
theorem blankAt_blank (n : Nat) : isBlankB (blankAt n) = true := by
  have : ∀ k : Fin 4, isBlankB (blankB.data.toList.getD k.val 32) = true := by decide
  exact this ⟨n % 4, Nat.mod_lt _ (by omega)⟩
def gapL (z : Nat → Nat) (n i : Nat) : List UInt8 := if n = 0 then [] else (List.range (i % 3)).map fun k => blankAt (z ((i + k) % n))
theorem gap_blank (z : Nat → Nat) (n i : Nat) : ∀ b ∈ gapL z n i, isBlankB b = true := by
  unfold gapL
  split
  · simp
  · intro b hb
    obtain ⟨k, _, rfl⟩ := List.mem_map.1 hb
    exact blankAt_blank _
theorem gap_len (z : Nat → Nat) (n i : Nat) : (gapL z n i).length ≤ 2 := by
  unfold gapL
  split
  · simp
  · rw [List.length_map, List.length_range]; omega
theorem gap_drop (z : Nat → Nat) (n i k : Nat) (hn : n ≠ 0) (hk : k < i % 3) : (gapL z n i).drop k = blankAt (z ((i + k) % n)) :: (gapL z n i).drop (k + 1) := by
  have hl : k < (gapL z n i).length := by unfold gapL; rw [if_neg hn, List.length_map, List.length_range]; exact hk
  rw [List.drop_eq_getElem_cons hl]
  congr 1
  unfold gapL
  simp [hn]
theorem gap_end (z : Nat → Nat) (n i k : Nat) (h : n = 0 ∨ i % 3 ≤ k) : (gapL z n i).drop k = [] := by
  unfold gapL
  split
  · simp
  · rename_i hn
    apply List.drop_eq_nil_of_le
    rw [List.length_map, List.length_range]
    omega
theorem loose_cons (g : Nat → List UInt8) (l : List UInt8) (a i : Nat) (t : Tok) (T : List Tok) : loose g l a i (t :: T) = l.take (t.to_ - a) ++ (g (i + 1) ++ loose g (l.drop (t.to_ - a)) t.to_ (i + 1) T) := rfl
def restL (g : Nat → List UInt8) (l : List UInt8) (T : List Tok) (i q : Nat) : List UInt8 :=
  if i ≤ T.length then g i ++ loose g (l.drop q) q i (T.drop i) else l.drop q
theorem zs_of {w : World} {p : Option Addr} {n : Nat} (hD : ∀ i, i < n → ∃ (a : Addr) (z : Int), p = some a ∧ w.cell? (a.add i) = some (.int .u8 z) ∧ 0 ≤ z ∧ z ≤ 255 ∧ a.block < w.heap.size) (hn : 0 < n) :
    ∃ (a : Addr) (z : Nat → Nat), p = some a ∧ a.block < w.heap.size ∧ ∀ i, i < n → w.cell? (a.add i) = some (.int .u8 (z i : Nat)) ∧ z i ≤ 255 := by
  obtain ⟨a, _, ha, _, _, _, hb⟩ := hD 0 hn
  have h2 : ∀ i, ∃ z : Nat, i < n → w.cell? (a.add i) = some (.int .u8 (z : Nat)) ∧ z ≤ 255 := by
    intro i
    by_cases hi : i < n
    · obtain ⟨a', z, ha', hc, h0, h1, _⟩ := hD i hi
      rw [ha] at ha'
      cases ha'
      obtain ⟨y, rfl⟩ : ∃ y : Nat, z = y := ⟨z.toNat, by omega⟩
      exact ⟨y, fun _ => ⟨hc, by omega⟩⟩
    · exact ⟨0, fun h => absurd h hi⟩
  exact ⟨a, fun i => Classical.choose (h2 i), ha, hb, fun i hi => Classical.choose_spec (h2 i) hi⟩
set_option maxRecDepth 100000 in
set_option maxHeartbeats 2000000 in
theorem loose_pos (s0 : ByteArray) (a : Addr) (z : Nat → Nat) (n c : Nat) (w : World) (hT : Tabs w) (hs0 : s0.size ≤ 9223372036854775807) (hnm : n ≤ maxLen)
    (hn0 : 0 < n) (hab : a.block < w.heap.size) (hz : ∀ i, i < n → w.cell? (a.add i) = some (.int .u8 (z i : Nat)) ∧ z i ≤ 255) :
    Calls Tryd.prog 5 #[.string s0, .slice (some a) n c] w fun e w' => e = .returned (.bool true) ∧ Below w.heap.size w w' := by
  unfold maxLen at hnm
  have hcut := cut_any s0 w hs0
  obtain ⟨s, hs⟩ : ∃ s, s0.extract 0 (min s0.size 2000) = s := ⟨_, rfl⟩
  have hsz : s.size ≤ 2000 := by rw [← hs, ByteArray.size_extract]; omega
  rw [hs] at hcut
  have hc := tokens_any s w hT (by omega)
  clear hs
  by_cases he : (toksL s.data.toList).2.2 = 0
  · have hv : validD s.data.toList = true := by
      cases hv : validD s.data.toList with
      | true => rfl
      | false => unfold toksL at he; rw [hv] at he; cases he
    have htk : toksL s.data.toList = tt s.data.toList 0 [] := by unfold toksL; rw [hv, if_pos rfl]; rfl
    obtain ⟨R, hR⟩ : ∃ R, toksL s.data.toList = R := ⟨_, rfl⟩
    rw [hR] at hc htk he
    obtain ⟨T, pl, er⟩ := R
    simp only at hc he
    subst he
    obtain ⟨_, T', hT', hLx⟩ := Lx.of_tt _ _ _ _ _ _ (Nat.le_refl _) htk.symm
    rw [List.nil_append] at hT'
    subst hT'
    have hgb := gap_blank z n
    have hgl := gap_len z n
    obtain ⟨F, hF⟩ : ∃ F, loose (gapL z n) s.data.toList 0 0 T = F := ⟨_, rfl⟩
    have hFl : F.length ≤ 6000 := by
      have h1 := hLx.loose_len hgl 0
      have h2 := hLx.few
      rw [hF] at h1
      rw [← Lib.size_eq] at h1 h2
      omega
    have hFv : validD F = true := by rw [← hF]; exact hLx.valid hgb 0 hv
    obtain ⟨T2, hT2, hkt⟩ := hLx.loose hgb 0 0
    rw [hF] at hT2
    have hF0 : restL (gapL z n) s.data.toList T 0 0 = F := by
      unfold restL
      rw [if_pos (Nat.zero_le _), List.drop_zero, List.drop_zero, hF]
      have : gapL z n 0 = [] := by unfold gapL; split <;> simp
      rw [this, List.nil_append]
    obtain ⟨W, hW⟩ : ∃ W : ByteArray, W.data.toList = F := ⟨⟨F.toArray⟩, rfl⟩
    have hWs : W.size ≤ 6000 := by rw [Lib.size_eq, hW]; exact hFl
    have hc2 : ∀ w, Tabs w → Calls Tryd.prog 14 #[.string W] w fun e w' => ∃ v, e = .returned (.tuple #[v, .int .i64 0, .int .i64 0]) ∧ w'.ownsRow w.heap.size 32 4 v T2.length (tokCells T2) ∧ Below w.heap.size w w' := fun w hT => by
      have := tokens_any W w hT (by omega)
      have e : toksL W.data.toList = (T2, 0, 0) := by
        rw [hW]
        unfold toksL
        rw [hFv, if_pos rfl]
        exact hT2.to_tt []
      rw [e] at this
      exact this
    have hl2 : T2.length = T.length := by
      have := congrArg List.length hkt
      unfold kt at this
      rwa [List.length_map, List.length_map] at this
    have hFin : ∀ A : ByteArray, A.data.toList = F → A = W := fun A hA => by
      apply ByteArray.ext
      apply Array.toList_inj.1
      rw [hA, hW]
    have hkk : ∀ (k : Nat) (t : Tok), T[k]? = some t → ∃ t2, T2[k]? = some t2 ∧ t2.kind = t.kind ∧ t2.text = t.text := fun k t hk => by
      have h1 : (kt T2)[k]? = some (t.kind, t.text) := by rw [hkt]; unfold kt; rw [List.getElem?_map, hk]; rfl
      unfold kt at h1
      rw [List.getElem?_map] at h1
      obtain ⟨t2, h2, h3⟩ := Option.map_eq_some_iff.1 h1
      exact ⟨t2, h2, congrArg Prod.fst h3, congrArg Prod.snd h3⟩
    have hTl : T.length ≤ 2000 := by
      have h2 := hLx.few
      rw [← Lib.size_eq] at h2
      omega
    have HKK := Lib.hid hkk
    have HZ := Lib.hid hz
    have HF0 := Lib.hid hF0
    have HFin := Lib.hid hFin
    have HLx := Lib.hid hLx
    have HC2 := Lib.hid hc2
    have HL2 := Lib.hid hl2
    have HW := Lib.hid hW
    clear hFv hT2 hF htk hR hv hkt hkk hz hF0 hFin hLx hc2 hl2 hW hgb hgl
    go_enter Tryd.func5, Tryd.ntmps5
    go_wp2_with (first
      | (go_at_call 13; refine hcut.mono ?_; rintro e w1 ⟨rfl, hw⟩; subst hw)
      | (go_at_call 14; refine hc.mono ?_; rintro e w1 ⟨v, rfl, ho, hb⟩
         obtain ⟨p', cap, rfl⟩ := row_shape ho
         have hfew := toks_few ho))
    have hz1 := hb.size
    go_loopw [9, 10, 11] (fun v a i wr => ∃ (A : ByteArray) (q k : Nat), v = .string A ∧ a = .int .i64 q ∧ i = .int .i64 k ∧ k ≤ T.length + 1 ∧ q ≤ s.size ∧ A.data.toList ++ restL (gapL z n) s.data.toList T k q = F ∧ (k ≤ T.length → Lx (s.data.toList.drop q) q (T.drop k)) ∧ Below w1.heap.size w1 wr) (fun _ _ i _ => T.length + 1 - (RowKit.intOf i).toNat)
    case atStart => exact ⟨⟨#[]⟩, 0, 0, rfl, rfl, rfl, by omega, by omega, by simpa using HF0.out, fun _ => by simpa using HLx.out, Below.refl _ _⟩
    case round =>
      obtain ⟨A, q, k, rfl, rfl, rfl, hk, hq, hA, hl, hB⟩ := hrel
      have HA := Lib.hid hA
      have HL := Lib.hid hl
      have hk2 : (k : Int) ≤ 2001 := by omega
      clear hA hl
      by_cases hkn : (k : Int) ≤ (T.length : Int)
      · have hkl : k ≤ T.length := by omega
        obtain ⟨tail, htail⟩ : ∃ tail, loose (gapL z n) (s.data.toList.drop q) q k (T.drop k) = tail := ⟨_, rfl⟩
        have hA2 : A.data.toList ++ ((gapL z n k).drop 0 ++ tail) = F := by
          have h := HA.out
          unfold restL at h
          rw [if_pos hkl, htail] at h
          exact h
        have HT := Lib.hid htail
        have HA2 := Lib.hid hA2
        clear htail hA2 HA
        obtain ⟨wo, hwo⟩ : ∃ wo : World, wo = wr := ⟨_, rfl⟩
        subst hwo
        have hk3 : (k : Int) % 3 = ((k % 3 : Nat) : Int) := by omega
        have HK3 := Lib.hid hk3
        clear hk3
        go_wp2
        go_loopw [9, 12] (fun v j wq => ∃ (B : ByteArray) (c : Nat), v = .string B ∧ j = .int .i64 c ∧ c ≤ k % 3 ∧ B.data.toList ++ ((gapL z n k).drop c ++ tail) = F ∧ Below wo.heap.size wo wq) (fun _ j _ => 3 - (RowKit.intOf j).toNat)
        case atStart => exact ⟨A, 0, rfl, rfl, Nat.zero_le _, HA2.out, Below.refl _ _⟩
        case round =>
          obtain ⟨B, c, rfl, rfl, hc3, hBF, hBq⟩ := hrel
          have hBs : B.size ≤ 6000 := by
            have := congrArg List.length hBF
            rw [List.length_append, ← Lib.size_eq] at this
            omega
          have HBF := Lib.hid hBF
          have hc2' : (c : Int) ≤ 2 := by omega
          clear hBF
          have hBw := hB.trans (hBq.mono hB.size)
          by_cases hgo : c < k % 3 ∧ n ≠ 0
          · obtain ⟨hck, hn0'⟩ := hgo
            have hcl := HZ.out
            have hmod : (k + c) % n < n := Nat.mod_lt _ (by omega)
            obtain ⟨hcell, hz255⟩ := hcl _ hmod
            have hcell2 : wr.cell? (a.add ((k + c) % n)) = some (.int .u8 (z ((k + c) % n) : Nat)) := by
              rw [(hb.trans (hBw.mono hz1)).cell (by unfold Addr.add; split <;> exact hab)]; exact hcell
            have hnew : (B ++ blankB.extract (z ((k + c) % n) % 4) (z ((k + c) % n) % 4 + 1)).data.toList ++ ((gapL z n k).drop (c + 1) ++ tail) = F := by
              rw [append_list, ← HBF.out, gap_drop z n k c hn0' hck]
              have : (blankB.extract (z ((k + c) % n) % 4) (z ((k + c) % n) % 4 + 1)).data.toList = [blankAt (z ((k + c) % n))] := by
                have h4 : ∀ m : Fin 4, (blankB.extract m.val (m.val + 1)).data.toList = [blankB.data.toList.getD m.val 32] := by decide +kernel
                exact h4 ⟨z ((k + c) % n) % 4, Nat.mod_lt _ (by omega)⟩
              rw [this]
              simp
            have HNEW := Lib.hid hnew
            have e3 : (0 : Int) < (n : Int) := by omega
            have e7 : ((n : Int) == 0) = false := by simp; omega
            have e1 : (c : Int) < (k : Int) % 3 := by omega
            obtain ⟨r, hr⟩ : ∃ r, (k + c) % n = r := ⟨_, rfl⟩
            have e4 : ((k : Int) + (c : Int)) % n = (r : Int) := by rw [← hr]; rfl
            rw [hr] at hmod hcell2 HNEW hz255
            have e5 : decide (0 < n) = true := by simp; omega
            obtain ⟨y, hy⟩ : ∃ y, z r = y := ⟨_, rfl⟩
            rw [hy] at hcell2 HNEW hz255
            obtain ⟨m, hm⟩ : ∃ m, y % 4 = m := ⟨_, rfl⟩
            rw [hm] at HNEW
            have e6 : ((y : Int)) % 4 = (m : Int) := by omega
            have hm4 : (m : Int) ≤ 3 := by omega
            clear hm
            unfold blankB at HNEW
            clear hcell hcl hnew hy hn0' hr
            go_wp2
            go_roundw
            case rel => exact ⟨_, c + 1, rfl, by go_num, by omega, HNEW.out, hBq⟩
            case measure => simp [RowKit.intOf]; omega
          · have hend : (gapL z n k).drop c = [] := gap_end z n k c (by
              by_cases h0 : n = 0
              · exact .inl h0
              · right
                by_cases h1 : c < k % 3
                · exact absurd ⟨h1, h0⟩ hgo
                · omega)
            have hBt : B.data.toList ++ tail = F := by
              have h := HBF.out
              rw [hend, List.nil_append] at h
              exact h
            have HBT := Lib.hid hBt
            clear hend hBt HBF
            have hways : (∃ h : c < k % 3, n = 0) ∨ ¬ c < k % 3 := by
              by_cases h1 : c < k % 3
              · left
                by_cases h0 : n = 0
                · exact ⟨h1, h0⟩
                · exact absurd ⟨h1, h0⟩ hgo
              · exact .inr h1
            clear hgo
            by_cases hkt : k < T.length
            · obtain ⟨t, ht⟩ : ∃ t, T[k]? = some t := ⟨_, List.getElem?_eq_getElem hkt⟩
              have hd : T.drop k = t :: T.drop (k + 1) := by
                rw [List.drop_eq_getElem_cons hkt]
                rw [List.getElem?_eq_getElem hkt] at ht
                rw [Option.some.inj ht]
              have hlx := HL.out hkl
              rw [hd] at hlx
              obtain ⟨x1, x2, x3, x4⟩ := hlx.cons
              rw [List.drop_drop, show q + (t.to_ - q) = t.to_ by omega] at x4
              rw [List.length_drop, ← Lib.size_eq] at x3
              have hnew : (B ++ s.extract q t.to_).data.toList ++ restL (gapL z n) s.data.toList T (k + 1) t.to_ = F := by
                rw [append_list, ← HBT.out, ← HT.out, hd]
                unfold restL
                rw [if_pos (by omega), loose_cons, List.drop_drop, show q + (t.to_ - q) = t.to_ by omega, Lib.extract_data, List.append_assoc]
              obtain ⟨g, cap', hv, hcap, hcell⟩ := toks_at ho (by omega)
              cases hv
              obtain ⟨c0, c1, c2, c3, hg⟩ := hcell k t ht
              have a2 := (hBw.cell (p := ⟨g, k * 4 + 2, none⟩) hg).trans c2
              have a3 := (hBw.cell (p := ⟨g, k * 4 + 3, none⟩) hg).trans c3
              have HNEW := Lib.hid hnew
              have HX4 := Lib.hid x4
              have d1 : decide (t.fr < q) = false := by simp; omega
              have d2 : decide (s.size < t.to_) = false := by simp; omega
              have d3 : decide (t.to_ < t.fr) = false := by simp; omega
              have b1 : (q : Int) ≤ (t.to_ : Int) := by omega
              have b2 : (t.to_ : Int) ≤ (s.size : Int) := by omega
              have e8 : (k : Int) < (T.length : Int) := by omega
              clear c0 c1 c2 c3 hcell hnew x4 hd hlx ht HT HL HA2 HBT
              rcases hways with ⟨h1, h0⟩ | h1
              · exact absurd hn0 (by omega)
              · have e1 : ¬ (c : Int) < (k : Int) % 3 := by omega
                go_wp2
                go_big_quiet (fail)
                go_wp2
                go_roundw
                case rel => exact ⟨_, t.to_, k + 1, rfl, rfl, by go_num, by omega, by omega, HNEW.out, fun _ => HX4.out, below_draws hBw _⟩
                case measure => simp [RowKit.intOf]; omega
            · have hd : T.drop k = [] := List.drop_eq_nil_of_le (by omega)
              have hnew : B.data.toList ++ restL (gapL z n) s.data.toList T (k + 1) q = F := by
                rw [← HBT.out, ← HT.out, hd]
                unfold restL
                rw [if_neg (by omega)]
                rfl
              have HNEW := Lib.hid hnew
              have e8 : ¬ (k : Int) < (T.length : Int) := by omega
              clear hnew hd HT HL HA2 HBT
              rcases hways with ⟨h1, h0⟩ | h1
              · exact absurd hn0 (by omega)
              · have e1 : ¬ (c : Int) < (k : Int) % 3 := by omega
                go_wp2
                go_roundw
                case rel => exact ⟨_, q, k + 1, rfl, rfl, by go_num, by omega, by omega, HNEW.out, fun h => absurd h (by omega), hBw⟩
                case measure => simp [RowKit.intOf]; omega
      · have hAW : A ++ s.extract q s.size = W := by
          refine HFin.out _ ?_
          have h := HA.out
          unfold restL at h
          rw [if_neg (by omega)] at h
          rw [append_list, Lib.extract_to_end]
          exact h
        have hAs : A.size ≤ 6000 := by
          have h := congrArg ByteArray.size hAW
          rw [ByteArray.size_append] at h
          omega
        have hl2 := HL2.out
        have HAW := Lib.hid hAW
        have hcW : ∀ w, Tabs w → Calls Tryd.prog 14 #[.string (A ++ s.extract q s.size)] w fun e w' => ∃ v, e = .returned (.tuple #[v, .int .i64 0, .int .i64 0]) ∧ w'.ownsRow w.heap.size 32 4 v T2.length (tokCells T2) ∧ Below w.heap.size w w' := by
          rw [hAW]; exact HC2.out
        have hbr := hb.trans (hB.mono hz1)
        have hTr := hT.below hbr
        have b1 : (q : Int) ≤ (s.size : Int) := by omega
        clear hAW HA HL hc
        go_wp2_with (first
          | (go_at_call 14; refine (hcW _ hTr).mono ?_; rintro e w3 ⟨v, rfl, ho3, hb3⟩
             obtain ⟨p3, cap3, rfl⟩ := row_shape ho3))
        have hz3 := hbr.size
        have hbr3 := hbr.trans (hb3.mono hz3)
        have hB3 : Below w1.heap.size w1 w3 := hB.trans (hb3.mono hB.size)
        go_loopw [17] (fun i wq => ∃ k : Nat, i = .int .i64 k ∧ k ≤ T.length ∧ Below w3.heap.size w3 wq) (fun i _ => T.length - (RowKit.intOf i).toNat)
        case atStart => exact ⟨0, rfl, Nat.zero_le _, Below.refl _ _⟩
        case round =>
          obtain ⟨k, rfl, hk, hBq⟩ := hrel
          have hBB := hB3.trans (hBq.mono hB3.size)
          by_cases hkn : (k : Int) < (T.length : Int)
          · have hkt : k < T.length := by omega
            obtain ⟨t, ht⟩ : ∃ t, T[k]? = some t := ⟨_, List.getElem?_eq_getElem hkt⟩
            obtain ⟨t2, ht2, hk1, hk2⟩ := HKK.out k t ht
            obtain ⟨g, cap', hv, hcap, hcell⟩ := toks_at ho (by omega)
            cases hv
            obtain ⟨g2, cap2', hv2, hcap2, hcell2⟩ := toks_at ho3 (by omega)
            cases hv2
            obtain ⟨c0, c1, c2, c3, hg⟩ := hcell k t ht
            obtain ⟨f0, f1, f2, f3, hg2⟩ := hcell2 k t2 ht2
            have a0 := (hBB.cell (p := ⟨g, k * 4, none⟩) hg).trans c0
            have a1 := (hBB.cell (p := ⟨g, k * 4 + 1, none⟩) hg).trans c1
            have b0 := (hBq.cell (p := ⟨g2, k * 4, none⟩) hg2).trans f0
            have b2 := (hBq.cell (p := ⟨g2, k * 4 + 1, none⟩) hg2).trans f1
            rw [hk1] at b0
            rw [hk2] at b2
            have e9 : k < T2.length := by omega
            have HL2' := Lib.hid hl2
            clear c0 c1 c2 c3 f0 f1 f2 f3 hcell hcell2 ht ht2 hk1 hk2 hl2
            go_wp2
            go_big_quiet (fail)
            go_wp2
            go_roundw
            case rel => exact ⟨k + 1, by go_num, by omega, below_draws hBq _⟩
            case measure => simp [RowKit.intOf]; omega
          · have hbq := hbr3.trans (hBq.mono hbr3.size)
            clear ho ho3
            go_wp2_with (first
              | (go_at_call 16; refine (awake_any _ (hT.below hbq)).mono ?_; rintro e w4 ⟨rfl, hb4⟩))
            go_ret
            exact ⟨rfl, hbq.trans (hb4.mono hbq.size)⟩
  · have e1 : (((toksL s.data.toList).2.2 : Int) != 0) = true := by simp; omega
    obtain ⟨R, hR⟩ : ∃ R, toksL s.data.toList = R := ⟨_, rfl⟩
    rw [hR] at hc e1
    obtain ⟨T, pl, er⟩ := R
    simp only at hc e1
    clear hR he
    go_enter Tryd.func5, Tryd.ntmps5
    go_wp2_with (first
      | (go_at_call 13; refine hcut.mono ?_; rintro e w1 ⟨rfl, hw⟩; subst hw)
      | (go_at_call 14; refine hc.mono ?_; rintro e w1 ⟨v, rfl, ho, hb⟩)
      | (go_at_call 16; refine (awake_any _ (hT.below hb)).mono ?_; rintro e w4 ⟨rfl, hb4⟩))
    go_ret
    exact ⟨rfl, hb.trans (hb4.mono hb.size)⟩
set_option maxRecDepth 100000 in
set_option maxHeartbeats 2000000 in
theorem loose_zero (s0 : ByteArray) (p : Option Addr) (n c : Nat) (w : World) (hT : Tabs w) (hs0 : s0.size ≤ 9223372036854775807) (hnm : n ≤ maxLen)
    (h0n : n = 0) :
    Calls Tryd.prog 5 #[.string s0, .slice p n c] w fun e w' => e = .returned (.bool true) ∧ Below w.heap.size w w' := by
  unfold maxLen at hnm
  have hcut := cut_any s0 w hs0
  obtain ⟨s, hs⟩ : ∃ s, s0.extract 0 (min s0.size 2000) = s := ⟨_, rfl⟩
  have hsz : s.size ≤ 2000 := by rw [← hs, ByteArray.size_extract]; omega
  rw [hs] at hcut
  have hc := tokens_any s w hT (by omega)
  clear hs
  by_cases he : (toksL s.data.toList).2.2 = 0
  · have hv : validD s.data.toList = true := by
      cases hv : validD s.data.toList with
      | true => rfl
      | false => unfold toksL at he; rw [hv] at he; cases he
    have htk : toksL s.data.toList = tt s.data.toList 0 [] := by unfold toksL; rw [hv, if_pos rfl]; rfl
    obtain ⟨R, hR⟩ : ∃ R, toksL s.data.toList = R := ⟨_, rfl⟩
    rw [hR] at hc htk he
    obtain ⟨T, pl, er⟩ := R
    simp only at hc he
    subst he
    obtain ⟨_, T', hT', hLx⟩ := Lx.of_tt _ _ _ _ _ _ (Nat.le_refl _) htk.symm
    rw [List.nil_append] at hT'
    subst hT'
    obtain ⟨z, hz⟩ : ∃ z : Nat → Nat, z = fun _ => 0 := ⟨_, rfl⟩
    have H0N := Lib.hid h0n
    clear h0n
    have hgb := gap_blank z n
    have hgl := gap_len z n
    obtain ⟨F, hF⟩ : ∃ F, loose (gapL z n) s.data.toList 0 0 T = F := ⟨_, rfl⟩
    have hFl : F.length ≤ 6000 := by
      have h1 := hLx.loose_len hgl 0
      have h2 := hLx.few
      rw [hF] at h1
      rw [← Lib.size_eq] at h1 h2
      omega
    have hFv : validD F = true := by rw [← hF]; exact hLx.valid hgb 0 hv
    obtain ⟨T2, hT2, hkt⟩ := hLx.loose hgb 0 0
    rw [hF] at hT2
    have hF0 : restL (gapL z n) s.data.toList T 0 0 = F := by
      unfold restL
      rw [if_pos (Nat.zero_le _), List.drop_zero, List.drop_zero, hF]
      have : gapL z n 0 = [] := by unfold gapL; split <;> simp
      rw [this, List.nil_append]
    obtain ⟨W, hW⟩ : ∃ W : ByteArray, W.data.toList = F := ⟨⟨F.toArray⟩, rfl⟩
    have hWs : W.size ≤ 6000 := by rw [Lib.size_eq, hW]; exact hFl
    have hc2 : ∀ w, Tabs w → Calls Tryd.prog 14 #[.string W] w fun e w' => ∃ v, e = .returned (.tuple #[v, .int .i64 0, .int .i64 0]) ∧ w'.ownsRow w.heap.size 32 4 v T2.length (tokCells T2) ∧ Below w.heap.size w w' := fun w hT => by
      have := tokens_any W w hT (by omega)
      have e : toksL W.data.toList = (T2, 0, 0) := by
        rw [hW]
        unfold toksL
        rw [hFv, if_pos rfl]
        exact hT2.to_tt []
      rw [e] at this
      exact this
    have hl2 : T2.length = T.length := by
      have := congrArg List.length hkt
      unfold kt at this
      rwa [List.length_map, List.length_map] at this
    have hFin : ∀ A : ByteArray, A.data.toList = F → A = W := fun A hA => by
      apply ByteArray.ext
      apply Array.toList_inj.1
      rw [hA, hW]
    have hkk : ∀ (k : Nat) (t : Tok), T[k]? = some t → ∃ t2, T2[k]? = some t2 ∧ t2.kind = t.kind ∧ t2.text = t.text := fun k t hk => by
      have h1 : (kt T2)[k]? = some (t.kind, t.text) := by rw [hkt]; unfold kt; rw [List.getElem?_map, hk]; rfl
      unfold kt at h1
      rw [List.getElem?_map] at h1
      obtain ⟨t2, h2, h3⟩ := Option.map_eq_some_iff.1 h1
      exact ⟨t2, h2, congrArg Prod.fst h3, congrArg Prod.snd h3⟩
    have hTl : T.length ≤ 2000 := by
      have h2 := hLx.few
      rw [← Lib.size_eq] at h2
      omega
    have HKK := Lib.hid hkk
    have HZ := Lib.hid hz
    have HF0 := Lib.hid hF0
    have HFin := Lib.hid hFin
    have HLx := Lib.hid hLx
    have HC2 := Lib.hid hc2
    have HL2 := Lib.hid hl2
    have HW := Lib.hid hW
    clear hFv hT2 hF htk hR hv hkt hkk hz hF0 hFin hLx hc2 hl2 hW hgb hgl
    go_enter Tryd.func5, Tryd.ntmps5
    go_wp2_with (first
      | (go_at_call 13; refine hcut.mono ?_; rintro e w1 ⟨rfl, hw⟩; subst hw)
      | (go_at_call 14; refine hc.mono ?_; rintro e w1 ⟨v, rfl, ho, hb⟩
         obtain ⟨p', cap, rfl⟩ := row_shape ho
         have hfew := toks_few ho))
    have hz1 := hb.size
    go_loopw [9, 10, 11] (fun v a i wr => ∃ (A : ByteArray) (q k : Nat), v = .string A ∧ a = .int .i64 q ∧ i = .int .i64 k ∧ k ≤ T.length + 1 ∧ q ≤ s.size ∧ A.data.toList ++ restL (gapL z n) s.data.toList T k q = F ∧ (k ≤ T.length → Lx (s.data.toList.drop q) q (T.drop k)) ∧ Below w1.heap.size w1 wr) (fun _ _ i _ => T.length + 1 - (RowKit.intOf i).toNat)
    case atStart => exact ⟨⟨#[]⟩, 0, 0, rfl, rfl, rfl, by omega, by omega, by simpa using HF0.out, fun _ => by simpa using HLx.out, Below.refl _ _⟩
    case round =>
      obtain ⟨A, q, k, rfl, rfl, rfl, hk, hq, hA, hl, hB⟩ := hrel
      have HA := Lib.hid hA
      have HL := Lib.hid hl
      have hk2 : (k : Int) ≤ 2001 := by omega
      clear hA hl
      by_cases hkn : (k : Int) ≤ (T.length : Int)
      · have hkl : k ≤ T.length := by omega
        obtain ⟨tail, htail⟩ : ∃ tail, loose (gapL z n) (s.data.toList.drop q) q k (T.drop k) = tail := ⟨_, rfl⟩
        have hA2 : A.data.toList ++ ((gapL z n k).drop 0 ++ tail) = F := by
          have h := HA.out
          unfold restL at h
          rw [if_pos hkl, htail] at h
          exact h
        have HT := Lib.hid htail
        have HA2 := Lib.hid hA2
        clear htail hA2 HA
        obtain ⟨wo, hwo⟩ : ∃ wo : World, wo = wr := ⟨_, rfl⟩
        subst hwo
        have hk3 : (k : Int) % 3 = ((k % 3 : Nat) : Int) := by omega
        have HK3 := Lib.hid hk3
        clear hk3
        go_wp2
        go_loopw [9, 12] (fun v j wq => ∃ (B : ByteArray) (c : Nat), v = .string B ∧ j = .int .i64 c ∧ c ≤ k % 3 ∧ B.data.toList ++ ((gapL z n k).drop c ++ tail) = F ∧ Below wo.heap.size wo wq) (fun _ j _ => 3 - (RowKit.intOf j).toNat)
        case atStart => exact ⟨A, 0, rfl, rfl, Nat.zero_le _, HA2.out, Below.refl _ _⟩
        case round =>
          obtain ⟨B, c, rfl, rfl, hc3, hBF, hBq⟩ := hrel
          have hBs : B.size ≤ 6000 := by
            have := congrArg List.length hBF
            rw [List.length_append, ← Lib.size_eq] at this
            omega
          have HBF := Lib.hid hBF
          have hc2' : (c : Int) ≤ 2 := by omega
          clear hBF
          have hBw := hB.trans (hBq.mono hB.size)
          by_cases hgo : c < k % 3 ∧ n ≠ 0
          · exact absurd H0N.out hgo.2
          · have hend : (gapL z n k).drop c = [] := gap_end z n k c (by
              by_cases h0 : n = 0
              · exact .inl h0
              · right
                by_cases h1 : c < k % 3
                · exact absurd ⟨h1, h0⟩ hgo
                · omega)
            have hBt : B.data.toList ++ tail = F := by
              have h := HBF.out
              rw [hend, List.nil_append] at h
              exact h
            have HBT := Lib.hid hBt
            clear hend hBt HBF
            have hways : (∃ h : c < k % 3, n = 0) ∨ ¬ c < k % 3 := by
              by_cases h1 : c < k % 3
              · left
                by_cases h0 : n = 0
                · exact ⟨h1, h0⟩
                · exact absurd ⟨h1, h0⟩ hgo
              · exact .inr h1
            clear hgo
            by_cases hkt : k < T.length
            · obtain ⟨t, ht⟩ : ∃ t, T[k]? = some t := ⟨_, List.getElem?_eq_getElem hkt⟩
              have hd : T.drop k = t :: T.drop (k + 1) := by
                rw [List.drop_eq_getElem_cons hkt]
                rw [List.getElem?_eq_getElem hkt] at ht
                rw [Option.some.inj ht]
              have hlx := HL.out hkl
              rw [hd] at hlx
              obtain ⟨x1, x2, x3, x4⟩ := hlx.cons
              rw [List.drop_drop, show q + (t.to_ - q) = t.to_ by omega] at x4
              rw [List.length_drop, ← Lib.size_eq] at x3
              have hnew : (B ++ s.extract q t.to_).data.toList ++ restL (gapL z n) s.data.toList T (k + 1) t.to_ = F := by
                rw [append_list, ← HBT.out, ← HT.out, hd]
                unfold restL
                rw [if_pos (by omega), loose_cons, List.drop_drop, show q + (t.to_ - q) = t.to_ by omega, Lib.extract_data, List.append_assoc]
              obtain ⟨g, cap', hv, hcap, hcell⟩ := toks_at ho (by omega)
              cases hv
              obtain ⟨c0, c1, c2, c3, hg⟩ := hcell k t ht
              have a2 := (hBw.cell (p := ⟨g, k * 4 + 2, none⟩) hg).trans c2
              have a3 := (hBw.cell (p := ⟨g, k * 4 + 3, none⟩) hg).trans c3
              have HNEW := Lib.hid hnew
              have HX4 := Lib.hid x4
              have d1 : decide (t.fr < q) = false := by simp; omega
              have d2 : decide (s.size < t.to_) = false := by simp; omega
              have d3 : decide (t.to_ < t.fr) = false := by simp; omega
              have b1 : (q : Int) ≤ (t.to_ : Int) := by omega
              have b2 : (t.to_ : Int) ≤ (s.size : Int) := by omega
              have e8 : (k : Int) < (T.length : Int) := by omega
              clear c0 c1 c2 c3 hcell hnew x4 hd hlx ht HT HL HA2 HBT
              rcases hways with ⟨h1, h0⟩ | h1
              · have e1 : (c : Int) < (k : Int) % 3 := by omega
                have e2 : decide (0 < n) = false := by simp; omega
                have H0 := Lib.hid h0
                clear h0
                go_wp2
                go_big_quiet (fail)
                go_wp2
                go_roundw
                case rel => exact ⟨_, t.to_, k + 1, rfl, rfl, by go_num, by omega, by omega, HNEW.out, fun _ => HX4.out, below_draws hBw _⟩
                case measure => simp [RowKit.intOf]; omega
              · have e1 : ¬ (c : Int) < (k : Int) % 3 := by omega
                go_wp2
                go_big_quiet (fail)
                go_wp2
                go_roundw
                case rel => exact ⟨_, t.to_, k + 1, rfl, rfl, by go_num, by omega, by omega, HNEW.out, fun _ => HX4.out, below_draws hBw _⟩
                case measure => simp [RowKit.intOf]; omega
            · have hd : T.drop k = [] := List.drop_eq_nil_of_le (by omega)
              have hnew : B.data.toList ++ restL (gapL z n) s.data.toList T (k + 1) q = F := by
                rw [← HBT.out, ← HT.out, hd]
                unfold restL
                rw [if_neg (by omega)]
                rfl
              have HNEW := Lib.hid hnew
              have e8 : ¬ (k : Int) < (T.length : Int) := by omega
              clear hnew hd HT HL HA2 HBT
              rcases hways with ⟨h1, h0⟩ | h1
              · have e1 : (c : Int) < (k : Int) % 3 := by omega
                have e2 : decide (0 < n) = false := by simp; omega
                have H0 := Lib.hid h0
                clear h0
                go_wp2
                go_roundw
                case rel => exact ⟨_, q, k + 1, rfl, rfl, by go_num, by omega, by omega, HNEW.out, fun h => absurd h (by omega), hBw⟩
                case measure => simp [RowKit.intOf]; omega
              · have e1 : ¬ (c : Int) < (k : Int) % 3 := by omega
                go_wp2
                go_roundw
                case rel => exact ⟨_, q, k + 1, rfl, rfl, by go_num, by omega, by omega, HNEW.out, fun h => absurd h (by omega), hBw⟩
                case measure => simp [RowKit.intOf]; omega
      · have hAW : A ++ s.extract q s.size = W := by
          refine HFin.out _ ?_
          have h := HA.out
          unfold restL at h
          rw [if_neg (by omega)] at h
          rw [append_list, Lib.extract_to_end]
          exact h
        have hAs : A.size ≤ 6000 := by
          have h := congrArg ByteArray.size hAW
          rw [ByteArray.size_append] at h
          omega
        have hl2 := HL2.out
        have HAW := Lib.hid hAW
        have hcW : ∀ w, Tabs w → Calls Tryd.prog 14 #[.string (A ++ s.extract q s.size)] w fun e w' => ∃ v, e = .returned (.tuple #[v, .int .i64 0, .int .i64 0]) ∧ w'.ownsRow w.heap.size 32 4 v T2.length (tokCells T2) ∧ Below w.heap.size w w' := by
          rw [hAW]; exact HC2.out
        have hbr := hb.trans (hB.mono hz1)
        have hTr := hT.below hbr
        have b1 : (q : Int) ≤ (s.size : Int) := by omega
        clear hAW HA HL hc
        go_wp2_with (first
          | (go_at_call 14; refine (hcW _ hTr).mono ?_; rintro e w3 ⟨v, rfl, ho3, hb3⟩
             obtain ⟨p3, cap3, rfl⟩ := row_shape ho3))
        have hz3 := hbr.size
        have hbr3 := hbr.trans (hb3.mono hz3)
        have hB3 : Below w1.heap.size w1 w3 := hB.trans (hb3.mono hB.size)
        go_loopw [17] (fun i wq => ∃ k : Nat, i = .int .i64 k ∧ k ≤ T.length ∧ Below w3.heap.size w3 wq) (fun i _ => T.length - (RowKit.intOf i).toNat)
        case atStart => exact ⟨0, rfl, Nat.zero_le _, Below.refl _ _⟩
        case round =>
          obtain ⟨k, rfl, hk, hBq⟩ := hrel
          have hBB := hB3.trans (hBq.mono hB3.size)
          by_cases hkn : (k : Int) < (T.length : Int)
          · have hkt : k < T.length := by omega
            obtain ⟨t, ht⟩ : ∃ t, T[k]? = some t := ⟨_, List.getElem?_eq_getElem hkt⟩
            obtain ⟨t2, ht2, hk1, hk2⟩ := HKK.out k t ht
            obtain ⟨g, cap', hv, hcap, hcell⟩ := toks_at ho (by omega)
            cases hv
            obtain ⟨g2, cap2', hv2, hcap2, hcell2⟩ := toks_at ho3 (by omega)
            cases hv2
            obtain ⟨c0, c1, c2, c3, hg⟩ := hcell k t ht
            obtain ⟨f0, f1, f2, f3, hg2⟩ := hcell2 k t2 ht2
            have a0 := (hBB.cell (p := ⟨g, k * 4, none⟩) hg).trans c0
            have a1 := (hBB.cell (p := ⟨g, k * 4 + 1, none⟩) hg).trans c1
            have b0 := (hBq.cell (p := ⟨g2, k * 4, none⟩) hg2).trans f0
            have b2 := (hBq.cell (p := ⟨g2, k * 4 + 1, none⟩) hg2).trans f1
            rw [hk1] at b0
            rw [hk2] at b2
            have e9 : k < T2.length := by omega
            have HL2' := Lib.hid hl2
            clear c0 c1 c2 c3 f0 f1 f2 f3 hcell hcell2 ht ht2 hk1 hk2 hl2
            go_wp2
            go_big_quiet (fail)
            go_wp2
            go_roundw
            case rel => exact ⟨k + 1, by go_num, by omega, below_draws hBq _⟩
            case measure => simp [RowKit.intOf]; omega
          · have hbq := hbr3.trans (hBq.mono hbr3.size)
            clear ho ho3
            go_wp2_with (first
              | (go_at_call 16; refine (awake_any _ (hT.below hbq)).mono ?_; rintro e w4 ⟨rfl, hb4⟩))
            go_ret
            exact ⟨rfl, hbq.trans (hb4.mono hbq.size)⟩
  · have e1 : (((toksL s.data.toList).2.2 : Int) != 0) = true := by simp; omega
    obtain ⟨R, hR⟩ : ∃ R, toksL s.data.toList = R := ⟨_, rfl⟩
    rw [hR] at hc e1
    obtain ⟨T, pl, er⟩ := R
    simp only at hc e1
    clear hR he
    go_enter Tryd.func5, Tryd.ntmps5
    go_wp2_with (first
      | (go_at_call 13; refine hcut.mono ?_; rintro e w1 ⟨rfl, hw⟩; subst hw)
      | (go_at_call 14; refine hc.mono ?_; rintro e w1 ⟨v, rfl, ho, hb⟩)
      | (go_at_call 16; refine (awake_any _ (hT.below hb)).mono ?_; rintro e w4 ⟨rfl, hb4⟩))
    go_ret
    exact ⟨rfl, hb.trans (hb4.mono hb.size)⟩
/-- the law, whatever the text and the blanks -/
theorem loose_walk (s0 : ByteArray) (p : Option Addr) (n c : Nat) (w : World) (hT : Tabs w) (hs0 : s0.size ≤ 9223372036854775807) (hnm : n ≤ maxLen)
    (hD : ∀ i, i < n → ∃ (a : Addr) (z : Int), p = some a ∧ w.cell? (a.add i) = some (.int .u8 z) ∧ 0 ≤ z ∧ z ≤ 255 ∧ a.block < w.heap.size) :
    Calls Tryd.prog 5 #[.string s0, .slice p n c] w fun e w' => e = .returned (.bool true) ∧ Below w.heap.size w w' := by
  by_cases hn : 0 < n
  · obtain ⟨a, z, rfl, hab, hz⟩ := zs_of hD hn
    exact loose_pos s0 a z n c w hT hs0 hnm hn hab hz
  · exact loose_zero s0 p n c w hT hs0 hnm (by omega)
end Go.Proofs.Jt
