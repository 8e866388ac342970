/- The laws' small functions on generations. -/
import Derived.Test.YtcenfckjkboabaaGreatDoorS12
import Derived.Deep.RegionHeld3
namespace Go.Proofs.Dc
open Go.RowKit Go.Proofs Go.Lib Go.Maps

theorem suri_any (w : World) : Calls Tryz.prog 34 #[] w fun e w' => e = .returned (.string uriB) ∧ w = w' := by
  go_enter Tryz.func34, Tryz.ntmps34
  go_wp2
  go_ret
  exact ⟨rfl, rfl⟩
def wholeO (t : ByteArray) : Obj := .cells #[.bool true, .int .i64 0, .int .i64 0, .int .i64 0, .int .i64 0, .string t] 78
theorem whole_any (t : ByteArray) (w : World) : Calls Tryz.prog 37 #[.string t] w fun e w' => e = .returned (.slice (some ⟨w.heap.size, 0, none⟩) 1 1) ∧ w.alloc (wholeO t) = w' := by
  unfold wholeO
  go_enter Tryz.func37, Tryz.ntmps37
  go_wp2
  go_ret
  exact ⟨rfl, rfl⟩
def wholeX (t : ByteArray) : Chg := ⟨true, 0, 0, 0, 0, t⟩
theorem whole_at (w w1 : World) (t : ByteArray) (ht : t.size ≤ maxLen) (hb : Below (w.alloc (wholeO t)).heap.size (w.alloc (wholeO t)) w1) : ChgsAt w1 (some ⟨w.heap.size, 0, none⟩) [wholeX t] := by
  have h1 : w1.heap[w.heap.size]? = some (wholeO t) := (hb.block _ (by simp)).trans (World.alloc_heap_new w _)
  have hk := (Array.getElem?_eq_some_iff.1 h1).1
  unfold wholeO at h1
  intro i z hz
  match i, hz with
  | 0, hz =>
    obtain rfl := Option.some.inj hz
    refine ⟨_, rfl, ?_⟩
    refine ⟨?_, ?_, ?_, ?_, ?_, ?_, ht, by simpa [Addr.add] using hk⟩ <;> simp [World.cell?, Addr.add, h1, wholeX]
  | i + 1, hz => cases hz
set_option maxRecDepth 100000 in
set_option maxHeartbeats 4000000 in
theorem ssame_any (w : World) (v1 v2 : Value) (L1 L2 : List Doc) (h1 : SliceD w v1 L1) (h2 : SliceD w v2 L2) (hz : L1.length ≤ 1000000) (_hz2 : L2.length ≤ 1000000) :
    Calls Tryz.prog 30 #[v1, v2] w fun e w' => e = .returned (.bool (decide (L1 = L2))) ∧ Below w.heap.size w w' := by
  obtain ⟨p, cp, rfl, hcp, hd1⟩ := h1
  obtain ⟨q, cq, rfl, hcq, hd2⟩ := h2
  obtain ⟨R, hR⟩ : ∃ R, decide (L1 = L2) = R := ⟨_, rfl⟩
  rw [hR]
  have HR := Lib.hid hR
  clear hR
  by_cases hl : L1.length = L2.length
  · have hl0 : ((L1.length : Int) == (L2.length : Int)) = true := by rw [hl]; simp
    have H1 : Hid (∀ wr, Below w.heap.size w wr → ∀ k d, L1[k]? = some d → ∃ a, p = some a ∧ DocA wr (a.add (k * 3)) d) := Lib.hid fun wr hb k d hk => by
      obtain ⟨a, ha, hA⟩ := hd1 k d hk; exact ⟨a, ha, hA.below hb⟩
    have H2 : Hid (∀ wr, Below w.heap.size w wr → ∀ k d, L2[k]? = some d → ∃ a, q = some a ∧ DocA wr (a.add (k * 3)) d) := Lib.hid fun wr hb k d hk => by
      obtain ⟨a, ha, hA⟩ := hd2 k d hk; exact ⟨a, ha, hA.below hb⟩
    have HL := Lib.hid hl
    obtain ⟨n, hn⟩ : ∃ n, L1.length = n := ⟨_, rfl⟩
    have hn2 : L2.length = n := by omega
    simp only [hn, hn2] at hcp hcq hz ⊢
    have HN1 := Lib.hid hn
    have HN2 := Lib.hid hn2
    clear hd1 hd2 hl hn hn2 hl0
    have hl0 : ((n : Int) == (n : Int)) = true := by simp
    go_enter Tryz.func30, Tryz.ntmps30
    go_wp2
    go_loopw [5] (fun v wr => ∃ k : Nat, v = .int .i64 k ∧ k ≤ n ∧ (∀ j, j < k → L1[j]? = L2[j]?) ∧ Below w.heap.size w wr) (fun v _ => n - (RowKit.intOf v).toNat)
    case atStart => exact ⟨0, rfl, Nat.zero_le _, fun j hj => by omega, Below.refl _ _⟩
    case round =>
      obtain ⟨k, rfl, hk, hs, hB⟩ := hrel
      have HS := Lib.hid hs
      clear hs
      by_cases hkn : (k : Int) < (n : Int)
      · obtain ⟨d, hd⟩ : ∃ d, L1[k]? = some d := ⟨_, List.getElem?_eq_getElem (by have := HN1.out; omega)⟩
        obtain ⟨d', hd'⟩ : ∃ d, L2[k]? = some d := ⟨_, List.getElem?_eq_getElem (by have := HN2.out; omega)⟩
        have hBd := hB.drew
        obtain ⟨a, rfl, hA⟩ := H1.out wr hB k d hd
        obtain ⟨b, rfl, hA'⟩ := H2.out wr hB k d' hd'
        obtain ⟨c0, c1, c2⟩ := hA
        obtain ⟨e0, e1, e2⟩ := hA'
        have HD := Lib.hid hd
        have HD' := Lib.hid hd'
        clear hd hd'
        by_cases hdd : d = d'
        · subst hdd
          obtain ⟨U, hU⟩ : ∃ U : ByteArray, (⟨d.uri.toArray⟩ : ByteArray) = U := ⟨_, rfl⟩
          obtain ⟨T, hT⟩ : ∃ U : ByteArray, (⟨d.text.toArray⟩ : ByteArray) = U := ⟨_, rfl⟩
          rw [hU] at c0 e0
          rw [hT] at c1 e1
          clear hU hT
          go_wp2
          go_quiet (fail)
          go_wp2
          go_roundw
          case rel => exact ⟨k + 1, by go_num, by omega, fun j hj => by
            by_cases e : j = k
            · subst e; rw [HD.out, HD'.out]
            · exact HS.out j (by omega), below_draws hB _⟩
          case measure => simp [RowKit.intOf]; omega
        · have hfin : decide (L1 = L2) = false := decide_eq_false fun e => hdd (Option.some.inj (HD.out.symm.trans (by rw [e]; exact HD'.out)))
          obtain rfl : R = false := HR.out.symm.trans hfin
          clear hfin
          by_cases n0 : d.uri = d'.uri
          · obtain ⟨U, hU⟩ : ∃ U : ByteArray, (⟨d.uri.toArray⟩ : ByteArray) = U := ⟨_, rfl⟩
            rw [← n0, hU] at e0
            rw [hU] at c0
            clear hU
            by_cases n1 : d.text = d'.text
            · obtain ⟨T, hT⟩ : ∃ U : ByteArray, (⟨d.text.toArray⟩ : ByteArray) = U := ⟨_, rfl⟩
              rw [← n1, hT] at e1
              rw [hT] at c1
              clear hT
              have n2 : ¬ d.ver = d'.ver := fun e => hdd (by cases d; cases d'; simp_all)
              clear hdd n0 n1
              go_wp2
              go_quiet (fail)
              go_wp2
              go_ret
              exact ⟨rfl, below_draws hB _⟩
            · have n1' := list_ne n1
              obtain ⟨T, hT⟩ : ∃ U : ByteArray, (⟨d.text.toArray⟩ : ByteArray) = U := ⟨_, rfl⟩
              obtain ⟨T', hT'⟩ : ∃ U : ByteArray, (⟨d'.text.toArray⟩ : ByteArray) = U := ⟨_, rfl⟩
              rw [hT] at c1 n1'
              rw [hT'] at e1 n1'
              clear hT hT' hdd n0 n1
              go_wp2
              go_quiet (fail)
              go_wp2
              go_ret
              exact ⟨rfl, below_draws hB _⟩
          · have n0' := list_ne n0
            obtain ⟨U, hU⟩ : ∃ U : ByteArray, (⟨d.uri.toArray⟩ : ByteArray) = U := ⟨_, rfl⟩
            obtain ⟨U', hU'⟩ : ∃ U : ByteArray, (⟨d'.uri.toArray⟩ : ByteArray) = U := ⟨_, rfl⟩
            rw [hU] at c0 n0'
            rw [hU'] at e0 n0'
            clear hU hU' hdd n0
            go_wp2
            go_quiet (fail)
            go_wp2
            go_ret
            exact ⟨rfl, below_draws hB _⟩
      · have hfin : decide (L1 = L2) = true := decide_eq_true (List.ext_getElem? fun j => by
          by_cases hj : j < k
          · exact HS.out j hj
          · rw [List.getElem?_eq_none (by have := HN1.out; omega), List.getElem?_eq_none (by have := HN2.out; omega)])
        obtain rfl : R = true := HR.out.symm.trans hfin
        go_wp2
        go_ret
        exact ⟨rfl, hB⟩
  · have hfin : decide (L1 = L2) = false := decide_eq_false fun e => hl (by rw [e])
    have hl0 : ((L1.length : Int) == (L2.length : Int)) = false := beq_eq_false_iff_ne.2 (by omega)
    obtain rfl : R = false := HR.out.symm.trans hfin
    clear hd1 hd2
    go_enter Tryz.func30, Tryz.ntmps30
    go_wp2
    go_ret
    exact ⟨rfl, Below.refl _ _⟩
set_option maxRecDepth 100000 in
theorem none_any {w : World} {s m lo : Nat} {K : Nat → Bool} {now : Nat} {G : List Gen} {N : Nat} {B : Nat → Nat} {D : DataW Unit} (h : SK w s m lo K now G N B D) (hO : ∀ g ∈ G, Inv g.docs) (i : Int) (hi : wfI i) (hn : ofV K G i = none) :
    Calls Tryz.prog 32 #[.pointer (some ⟨s, 0, none⟩), .int .i64 i] w fun e w' => e = .returned (.bool true) ∧ Below w.heap.size w w' := by
  have ho := of_any h hO i hi
  rw [hn] at ho
  clear h
  go_enter Tryz.func32, Tryz.ntmps32
  go_wp2_with (first | (go_at_call 23; refine ho.mono ?_; rintro e w1 ⟨hb, ⟨_, rfl⟩ | ⟨L, v, hc, _⟩⟩; case inr => cases hc))
  go_ret
  exact ⟨rfl, hb⟩
set_option maxRecDepth 100000 in
theorem scame_any {w : World} {s m lo : Nat} {K : Nat → Bool} {now : Nat} {G : List Gen} {N : Nat} {B : Nat → Nat} {D : DataW Unit} (h : SK w s m lo K now G N B D) (i : Int) (hi : wfI i) (n : Nat) (hc : cameV K G i uriL = some n) :
    Calls Tryz.prog 35 #[.pointer (some ⟨s, 0, none⟩), .int .i64 i, .int .i64 (n : Int)] w fun e w' => e = .returned (.bool true) ∧ w = w' := by
  have ho := came_any h i hi uriB (by decide)
  rw [show uriB.data.toList = uriL from rfl, hc] at ho
  simp only [Option.getD_some, Option.isSome_some] at ho
  have hnn : ((n : Int) == (n : Int)) = true := by simp
  have hu := suri_any
  clear h hc
  generalize uriB = U at *
  go_enter Tryz.func35, Tryz.ntmps35
  go_wp2_with (first
    | (go_at_call 34; refine (hu _).mono ?_; rintro e w1 ⟨rfl, hw⟩; subst w1)
    | (go_at_call 25; refine ho.mono ?_; rintro e w1 ⟨hw, rfl⟩; subst w1))
  go_ret
  exact ⟨rfl, rfl⟩
set_option maxRecDepth 100000 in
set_option maxHeartbeats 2000000 in
theorem only_any {w : World} {s m lo : Nat} {K : Nat → Bool} {now : Nat} {G : List Gen} {N : Nat} {B : Nat → Nat} {D : DataW Unit} (h : SK w s m lo K now G N B D) (hO : ∀ g ∈ G, Inv g.docs) (i : Int) (hi : wfI i) (t : ByteArray) (v : Int) (hc : ofV K G i = some [⟨uriL, t.data.toList, v⟩]) :
    Calls Tryz.prog 65 #[.pointer (some ⟨s, 0, none⟩), .int .i64 i, .string t, .int .i64 v] w fun e w' => e = .returned (.bool true) ∧ Below w.heap.size w w' := by
  have ho := of_any h hO i hi
  rw [hc] at ho
  have hu := suri_any
  have hUL : (⟨uriL.toArray⟩ : ByteArray) = uriB := rfl
  have HU := Lib.hid hUL
  clear h hc hUL
  generalize uriB = U at *
  go_enter Tryz.func65, Tryz.ntmps65
  go_upto_region 2 with (first | (go_at_call 23; refine ho.mono ?_; rintro e w1 ⟨hb, ⟨hx, _⟩ | ⟨L, x, hx, rfl, hrow⟩⟩; case inl => cases hx))
  obtain rfl := Option.some.inj hx
  obtain ⟨p, cap, rfl, hcap, _, hdocs⟩ := row_docs hrow
  obtain ⟨a, rfl, hA⟩ := hdocs 0 _ rfl
  have hA0 : DocA w1 a ⟨uriL, t.data.toList, v⟩ := by simpa [Addr.add] using hA
  have c0 := hA0.c0
  have c1 := hA0.c1
  have c2 := hA0.c2
  have hc0 : (⟨(⟨uriL, t.data.toList, v⟩ : Doc).uri.toArray⟩ : ByteArray) = U := HU.out
  have hc1 : (⟨(⟨uriL, t.data.toList, v⟩ : Doc).text.toArray⟩ : ByteArray) = t := rfl
  rw [hc0] at c0
  rw [hc1] at c1
  simp only at c2
  have hUU : (U.toList == U.toList) = true := by simp
  have htt : (t.toList == t.toList) = true := by simp
  have hvv : (v == v) = true := by simp
  clear hdocs hA hA0 hc0 hc1 hrow ho
  have Bd := hb.drew
  go_region_held3 (fun w => w.cell? a = some (.string U) ∧ w.cell? ⟨a.block, a.off + 1, none⟩ = some (.string t) ∧ w.cell? ⟨a.block, a.off + 2, none⟩ = some (.int .i64 v)) (first | exact ⟨c0, c1, c2⟩) (first
    | (go_at_call 34; refine (hu _).mono ?_; rintro e w2 ⟨rfl, hw⟩; subst w2))
  go_wp2_with fail
  go_ret
  exact ⟨rfl, Bd⟩
end Go.Proofs.Dc
