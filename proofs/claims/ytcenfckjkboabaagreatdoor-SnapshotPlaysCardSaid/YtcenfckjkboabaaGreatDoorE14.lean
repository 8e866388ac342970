/- The laws' alike: both tell the same documents. -/
import Derived.Test.YtcenfckjkboabaaGreatDoorE13
namespace Go.Proofs.Dc
open Go.RowKit Go.Proofs Go.Lib Go.Maps

def emptyC : List Value := [.string ⟨#[]⟩, .string ⟨#[]⟩, .int .i64 0]
theorem empty_one : ∀ v ∈ emptyC, v.oneCell' = true := by
  intro v hv
  simp only [emptyC, List.mem_cons, List.not_mem_nil, or_false] at hv
  rcases hv with rfl | rfl | rfl <;> rfl
set_option maxRecDepth 100000 in
set_option maxHeartbeats 8000000 in
theorem alike_any (w : World) (B b M r : Nat) (v : Value) (L : List Doc) (h : Two B w b M r v L L) (hInv : Inv L) (u : ByteArray) (hu : u.size ≤ 1000000) :
    Calls Tryz.prog 15 #[.pointer (some ⟨b, 0, none⟩), .pointer (some ⟨r, 0, none⟩), .string u] w fun e w' => e = .returned (.bool true) ∧ Below w.heap.size w w' := by
  have hall := fun w1 (hb : Below w.heap.size w w1) => all_any w1 b M L (h.dv.below hb) hInv.ord (by have := hInv.len; omega)
  have hrv := fun w1 (hb : Below w.heap.size w w1) => h.rv.below hb
  have hlen := hInv.len
  obtain ⟨p, cap, rfl, hcap, _⟩ := h.rv.docs
  have hrs := fun w1 (hb : Below w.heap.size w w1) => (hrv w1 hb).slice
  have hcell := fun w1 (hb : Below w.heap.size w w1) => (hrv w1 hb).cell
  have hsame := fun w1 v1 (h1 : SliceD w1 v1 L) (hb : Below w.heap.size w w1) => same_any w1 v1 _ L L h1 (hrs w1 hb) (by omega) (by omega)
  simp only [decide_true] at hsame
  have hget := fun w1 (hb : Below w.heap.size w w1) => get_any w1 b M L (h.dv.below hb) u (by unfold maxLen; omega)
  have hrget := fun w1 (hb : Below w.heap.size w w1) => refGet_any w1 r B _ L (hrv w1 hb) u (by omega)
  obtain ⟨D, hD⟩ : ∃ D, (getD? L u.data.toList).getD doc0 = D := ⟨_, rfl⟩
  obtain ⟨ok, hok⟩ : ∃ o, (getD? L u.data.toList).isSome = o := ⟨_, rfl⟩
  simp only [hD, hok, docVal] at hget hrget
  obtain ⟨A1, hA1⟩ : ∃ A : ByteArray, (⟨D.uri.toArray⟩ : ByteArray) = A := ⟨_, rfl⟩
  obtain ⟨A2, hA2⟩ : ∃ A : ByteArray, (⟨D.text.toArray⟩ : ByteArray) = A := ⟨_, rfl⟩
  simp only [hA1, hA2] at hget hrget
  generalize D.ver = A3 at *
  have HALL := Lib.hid hall
  have HSAME := Lib.hid hsame
  have HGET := Lib.hid hget
  have HRGET := Lib.hid hrget
  have HCELL := Lib.hid hcell
  have hc0 := hcell w (Below.refl _ _)
  clear hall hrv hrs hcell hsame hget hrget hD hok hA1 hA2 h
  go_enter Tryz.func15, Tryz.ntmps15
  go_upto_region 4 with (first
    | (go_at_call 59; refine (HALL.out _ (Below.refl _ _)).mono ?_; rintro e w1 ⟨v1, rfl, hrow1, hb1⟩; obtain ⟨p1, c1, rfl⟩ := own_shape hrow1; have hcc := HCELL.out _ hb1; have HS1 := Lib.hid (own_slice hrow1))
    | (go_at_call 60; refine (HSAME.out _ _ HS1.out hb1).mono ?_; rintro e w2 ⟨rfl, hb2⟩))
  have B2 := hb1.trans (hb2.mono hb1.size)
  have hrow2 : w2.ownsRow w.heap.size 53 3 (.slice p1 L.length c1) L.length (docCells L) := own_kept hrow1 (gb_below (row := none) hb2) (by
    cases hp : (Value.slice p1 L.length c1).ownBlock with
    | none => exact .inr rfl
    | some k => exact .inl (by simp))
  have HR2 := Lib.hid hrow2
  clear hrow1 hrow2 hb1 hb2 hcc
  go_upto_block 0 with fail
  go_cut [8] (fun _ wx => Below w.heap.size w wx)
  case first =>
    go_wp2_with fail
    go_loopw [8] (fun iv wr => ∃ (k : Nat) (cs : List Value), iv = .int .i64 k ∧ k ≤ L.length ∧ wr.ownsRow w.heap.size 53 3 (.slice p1 L.length c1) L.length cs ∧ Below w.heap.size w wr) (fun iv _ => L.length - (RowKit.intOf iv).toNat)
    case atStart => exact ⟨0, _, rfl, Nat.zero_le _, HR2.out, B2⟩
    case round =>
      obtain ⟨k, cs, rfl, hk, hown, hB⟩ := hrel
      by_cases hkn : (k : Int) < (L.length : Int)
      · rcases hown.2 with ⟨_, h0⟩ | ⟨g1, cap1, cur, hv1, hbg, hg, _⟩
        · omega
        · obtain ⟨rfl, rfl⟩ : p1 = some ⟨g1, 0, none⟩ ∧ c1 = cap1 := by cases hv1; exact ⟨rfl, rfl⟩
          have hth := own_there (o := k * 3) (m := 3) hown (by omega)
          obtain ⟨cs2, hown2, hg2, _⟩ := own_setCells emptyC (k * 3) _ _ hown
          have hB2 : Below w.heap.size w _ := hB.grown hg2 hB.size (fun q hq => by cases hq; exact hbg)
          obtain ⟨W2, hW2⟩ : ∃ W2, wr.setCells g1 (k * 3) emptyC = W2 := ⟨_, rfl⟩
          rw [hW2] at hown2 hB2
          have HO2 := Lib.hid hown2
          have HB2 := Lib.hid hB2
          have HTH := Lib.hid hth
          have HW2 := Lib.hid hW2
          clear hth hown2 hg2 hB2 hW2 hown hg
          go_wp2_with (first
            | (refine wpList_store_to rfl 53 (.tmp 31) (.tmp 30) rfl g1 (k * 3) emptyC rfl rfl HTH.out (by kernel_rfl) empty_one HW2.out ?_))
          go_roundw
          case rel => exact ⟨k + 1, cs2, by go_num, by omega, HO2.out, HB2.out⟩
          case measure => simp [RowKit.intOf]; omega
      · go_wp2_with fail
        go_meet
        exact hB
  case rest =>
  have B3 : Below w.heap.size w wc := hcut
  clear HR2 HS1 B2
  go_upto_region 10 with (first
    | (go_at_call 61; refine (HGET.out _ B3).mono ?_; rintro e w4 ⟨rfl, hb4⟩; have B4 := B3.trans (hb4.mono B3.size); have B4a := B4.alloc B4.size (.cells #[.string A1, .string A2, .int .i64 A3] 53))
    | (go_at_call 62; refine (HRGET.out _ B4a).mono ?_; rintro e w5 ⟨rfl, hb5⟩; have B5 := B4a.trans (hb5.mono B4a.size)))
  have B5a := B5.alloc B5.size (.cells #[.string A1, .string A2, .int .i64 A3] 53)
  obtain ⟨W6, hW6⟩ : ∃ W6, w5.alloc (.cells #[.string A1, .string A2, .int .i64 A3] 53) = W6 := ⟨_, rfl⟩
  rw [hW6] at B5a ⊢
  have h9 : W6.heap[w4.heap.size]? = some (.cells #[.string A1, .string A2, .int .i64 A3] 53) := by
    rw [← hW6]
    refine Eq.trans ?_ ((hb5.block w4.heap.size (by simp)).trans (World.alloc_heap_new w4 _))
    have hz : w4.heap.size < w5.heap.size := by have := hb5.size; simp at this; omega
    exact ((Below.refl w5.heap.size w5).alloc (Nat.le_refl _) _).block _ hz
  have h11 : W6.heap[w5.heap.size]? = some (.cells #[.string A1, .string A2, .int .i64 A3] 53) := by rw [← hW6]; exact World.alloc_heap_new w5 _
  have hz9 := (Array.getElem?_eq_some_iff.1 h9).1
  have hz11 := (Array.getElem?_eq_some_iff.1 h11).1
  have HK : Hid (∀ v, Below W6.heap.size W6 v → v.cell? ⟨w4.heap.size, 0, none⟩ = some (.string A1) ∧ v.cell? ⟨w4.heap.size, 1, none⟩ = some (.string A2) ∧ v.cell? ⟨w4.heap.size, 2, none⟩ = some (.int .i64 A3) ∧ v.cell? ⟨w5.heap.size, 0, none⟩ = some (.string A1) ∧ v.cell? ⟨w5.heap.size, 1, none⟩ = some (.string A2) ∧ v.cell? ⟨w5.heap.size, 2, none⟩ = some (.int .i64 A3) ∧ v.cell? ⟨r, 0, none⟩ = some (.slice p L.length cap)) := Lib.hid fun v hb => by
    have k9 := (hb.block _ hz9).trans h9
    have k11 := (hb.block _ hz11).trans h11
    exact ⟨by simp [World.cell?, k9], by simp [World.cell?, k9], by simp [World.cell?, k9], by simp [World.cell?, k11], by simp [World.cell?, k11], by simp [World.cell?, k11], HCELL.out v (B5a.trans (hb.mono B5a.size))⟩
  obtain ⟨e0, e1, e2, e3, e4, e5, e6⟩ := HK.out _ (Below.refl _ _)
  have hAA : (A1.toList == A1.toList) = true := by simp
  have hA2 : (A2.toList == A2.toList) = true := by simp
  clear hb5 hW6 h9 h11 hz9 hz11 B5 B4 B4a hb4 B3
  have B6d := B5a.trans ((Below.refl W6.heap.size W6).drew.mono B5a.size)
  have D6 : Below W6.heap.size W6 W6.drew := (Below.refl W6.heap.size W6).drew
  clear hc0
  go_region_held3 (fun v => v.cell? ⟨w4.heap.size, 0, none⟩ = some (.string A1) ∧ v.cell? ⟨w4.heap.size, 1, none⟩ = some (.string A2) ∧ v.cell? ⟨w4.heap.size, 2, none⟩ = some (.int .i64 A3) ∧ v.cell? ⟨w5.heap.size, 0, none⟩ = some (.string A1) ∧ v.cell? ⟨w5.heap.size, 1, none⟩ = some (.string A2) ∧ v.cell? ⟨w5.heap.size, 2, none⟩ = some (.int .i64 A3) ∧ v.cell? ⟨r, 0, none⟩ = some (.slice p L.length cap)) (first | exact ⟨e0, e1, e2, e3, e4, e5, e6⟩ | exact ⟨s0, s1, s2, s3, s4, s5, s6⟩ | exact ⟨t0, t1, t2, t3, t4, t5, t6⟩) (first
    | (go_at_call 59; refine (HALL.out _ B6d).mono ?_; rintro e w7 ⟨v7, rfl, hrow7, hb7⟩; obtain ⟨p7, c7, rfl⟩ := own_shape hrow7; have HS7 := Lib.hid (own_slice hrow7); have D7 := D6.trans (hb7.mono D6.size); have B7 := B6d.trans (hb7.mono B6d.size); obtain ⟨s0, s1, s2, s3, s4, s5, s6⟩ := HK.out _ D7; clear hrow7)
    | (go_at_call 60; refine (HSAME.out _ _ HS7.out B7).mono ?_; rintro e w8 ⟨rfl, hb8⟩; have D8 := D7.trans (hb8.mono D7.size); have B8 := B7.trans (hb8.mono B7.size); obtain ⟨t0, t1, t2, t3, t4, t5, t6⟩ := HK.out _ D8))
  go_wp2_with fail
  go_ret
  exact ⟨rfl, B8⟩
end Go.Proofs.Dc
