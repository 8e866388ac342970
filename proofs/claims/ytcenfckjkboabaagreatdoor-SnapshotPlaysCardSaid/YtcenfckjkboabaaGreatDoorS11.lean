/- Open, Change, Close, New of a Snapshots. -/
import Derived.Test.YtcenfckjkboabaaGreatDoorS10
namespace Go.Proofs.Dc
open Go.RowKit Go.Proofs Go.Lib Go.Maps

/-- all generations behind what was done -/
def nextG (G : List Gen) (E : Int) (L : List Doc) (u : List UInt8) : List Gen := if E = 0 then addG G L u else G
theorem boxes2 {w wx : World} {o1 o2 : Obj} (hb : Below ((w.alloc o1).alloc o2).heap.size ((w.alloc o1).alloc o2) wx) : wx.heap[w.heap.size]? = some o1 ∧ wx.heap[w.heap.size + 1]? = some o2 := by
  have h1 : ((w.alloc o1).alloc o2).heap[w.heap.size]? = some o1 := ((Below.refl (w.alloc o1).heap.size (w.alloc o1)).alloc (Nat.le_refl _) o2).block _ (by simp) |>.trans (World.alloc_heap_new w o1)
  have h2 : ((w.alloc o1).alloc o2).heap[w.heap.size + 1]? = some o2 := by
    have := World.alloc_heap_new (w.alloc o1) o2
    simpa using this
  exact ⟨(hb.block _ (by simp; omega)).trans h1, (hb.block _ (by simp)).trans h2⟩
section
variable {w : World} (hT : Tabs w) {s m lo : Nat} {G : List Gen} (hlo6 : 6 ≤ lo) (h : SV w s m lo G) (hG : G.length ≤ 1000) (g : Gen) (hg : G[G.length - 1]? = some g) (hI : Inv g.docs)
include hT hlo6 h hG hg hI
omit hT hlo6 hG hg hI in
theorem sv_lo : lo ≤ w.heap.size := by
  obtain ⟨_, B, D, k⟩ := h
  have := k.lt
  have := k.slo
  omega
set_option maxRecDepth 100000 in
set_option maxHeartbeats 1000000 in
theorem sopen_any (u t : ByteArray) (v : Int) (hu : u.size ≤ 1000000) (ht : t.size ≤ 1000000) :
    Calls Tryz.prog 33 #[.pointer (some ⟨s, 0, none⟩), .string u, .string t, .int .i64 v] w fun e w' => e = .returned (.int .i64 (openE g.docs u.data.toList t.data.toList)) ∧ SV w' s m lo (nextG G (openE g.docs u.data.toList t.data.toList) (openL g.docs u.data.toList t.data.toList v) u.data.toList) ∧ FsK w w' s m ∧ Below lo w w' := by
  have hlw := sv_lo h
  have b2 : Below w.heap.size w ((w.alloc (.cells #[.string t] 9)).alloc (.cells #[.int .i64 v] 2)) := ((Below.refl _ _).alloc (Nat.le_refl _) _).alloc (by simp) _
  have hn := next_open (hT.below b2) hlo6 (h.below b2) hG g hg hI u hu (openE g.docs u.data.toList t.data.toList) (openL g.docs u.data.toList t.data.toList v) (hI.opened _ _ _) (fun he => one_open hI.ord _ _ _ he) ⟨w.heap.size, 0, none⟩ ⟨w.heap.size + 1, 0, none⟩
    (fun wx d M hb hd hM => by
      obtain ⟨k1, k2⟩ := boxes2 hb
      exact open1_any wx ((hT.below b2).below hb) d M g.docs hd (by have := b2.size; omega) u t v hu ht hI.len _ _ (by simp [World.cell?, k1]) (by simp [World.cell?, k2]))
  have HB := Lib.hid b2
  have hlz := b2.size
  obtain ⟨GG, hGG⟩ : ∃ X, nextG G (openE g.docs u.data.toList t.data.toList) (openL g.docs u.data.toList t.data.toList v) u.data.toList = X := ⟨_, rfl⟩
  rw [hGG]
  unfold nextG at hGG
  rw [hGG] at hn
  clear hGG
  clear h hg hI hT
  go_enter Tryz.func33, Tryz.ntmps33
  go_wp2_with (first | (go_at_call 77; refine hn.mono ?_; rintro e w1 ⟨rfl, h1, h2, h3⟩))
  go_ret
  exact ⟨rfl, h1, (FsK.below HB.out).trans h2, (HB.out.mono hlw).trans h3⟩
set_option maxRecDepth 100000 in
set_option maxHeartbeats 1000000 in
theorem schange_any (u : ByteArray) (v : Int) (a : Option Addr) (n c : Nat) (cs : List Chg) (hu : u.size ≤ 1000000) (hn0 : n = cs.length) (hn2 : n ≤ 1000) (hC : ChgsAt w a cs) (hXs : ∀ x ∈ cs, x.text.size ≤ 70000) :
    Calls Tryz.prog 36 #[.pointer (some ⟨s, 0, none⟩), .string u, .int .i64 v, .slice a n c] w fun e w' => e = .returned (.int .i64 (chgE g.docs u.data.toList v cs)) ∧ SV w' s m lo (nextG G (chgE g.docs u.data.toList v cs) (chgL g.docs u.data.toList v cs) u.data.toList) ∧ FsK w w' s m ∧ Below lo w w' := by
  have hlw := sv_lo h
  have b2 : Below w.heap.size w ((w.alloc (.cells #[.int .i64 v] 2)).alloc (.cells #[.slice a n c] 33)) := ((Below.refl _ _).alloc (Nat.le_refl _) _).alloc (by simp) _
  have hn := next_chg (hT.below b2) hlo6 (h.below b2) hG g hg hI u hu (chgE g.docs u.data.toList v cs) (chgL g.docs u.data.toList v cs) (hI.changed _ _ _) (fun he => one_chg hI.ord _ _ _ he) ⟨w.heap.size, 0, none⟩ ⟨w.heap.size + 1, 0, none⟩
    (fun wx d M hb hd hM => by
      obtain ⟨k1, k2⟩ := boxes2 hb
      exact chg1_any wx ((hT.below b2).below hb) d M g.docs hd (by have := b2.size; omega) u v a n c cs hu hn0 hn2 ((hC.below b2).below hb) hI.len (fun d hd => (hI.all d hd).2.2) hXs _ _ (by simp [World.cell?, k1]) (by simp [World.cell?, k2]))
  have HB := Lib.hid b2
  have hlz := b2.size
  obtain ⟨GG, hGG⟩ : ∃ X, nextG G (chgE g.docs u.data.toList v cs) (chgL g.docs u.data.toList v cs) u.data.toList = X := ⟨_, rfl⟩
  rw [hGG]
  unfold nextG at hGG
  rw [hGG] at hn
  clear hGG
  clear h hg hI hT hn0 hC
  go_enter Tryz.func36, Tryz.ntmps36
  go_wp2_with (first | (go_at_call 77; refine hn.mono ?_; rintro e w1 ⟨rfl, h1, h2, h3⟩))
  go_ret
  exact ⟨rfl, h1, (FsK.below HB.out).trans h2, (HB.out.mono hlw).trans h3⟩
set_option maxRecDepth 100000 in
set_option maxHeartbeats 1000000 in
theorem sclose_any (u : ByteArray) (hu : u.size ≤ 1000000) :
    Calls Tryz.prog 38 #[.pointer (some ⟨s, 0, none⟩), .string u] w fun e w' => e = .returned (.int .i64 (closeE g.docs u.data.toList)) ∧ SV w' s m lo (nextG G (closeE g.docs u.data.toList) (without u.data.toList g.docs) u.data.toList) ∧ FsK w w' s m ∧ Below lo w w' := by
  have hn := next_close hT hlo6 h hG g hg hI u hu (closeE g.docs u.data.toList) (without u.data.toList g.docs) (hI.closed _) (fun _ => one_close hI.ord _)
    (fun wx d M hb hd hM => close_any wx d M g.docs hd u (by unfold maxLen; omega))
  obtain ⟨GG, hGG⟩ : ∃ X, nextG G (closeE g.docs u.data.toList) (without u.data.toList g.docs) u.data.toList = X := ⟨_, rfl⟩
  rw [hGG]
  unfold nextG at hGG
  rw [hGG] at hn
  clear hGG
  clear h hg hI hT
  go_enter Tryz.func38, Tryz.ntmps38
  go_wp2_with (first | (go_at_call 77; refine hn.mono ?_; rintro e w1 ⟨rfl, h1, h2, h3⟩))
  go_ret
  exact ⟨rfl, h1, h2, h3⟩
end
/-- generation 0 alone -/
def G0 : List Gen := [⟨[], 0, []⟩]
theorem kept_G0 (i : Nat) : kept G0 i = (i == 0) := by
  unfold kept G0
  match i with
  | 0 => rfl
  | i + 1 => rfl
theorem came_nil (w : World) (C : Nat) (f : List UInt8 → Nat) (h : w.ownsMap Tryz.prog 9 intEl C 0 (.map [])) : CameAt w C [] f :=
  ⟨.map [], h, rfl, fun _ => rfl, fun u hu => by cases hu⟩
set_option maxRecDepth 100000 in
set_option maxHeartbeats 2000000 in
theorem snew_any (w : World) : Calls Tryz.prog 20 #[] w fun e w' => ∃ s m, e = .returned (.pointer (some ⟨s, 0, none⟩)) ∧ SV w' s m w.heap.size G0 ∧ Below w.heap.size w w' := by
  have b1 : Below w.heap.size w (w.alloc (.map #[] 0)) := (Below.refl _ _).alloc (Nat.le_refl _) _
  have V1 : MV (w.alloc (.map #[] 0)) w.heap.size (fun _ => false) 0 (fun _ => 0) (.map []) := ⟨World.ownsMap_made w Tryz.prog 3 ptrEl, rfl, fun i => by simp; rfl, fun n hn => by cases hn⟩
  have hmm := @run_makeMap Tryz.prog
  go_enter Tryz.func20, Tryz.ntmps20
  go_wp2_with (first
    | (go_at_call 11; refine (new_any _).mono ?_; rintro e w1 ⟨b, M, rfl, hd1, hb1, l1, l2⟩
       have B1 := b1.trans (hb1.mono b1.size)
       have b3 : Below w1.heap.size w1 (w1.alloc (.map #[] 0)) := (Below.refl _ _).alloc (Nat.le_refl _) _
       have b4 : Below w1.heap.size w1 ((w1.alloc (.map #[] 0)).alloc (.cells #[.pointer (some ⟨b, 0, none⟩), .map (some w1.heap.size), .int .i64 0] 103)) := b3.alloc b3.size _
       have V4 := (V1.kept (row := none) (gb_below hb1) (by simp)).kept (row := none) (gb_below b4) (by simp)
       obtain ⟨w5, D5, hput, V5, g5⟩ := V4.put (n := 0) (b := w1.heap.size + 1) rfl (wfI_of (by decide) (by decide)) (by decide)
       simp only [Int.natCast_zero] at hput))
  go_ret
  have hz5 := g5.size
  have hz1 := hb1.size
  simp at hz5 hz1
  have b6 : Below w5.heap.size w5 (w5.alloc (.cells #[.map (some w.heap.size), .int .i64 0] 72)) := (Below.refl _ _).alloc (Nat.le_refl _) _
  have hlm := V1.mp.lt
  have B5 : Below w.heap.size w w5 := (B1.trans (b4.mono B1.size)).trans (below_gb (Nat.le_refl _) (Nat.le_trans B1.size b4.size) g5)
  have hC : (w1.alloc (.map #[] 0)).ownsMap Tryz.prog 9 intEl w1.heap.size 0 (.map []) := World.ownsMap_made w1 Tryz.prog 9 intEl
  have hh8 : ((w1.alloc (.map #[] 0)).alloc (.cells #[.pointer (some ⟨b, 0, none⟩), .map (some w1.heap.size), .int .i64 0] 103)).heap[w1.heap.size + 1]? = some (.cells #[.pointer (some ⟨b, 0, none⟩), .map (some w1.heap.size), .int .i64 0] 103 (0, 0)) := by
    have := World.alloc_heap_new (w1.alloc (.map #[] 0)) (.cells #[.pointer (some ⟨b, 0, none⟩), .map (some w1.heap.size), .int .i64 0] 103)
    simpa using this
  have hC4 := hC.kept (row := none) (gb_below ((Below.refl (w1.alloc (.map #[] 0)).heap.size (w1.alloc (.map #[] 0))).alloc (Nat.le_refl _) (.cells #[.pointer (some ⟨b, 0, none⟩), .map (some w1.heap.size), .int .i64 0] 103))) (by simp)
  have hl1 := hd1.lt
  have hd4 := hd1.below b4
  have gen4 : GenAt ((w1.alloc (.map #[] 0)).alloc (.cells #[.pointer (some ⟨b, 0, none⟩), .map (some w1.heap.size), .int .i64 0] 103)) G0 0 (w1.heap.size + 1) w.heap.size :=
    ⟨⟨[], 0, []⟩, b, M, w1.heap.size, rfl, hh8, hd4, came_nil _ _ _ hC4, by simp at l2; omega, by omega⟩
  have gen6 := (gen4.keepM g5 V4.mp).kept (row := none) (gb_below b6) (by simp) (by simp) (by simp) (by simp)
  have V6 := V5.kept (row := none) (gb_below b6) (by simp)
  refine ⟨w5.heap.size, w.heap.size, rfl, ⟨by decide, fun i => if i = 0 then w1.heap.size + 1 else 0, D5, ⟨World.alloc_heap_new w5 _, by omega, Nat.le_refl _, V6.mp, V6.siz, fun i => by rw [V6.has]; congr 1; rw [kept_G0]; simp, fun i j hi hj _ => ?_, fun n hn => ?_⟩⟩, B5.trans (b6.mono B5.size)⟩
  · rw [kept_G0, beq_iff_eq] at hi hj
    rw [hi, hj]
  · rw [kept_G0, beq_iff_eq] at hn
    subst hn
    exact ⟨V6.key 0 rfl, by simp; omega, ⟨by simpa using gen6⟩⟩
end Go.Proofs.Dc
