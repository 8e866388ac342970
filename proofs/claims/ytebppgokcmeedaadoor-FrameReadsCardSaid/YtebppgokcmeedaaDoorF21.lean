/- FrameReads: a list of parts among the arguments; the walk. -/
import Derived.Test.YtebppgokcmeedaaDoorF20
import Derived.Deep.Slices
import Derived.Deep.Fields
import Derived.ChangeSame
import Derived.OpenShut
import Derived.SizedLaws
namespace Go.Proofs.Fr
open Go.RowKit Go.Maps Go.Proofs Go.Lib Go.ChangeShapes Go.WideShapes Go.Deep

section
variable {H : Type} {enc : TypeId × Value → H} {P : Program} {w : World} {base : Nat} {spare : Nat → Bool} {held : Bool}
theorem open_slice_fields {t e : TypeId} {fs : Array Field} {fuel : Nat} {cs : List Value} {x : DataW H × List MemPlace} (ht : P.underlying t = some (.slice e)) (he : P.underlying e = some (.struct fs))
    (hone : oneCellFields P fs = true) (hC : P.cellsOf e = fs.size) (h : DataW.trod enc P w base spare held fuel t cs = some x) :
    (cs = [.slice none 0 0] ∧ x = (.nil, [])) ∨
    ∃ (a : Addr) (len cap m : Nat) (D : Nat → DataW H) (Pl : Nat → List MemPlace), cs = [.slice (some a) len cap] ∧ base ≤ a.block ∧ len ≤ cap ∧ cap ≤ maxLen ∧ m = (if spare a.block then cap else len) ∧
      x = (.slice ((List.range len).map D) ((List.range (m - len)).map fun j => D (len + j)), MemPlace.row a (m * fs.size) ++ (List.range m).flatMap Pl) ∧
      ∀ i, i < m → ∃ (ys : List (DataW H × List MemPlace)) (n : Nat), D i = .agg (ys.map (·.1)) ∧ Pl i = ys.flatMap (·.2) ∧ ys.length = fs.size ∧
        ∀ (j : Nat) (f : Field), fs[j]? = some f → ∃ (v : Value) (y : DataW H × List MemPlace), w.cell? (a.add (i * fs.size + j)) = some v ∧ ys[j]? = some y ∧ DataW.trod enc P w base spare held n f.type [v] = some y := by
  rcases open_slice ht h with h0 | ⟨a, len, cap, m, n, D, Pl, hcs, hb, hl, hm, hmm, hx, hi⟩
  · exact .inl h0
  · refine .inr ⟨a, len, cap, m, D, Pl, hcs, hb, hl, hm, hmm, by rw [hC] at hx; exact hx, fun i him => ?_⟩
    obtain ⟨cs', hc, ht'⟩ := hi i him
    rw [hC] at hc
    obtain ⟨ys, n', hn', hy, hlen, hyl, hf⟩ := DataW.trod_struct he ht'
    obtain ⟨_, hcl, hat⟩ := World.cells?_some hc
    simp only [Prod.mk.injEq] at hy
    refine ⟨ys, n', hy.1, hy.2, hyl, fun j f hj => ?_⟩
    obtain ⟨ho, hk⟩ := hone_of hone j f hj
    have hjl : j < fs.size := (Array.getElem?_eq_some_iff.1 hj).1
    have hcell := hat j hjl
    have hv : cs'[j]? = some (cs'[j]'(by omega)) := List.getElem?_eq_getElem (by omega)
    have h1 := hf j f hj
    rw [ho, hk] at h1
    have hone' : (cs'.drop j).take 1 = [cs'[j]'(by omega)] := by
      rw [List.drop_eq_getElem_cons (by omega)]
      rfl
    rw [hone'] at h1
    have hys : ys[j]? = some (ys[j]'(by omega)) := List.getElem?_eq_getElem (by omega)
    refine ⟨_, _, ?_, hys, h1.trans hys⟩
    rw [← Go.Deep.add_add, hcell, hv]
end
theorem add_at (a : Addr) (i j : Nat) (hj : 0 < j) : a.add (i + j) = ⟨(a.add i).block, (a.add i).off + j, none⟩ := by
  unfold Addr.add
  rw [if_neg (by omega)]
  split
  · rename_i h
    subst h
    simp
  · simp; omega
/-- a part in memory -/
structure PartAt (w : World) (a : Addr) (s : ByteArray) (z : Int) : Prop where
  bytes : w.cell? a = some (.string s)
  asks : w.cell? ⟨a.block, a.off + 1, none⟩ = some (.int .u8 z)
  ssz : s.size ≤ maxLen
  lo : 0 ≤ z
  hi : z ≤ 255
  blk : a.block < w.heap.size
set_option maxRecDepth 100000 in
theorem parts_arg {H : Type} {enc : TypeId × Value → H} {W : World} {base : Nat} {v : Value} {d : DataW H} {ps : List MemPlace} (hv : Value.okWide Tryd.prog W .any base 22 v) (h : DataW.Trod enc Tryd.prog W 0 (fun _ => true) true 22 v d ps) :
    ∃ (p : Option Addr) (n c : Nat), v = .slice p n c ∧ n ≤ maxLen ∧ ∀ i, i < n → ∃ (a : Addr) (s : ByteArray) (z : Int), p = some a ∧ PartAt W (a.add (i * 2)) s z := by
  obtain ⟨a0, len, cap, rfl⟩ := okWide_slice Tryd.underlying22 hv
  obtain ⟨fuel, hf⟩ := h
  rcases open_slice_fields Tryd.underlying22 Tryd.underlying30 (by kernel_rfl) (by kernel_rfl) hf with ⟨hcs, hx⟩ | ⟨a, len', cap', m, D, Pl, hcs, _, hl, hm, hz, hx, hcell⟩
  · simp [Value.cells] at hcs
    obtain ⟨rfl, rfl, rfl⟩ := hcs
    exact ⟨_, _, _, rfl, Nat.zero_le _, fun i hi => by omega⟩
  · simp [Value.cells] at hcs
    obtain ⟨rfl, rfl, rfl⟩ := hcs
    simp only [if_true] at hz
    refine ⟨_, _, _, rfl, Nat.le_trans hl hm, fun i hi => ?_⟩
    obtain ⟨ys, n, _, _, _, hj⟩ := hcell i (by omega)
    obtain ⟨v0, y0, c0, _, t0⟩ := hj 0 _ rfl
    obtain ⟨v1, y1, c1, _, t1⟩ := hj 1 _ rfl
    obtain ⟨n0, e0, _, z0⟩ := DataW.trod_string Tryd.underlying9 t0
    obtain ⟨n1, e1, _, z1⟩ := DataW.trod_int (k := .u8) Tryd.underlying5 t1
    simp only [List.cons.injEq, and_true] at e0 e1
    subst e0 e1
    have hb := World.block_lt_of_cell? W _ c0
    have hb2 : 0 ≤ n1 ∧ n1 ≤ 255 := by simpa [Lit.wf, IntKind.min, IntKind.max, IntKind.signed, IntKind.bits] using z1
    exact ⟨a, n0, n1, rfl, c0, by rw [← add_at a (i * 2) 1 (by omega)]; exact c1, z0, hb2.1, hb2.2, hb⟩
theorem held_len (h : List UInt8) : (nextV h).held.length ≤ h.length := by
  cases hk : (nextV h).ok with
  | false => rw [(next_held h hk).1]; exact Nat.le_refl _
  | true => have := next_size h hk; omega
theorem gb_refl_below {w w' : World} (hb : Below w.heap.size w w') (row : Option Nat) : w.grownBy w' row := gb_below hb
def pushV (h X : ByteArray) (br : Bool) : ByteArray := if br then h else h ++ X
def pushE (br : Bool) : Int := if br then 4 else 0
theorem push_both (w : World) (b : Nat) (h X : ByteArray) (br : Bool) (hs : h.size + X.size ≤ 4194304) (r : RD w b h br) : Calls Tryd.prog 11 #[.pointer (some ⟨b, 0, none⟩), .string X] w fun e w' => e = .returned (.int .i64 (pushE br)) ∧ RD w' b (pushV h X br) br ∧ w.grownBy w' (some b) := by
  cases br with
  | true => exact (push_broken w b h X r).mono fun e w' ⟨h1, h2⟩ => by subst h2; exact ⟨h1, r, World.grownBy.refl _ _⟩
  | false => exact push_any w b h X r (by omega)
theorem rpush_both (w : World) (b : Nat) (h X : ByteArray) (br : Bool) (hs : h.size + X.size ≤ 4194304) (r : RQ w b h br) : Calls Tryd.prog 12 #[.pointer (some ⟨b, 0, none⟩), .string X] w fun e w' => e = .returned (.int .i64 (pushE br)) ∧ RQ w' b (pushV h X br) br ∧ w.grownBy w' (some b) := by
  cases br with
  | true => exact (rpush_broken w b h X r).mono fun e w' ⟨h1, h2⟩ => by subst h2; exact ⟨h1, r, World.grownBy.refl _ _⟩
  | false => exact rpush_any w b h X r (by omega)
def nextB (h : ByteArray) (br : Bool) : Nxt := if br then ⟨[], false, 4, h.data.toList⟩ else nextV h.data.toList
theorem nextB_len (h : ByteArray) (br : Bool) : (nextB h br).held.length ≤ h.size := by
  rw [Lib.size_eq]
  cases br with
  | true => exact Nat.le_refl _
  | false => exact held_len _
theorem next_both (w : World) (hT : MaxV w) (b : Nat) (hb0 : 0 < b) (h : ByteArray) (br : Bool) (hs : h.size ≤ 4194304) (r : RD w b h br) : Calls Tryd.prog 13 #[.pointer (some ⟨b, 0, none⟩)] w fun e w' => e = .returned (nxVal (nextB h br)) ∧ RD w' b ⟨(nextB h br).held.toArray⟩ (decide ((nextB h br).err ≠ 0)) ∧ w.grownBy w' (some b) := by
  cases br with
  | true => exact (next_broken w b h r).mono fun e w' ⟨h1, h2⟩ => ⟨h1, r.below h2, gb_below h2⟩
  | false => exact next_any w hT b hb0 h hs r
theorem rnext_both (w : World) (b : Nat) (h : ByteArray) (br : Bool) (hs : h.size ≤ 4194304) (r : RQ w b h br) : Calls Tryd.prog 14 #[.pointer (some ⟨b, 0, none⟩)] w fun e w' => e = .returned (nxVal (nextB h br)) ∧ RQ w' b ⟨(nextB h br).held.toArray⟩ (decide ((nextB h br).err ≠ 0)) ∧ w.grownBy w' (some b) := by
  cases br with
  | true => exact (rnext_broken w b h r).mono fun e w' ⟨h1, h2⟩ => by subst h2; exact ⟨h1, r, World.grownBy.refl _ _⟩
  | false => exact rnext_any w b h hs r
theorem bne_self (B : ByteArray) : (!B.toList == B.toList) = false := by simp
set_option maxRecDepth 100000 in
set_option maxHeartbeats 4000000 in
theorem reads_walk (w : World) (hT : MaxV w) {pp : Option Addr} {np cp : Nat} (_hnp : np ≤ maxLen)
    (hI : ∀ i, i < np → ∃ (a : Addr) (s : ByteArray) (z : Int), pp = some a ∧ PartAt w (a.add (i * 2)) s z) :
    Calls Tryd.prog 3 #[.slice pp np cp] w fun e w' => e = .returned (.bool true) ∧ Below w.heap.size w w' := by
  unfold maxLen at _hnp
  have HI := Lib.hid hI
  clear hI
  have hlt := hT.lt
  go_enter Tryd.func3, Tryd.ntmps3
  go_wp2_with (first
    | (go_at_call 9; refine (new_any _).mono ?_; rintro e w1 ⟨rfl, hw1⟩
       have hz1 : w1.heap.size = w.heap.size + 1 := (by rw [hw1]; simp)
       have r1 : RD w1 w.heap.size ⟨#[]⟩ false := (by rw [hw1]; exact RD.new w)
       have b1 : Below w.heap.size w w1 := (by rw [hw1]; exact (Below.refl _ _).alloc (Nat.le_refl _) _)
       clear hw1))
  have r2 : RD (w1.alloc (.cells #[.string ⟨#[]⟩, .bool false] 27)) w.heap.size ⟨#[]⟩ false := alloc_keep r1
  have q2 : RQ (w1.alloc (.cells #[.string ⟨#[]⟩, .bool false] 27)) w1.heap.size ⟨#[]⟩ false := alloc_new _ _ _ rfl
  have b2 : Below w.heap.size w (w1.alloc (.cells #[.string ⟨#[]⟩, .bool false] 27)) := b1.trans ((Below.refl w1.heap.size w1).alloc (Nat.le_refl _) _ |>.mono b1.size)
  generalize w1.alloc (.cells #[.string ⟨#[]⟩, .bool false] 27) = W at r2 q2 b2 ⊢
  rw [hz1] at q2
  obtain ⟨c, hc, hcw⟩ : ∃ c, w.heap.size + 1 = c ∧ w.heap.size < c := ⟨_, rfl, by omega⟩
  rw [hc] at q2 ⊢
  clear hc hz1 r1 b1
  go_loopw [5] (fun v wr => ∃ (k : Nat) (h : ByteArray) (br : Bool), v = .int .i64 k ∧ k ≤ np ∧ k ≤ 40 ∧ h.size ≤ 3000 * k ∧ RD wr w.heap.size h br ∧ RQ wr c h br ∧ Below w.heap.size w wr) (fun v _ => 40 - (RowKit.intOf v).toNat)
  case atStart => exact ⟨0, ⟨#[]⟩, false, rfl, Nat.zero_le _, Nat.zero_le _, by decide, r2, q2, b2⟩
  case round =>
    obtain ⟨k, h, br, rfl, hk1, hk2, hhs, hr, hq, hB⟩ := hrel
    by_cases hkn : (k : Int) < (np : Int)
    · by_cases hk40 : (k : Int) < 40
      · obtain ⟨a, s, z, rfl, hP⟩ := HI.out k (by omega)
        obtain ⟨hp1, hp2, hp3, hp4, hp5, hp6⟩ := hP
        have e1 := (hB.cell (p := a.add (k * 2)) hp6).trans hp1
        obtain ⟨m, hm, hm4⟩ : ∃ m : Nat, z % 5 = (m : Int) ∧ m ≤ 4 := ⟨(z % 5).toNat, by omega, by omega⟩
        have hcut := fun w => cut_any s w hp3
        obtain ⟨X, hX⟩ : ∃ X, s.extract 0 (min s.size 3000) = X := ⟨_, rfl⟩
        have hXs : X.size ≤ 3000 := by rw [← hX, ByteArray.size_extract]; omega
        rw [hX] at hcut
        have hzB := hB.size
        clear hX
        have hpu := fun u r => push_both u w.heap.size h X br (by omega) r
        have hqu := fun u r => rpush_both u c h X br (by omega) r
        obtain ⟨E, hE⟩ : ∃ E, pushE br = E := ⟨_, rfl⟩
        obtain ⟨G, hG, hGs⟩ : ∃ G, pushV h X br = G ∧ G.size ≤ 3000 * (k + 1) := by
          refine ⟨_, rfl, ?_⟩
          unfold pushV
          split
          · omega
          · rw [ByteArray.size_append]; omega
        simp only [hE, hG] at hpu hqu
        clear hE hG
        go_wp2_with (first
          | (go_at_call 10; refine (hcut _).mono ?_; rintro e w2 ⟨rfl, hw⟩; subst hw)
          | (go_at_call 11; refine (hpu _ hr).mono ?_; rintro e w3 ⟨rfl, r3, g3⟩
             have b3 := hB.trans (below_gb (Nat.le_refl _) hzB g3)
             have q3 := hq.kept g3 (by intro e; have := Option.some.inj e; omega)
             clear hr hq g3)
          | (go_at_call 12; refine (hqu _ q3).mono ?_; rintro e w4 ⟨rfl, q4, g4⟩
             have b4 := b3.trans (below_gb (by omega) b3.size g4)
             have r4 := r3.kept g4 (by intro e; have := Option.some.inj e; omega)
             clear r3 q3 g4))
        go_loopw [9] (fun v wx => ∃ (j : Nat) (g : ByteArray) (bx : Bool), v = .int .u8 j ∧ j ≤ m ∧ g.size ≤ 3000 * (k + 1) ∧ RD wx w.heap.size g bx ∧ RQ wx c g bx ∧ Below w.heap.size w wx) (fun v _ => m - (RowKit.intOf v).toNat)
        case atStart => exact ⟨0, G, br, rfl, Nat.zero_le _, hGs, r4, q4, b4⟩
        case round =>
          obtain ⟨j, g, bx, rfl, hj, hgs, hr2, hq2, hB2⟩ := hrel
          have e3 := (hB2.cell (p := a.add (k * 2)) hp6).trans hp1
          have e4 := (hB2.cell (p := ⟨(a.add (k * 2)).block, (a.add (k * 2)).off + 1, none⟩) hp6).trans hp2
          have hzB2 := hB2.size
          by_cases hjm : (j : Int) < (m : Int)
          · have hn := fun u hw r => next_both u hw w.heap.size hlt g bx (by omega) r
            have hqn := fun u r => rnext_both u c g bx (by omega) r
            have hlen := nextB_len g bx
            obtain ⟨N, hN⟩ : ∃ N, nextB g bx = N := ⟨_, rfl⟩
            rw [hN] at hlen
            simp only [hN, nxVal] at hn hqn
            obtain ⟨B, hB⟩ : ∃ B : ByteArray, (⟨N.body.toArray⟩ : ByteArray) = B := ⟨_, rfl⟩
            obtain ⟨O, hO⟩ : ∃ O, N.ok = O := ⟨_, rfl⟩
            obtain ⟨er, her⟩ : ∃ er, N.err = er := ⟨_, rfl⟩
            obtain ⟨G2, hG2⟩ : ∃ G2 : ByteArray, (⟨N.held.toArray⟩ : ByteArray) = G2 := ⟨_, rfl⟩
            have hG2s : G2.size ≤ 3000 * (k + 1) := by rw [← hG2, size_mk']; omega
            simp only [hB, hO, her, hG2] at hn hqn
            obtain ⟨bz, hbz⟩ : ∃ bz, decide (er ≠ 0) = bz := ⟨_, rfl⟩
            simp only [hbz] at hn hqn
            clear hlen hN hB hO her hG2 hbz
            go_wp2_with (first
              | (go_at_call 13; refine (hn _ (hT.below hB2) hr2).mono ?_; rintro e w5 ⟨rfl, r5, g5⟩
                 have b5 := hB2.trans (below_gb (Nat.le_refl _) hzB2 g5)
                 have q5 := hq2.kept g5 (by intro e; have := Option.some.inj e; omega)
                 clear hr2 hq2 g5)
              | (go_at_call 14; refine (hqn _ q5).mono ?_; rintro e w6 ⟨rfl, q6, g6⟩
                 have b6 := b5.trans (below_gb (by omega) b5.size g6)
                 have r6 := r5.kept g6 (by intro e; have := Option.some.inj e; omega)
                 clear r5 q5 g6))
            go_roundw
            case rel => exact ⟨j + 1, G2, bz, by go_num, by omega, hG2s, r6, q6, b6⟩
            case measure => simp [RowKit.intOf]; omega
          · have hh : ∀ n, Calls Tryd.prog 15 #[.pointer (some ⟨w.heap.size, 0, none⟩)] (wr.drewN n) fun e w'' => e = .returned (.int .i64 g.size) ∧ ∃ m, w'' = wr.drewN m := fun n => (held_any _ _ _ _ (hr2.below (below_draws (Below.refl _ _) n))).mono fun e w' h => ⟨h.1, n, h.2.symm⟩
            have hk : ∀ n, Calls Tryd.prog 16 #[.pointer (some ⟨w.heap.size, 0, none⟩)] (wr.drewN n) fun e w'' => e = .returned (.bool bx) ∧ ∃ m, w'' = wr.drewN m := fun n => (broken_any _ _ _ _ (hr2.below (below_draws (Below.refl _ _) n))).mono fun e w' h => ⟨h.1, n, h.2.symm⟩
            obtain ⟨d0, d1, d2, d3⟩ := hq2.cells
            have uu : (bx != bx) = false := by cases bx <;> rfl
            go_wp2
            go_big_quiet ((first | exact hh _ | exact hk _))
            go_wp2
            go_roundw
            case rel => exact ⟨k + 1, g, bx, by go_num, by omega, by omega, hgs, hr2.below (below_draws (Below.refl _ _) _), hq2.below (below_draws (Below.refl _ _) _), below_draws hB2 _⟩
            case measure => simp [RowKit.intOf]; omega
      · clear hr hq
        go_wp2_with (first
          | (go_at_call 17; refine (awake_any _ (hT.below hB)).mono ?_; rintro e w6 ⟨rfl, b6⟩))
        go_ret
        exact ⟨rfl, hB.trans (b6.mono hB.size)⟩
    · clear hr hq
      go_wp2_with (first
        | (go_at_call 17; refine (awake_any _ (hT.below hB)).mono ?_; rintro e w6 ⟨rfl, b6⟩))
      go_ret
      exact ⟨rfl, hB.trans (b6.mono hB.size)⟩
end Go.Proofs.Fr
