/- JsonOrder: the walk. -/
import Derived.Test.YtphiceebhncflaaDoorV36
namespace Go.Proofs.Jt
open Go.RowKit Go.Maps Go.Lib Go.Proofs.Utf Go.Proofs

theorem kp_new {V w6 w7 W8 : World} {nb : Nat} {y : JV} {kp ip : Option Addr} {kc ic : Nat} (h : KP w6 (V.heap.size ≤ ·) y kp kc ip ic) (F : FrP (fun _ => False) w6 w7) (g : w7.grownBy W8 (some nb)) (hn : nb = w6.heap.size ∨ nb < V.heap.size) : KI W8 y kp kc ip ic :=
  (h.keep (Nat.le_trans F.size g.size) (fun b hb hl => (g.block b (Nat.lt_of_lt_of_le hl F.size) (fun e => by have := Option.some.inj e; omega)).trans (F.block b hl id)) fun _ hb _ => hb).ki
theorem JC.fr {w w' : World} {P : Nat → Prop} {p : Addr} {y : JV} {kp ip : Option Addr} {kc ic : Nat} (h : JC w p y kp kc ip ic) (F : FrP P w w') (hp : ¬ P p.block) : JC w' p y kp kc ip ic := by
  have e := F.block p.block h.blk hp
  exact ⟨(World.cell?_of_block e).trans h.c0, (World.cell?_of_block (a := ⟨p.block, p.off + 1, none⟩) e).trans h.c1, (World.cell?_of_block (a := ⟨p.block, p.off + 2, none⟩) e).trans h.c2, (World.cell?_of_block (a := ⟨p.block, p.off + 3, none⟩) e).trans h.c3, Nat.lt_of_lt_of_le h.blk F.size⟩
def ic0 : IC := ⟨jn 0, none, 0, none, 0⟩
theorem its_turn (L : List IC) (t i : Nat) : itsOf (turnL L ic0 t i) = turnL (itsOf L) (jn 0) t i := turnL_map (·.y) L ic0 t i
theorem ov_start {w W : World} (h : w.alloc (.cells #[.int .i64 6, .string ⟨#[]⟩, .slice none 0 0, .slice none 0 0] 45) = W) : OV W (w.heap.size + 1) w.heap.size 0 0 [] [] (.slice none 0 0) (.slice none 0 0) :=
  ⟨by rw [← h]; exact alloc_at w _, ⟨rfl, .inl ⟨rfl, rfl⟩⟩, ⟨rfl, .inl ⟨rfl, rfl⟩⟩, by omega⟩
theorem one_list {w : World} {nb : Nat} {e : IC} (h : w.heap[nb]? = some (.cells e.cells.toArray 45 (0, 0))) (hk : KI w e.y e.kp e.kc e.ip e.ic) (hl : e.y.str.length ≤ maxLen) : KI w (.mk 5 [] [] [e.y]) none 0 (some ⟨nb, 0, none⟩) 1 := by
  refine KI.rows (L := [e]) (fun i s hs => by cases hs) ⟨by unfold maxLen; simp, Nat.zero_le _, fun s hs => by cases hs⟩ fun i c hc => ?_
  cases i with
  | succ i => simp at hc
  | zero =>
    obtain rfl := Option.some.inj hc
    have hcell : ∀ j u, e.cells[j]? = some u → w.cell? ⟨nb, j, none⟩ = some u := fun j u hu => by simp [World.cell?, h, hu]
    refine ⟨⟨_, rfl, ?_⟩, hk, hl⟩
    rw [add0]
    exact ⟨hcell 0 _ rfl, hcell 1 _ rfl, hcell 2 _ rfl, hcell 3 _ rfl, (Array.getElem?_eq_some_iff.1 h).1⟩
theorem ic_cells (e : IC) : e.cells = [.int .i64 e.y.kind, .string ⟨e.y.str.toArray⟩, .slice e.kp e.y.keys.length e.kc, .slice e.ip e.y.items.length e.ic] := rfl
theorem mem_wt {l : List JV} {x : JV} (h : x ∈ l) : x.wt ≤ wtL l := by
  obtain ⟨i, hi⟩ := List.getElem?_of_mem h
  exact wt_item hi
set_option maxRecDepth 100000 in
/-- the sizes of the turned object -/
theorem turn_wt {ks : List (List UInt8)} {it : List JV} {t n : Nat} (h : (JV.mk 6 [] ks it).wt < 1500) (h1 : ks.length = n) (h2 : it.length = n) (hn : n ≤ 12) (h0 : 0 < n) : (JV.mk 6 [] (turnL ks [] t n) (turnL it (jn 0) t n)).wt ≤ 50000 ∧ ∀ x, (∀ z ∈ x, z.wt ≤ 1501) → x.length = n → (JV.mk 6 [] (turnL ks [] t n) x).wt ≤ 50000 := by
  rw [JV.wt] at h
  have hk : keysW (turnL ks [] t n) ≤ 12 * 1501 := by
    have := keysW_le (l := turnL ks [] t n) (m := 1500) fun x hx => by have := keysW_mem (turnL_mem hx (by omega)); omega
    rw [turnL_len] at this
    have := Nat.mul_le_mul_right 1501 hn
    omega
  have hx : ∀ x : List JV, (∀ z ∈ x, z.wt ≤ 1501) → x.length = n → wtL x ≤ 12 * 1501 := fun x hx hl => by
    have := wtL_le hx
    rw [hl] at this
    have := Nat.mul_le_mul_right 1501 hn
    omega
  refine ⟨?_, fun x h3 h4 => ?_⟩
  · rw [JV.wt]
    have := hx (turnL it (jn 0) t n) (fun z hz => by have := mem_wt (turnL_mem hz (by omega)); omega) (turnL_len ..)
    simp only [List.length_nil]
    omega
  · rw [JV.wt]
    have := hx x h3 h4
    simp only [List.length_nil]
    omega
set_option maxRecDepth 100000 in
set_option maxHeartbeats 16000000 in
theorem order_pos {w : World} {a a' : Addr} {c d n tt : Nat} {l : List (List UInt8)} {L : List IC} (hT : Tabs w) (hn1 : l.length = n) (hn2 : L.length = n) (hn : n ≤ 12) (hn0 : 0 < n) (hkl : ∀ s ∈ l, s.length ≤ maxLen) (hS : StrsP w (some a) l) (hR : JRow w (some a') L) (htt : tt ≤ 255) :
    Calls Tryd.prog 12 #[.slice (some a) n c, .slice (some a') n d, .int .u8 tt] w fun e w' => e = .returned (.bool true) ∧ Below w.heap.size w w' := by
  have hKa : KI w (.mk 6 [] l (itsOf L)) (some a) c (some a') d := KI.rows hS ⟨by unfold maxLen; omega, by unfold maxLen; omega, hkl⟩ hR
  obtain ⟨W0, hW0⟩ : ∃ W, w.alloc (.cells #[.int .i64 6, .string ⟨#[]⟩, .slice (some a) n c, .slice (some a') n d] 45) = W := ⟨_, rfl⟩
  have bW := alloc_b hW0
  have HBA := Lib.hid (box_of hW0)
  obtain ⟨c0, c1, c2, c3⟩ := HBA.out W0 (Below.refl _ _)
  have HT : Hid (∀ V, Below W0.heap.size W0 V → Tabs V) := Lib.hid fun V hV => hT.below (Below.on bW hV)
  have HKA : Hid (∀ V, Below W0.heap.size W0 V → KI V (.mk 6 [] l (itsOf L)) (some a) c (some a') d) := Lib.hid fun V hV => hKa.stay (Below.on bW hV)
  have hf := few6 (HKA.out W0 (Below.refl _ _)) hn1 hn2
  have HS := Lib.hid hS
  have HR := Lib.hid hR
  have HKL := Lib.hid hkl
  have HN := Lib.hid (And.intro hn1 hn2)
  have HBW := Lib.hid bW
  have hfw := @few_wt (.mk 6 [] l (itsOf L))
  have f1 : ((n : Int) != (n : Int)) = false := by simp
  have f2 : ¬ (12 : Int) < (n : Int) := by omega
  have f3 : ((n : Int) == 0) = false := beq_eq_false_iff_ne.2 (by omega)
  clear hKa hT hS hR hkl hn1 hn2 bW
  cases hq : decide (0 < (JV.mk 6 [] l (itsOf L)).sz 1500) with
  | false =>
    rw [hq] at hf
    clear hq hfw
    go_enter Tryd.func12, Tryd.ntmps12
    go_wp2_with (first
      | (go_at_call 25; refine hf.mono ?_; rintro e w1 ⟨rfl, hb1⟩; have hwk := works_any w1 (HT.out w1 hb1))
      | (go_at_call 20; refine hwk.mono ?_; rintro e w2 ⟨rfl, hb2⟩))
    go_ret
    exact ⟨rfl, Below.on HBW.out (Below.on hb1 hb2)⟩
  | true =>
    rw [hq] at hf
    have hwt := hfw (of_decide_eq_true hq)
    have hck := fun V (hV : Below W0.heap.size W0 V) => check6 (HT.out V hV) (HKA.out V hV) (by omega) HN.out.1 HN.out.2
    by_cases h0 : (JV.mk 6 [] l (itsOf L)).chk = 0
    · simp only [h0] at hck
      have HCK := Lib.hid hck
      have HC0 := Lib.hid h0
      have HWT := Lib.hid hwt
      clear hq hfw hwt hck h0
      go_enter Tryd.func12, Tryd.ntmps12
      go_wp2_with (first
        | (go_at_call 25; refine hf.mono ?_; rintro e w1 ⟨rfl, hb1⟩; have h23 := HCK.out w1 hb1; clear c0 c1 c2 c3; obtain ⟨c0, c1, c2, c3⟩ := HBA.out w1 hb1)
        | (go_at_call 23; refine h23.mono ?_; rintro e w2 ⟨rfl, hb2⟩; have b2 := Below.on hb1 hb2; clear c0 c1 c2 c3))
      obtain ⟨W2, hW2⟩ : ∃ W, w2.alloc (.cells #[.int .i64 6, .string ⟨#[]⟩, .slice none 0 0, .slice none 0 0] 45) = W := ⟨_, rfl⟩
      rw [hW2]
      have hO := ov_start hW2
      have hv2 := alloc_b hW2
      have hwv : w.heap.size ≤ w2.heap.size := (Below.on HBW.out b2).size
      have HB2 := Lib.hid b2
      clear b2 hb1 hb2 hf h23 HCK
      go_loopw [9] (fun iv wr => ∃ (i : Nat) (kv iw : Value), iv = .int .i64 i ∧ i ≤ n ∧ OV wr (w2.heap.size + 1) w2.heap.size i i (turnL l [] tt i) (turnL L ic0 tt i) kv iw ∧ Below w2.heap.size w2 wr) (fun iv _ => n - (RowKit.intOf iv).toNat)
      case atStart => exact ⟨0, _, _, rfl, Nat.zero_le _, hO, hv2⟩
      case round =>
        obtain ⟨i, kv, iw, rfl, hi, hO, hB⟩ := hrel
        obtain ⟨pk, ck, rfl⟩ := row_form hO.rk
        obtain ⟨pi, ci, rfl⟩ := row_form hO.ri
        by_cases hin : (i : Int) < (n : Int)
        · obtain ⟨kk, hkk⟩ : ∃ k, (i + tt) % n = k := ⟨_, rfl⟩
          have hkn : kk < n := by rw [← hkk]; exact Nat.mod_lt _ hn0
          have e4 : ((i : Int) + (tt : Int)) % (n : Int) = (kk : Int) := by rw [← hkk]; rfl
          have hkni : (kk : Int) < (n : Int) := by omega
          obtain ⟨u, hu⟩ : ∃ u, l[kk]? = some u := ⟨_, List.getElem?_eq_getElem (by have := HN.out.1; omega)⟩
          obtain ⟨U, hU⟩ : ∃ S : ByteArray, (⟨u.toArray⟩ : ByteArray) = S := ⟨_, rfl⟩
          obtain ⟨e, he⟩ : ∃ e, L[kk]? = some e := ⟨_, List.getElem?_eq_getElem (by have := HN.out.2; omega)⟩
          obtain ⟨y, hy⟩ : ∃ y, e.y = y := ⟨_, rfl⟩
          obtain ⟨Y, hY⟩ : ∃ S : ByteArray, (⟨y.str.toArray⟩ : ByteArray) = S := ⟨_, rfl⟩
          have hBw : Below w.heap.size w wr := (Below.on HBW.out HB2.out).trans (hB.mono hwv)
          have hcu : wr.cell? (a.add kk) = some (.string U) ∧ (a.add kk).block < w2.heap.size := by
            obtain ⟨a1, e1, h1, h2⟩ := HS.out kk u hu
            cases e1
            rw [← hU]
            rw [add_blk]
            exact ⟨(hBw.cell (by rw [add_blk]; exact h2)).trans h1, by omega⟩
          have hjc : JC wr (a'.add (kk * 4)) y e.kp e.kc e.ip e.ic ∧ (a'.add (kk * 4)).block < w2.heap.size := by
            obtain ⟨⟨a1, e1, h1⟩, _⟩ := HR.out kk e he
            cases e1
            rw [hy] at h1
            exact ⟨h1.below hBw, by have := h1.blk; omega⟩
          have hOu : turnL l [] tt (i + 1) = turnL l [] tt i ++ [u] := by
            rw [turnL_succ, HN.out.1, hkk, List.getD_eq_getElem?_getD, hu]; rfl
          have hOe : turnL L ic0 tt (i + 1) = turnL L ic0 tt i ++ [e] := by
            rw [turnL_succ, HN.out.2, hkk, List.getD_eq_getElem?_getD, he]; rfl
          have hvlt := (Array.getElem?_eq_some_iff.1 hO.hd).1
          have HS11 : Hid (∀ wx, FrP (fun b => (Value.slice pk i ck).ownBlock = some b) wr wx → wx.cell? ⟨w2.heap.size, 2, none⟩ = some (.slice pk i ck) ∧ wx.frozen? ⟨w2.heap.size, 2, none⟩ = false ∧ wx.cell? (a.add kk) = some (.string U)) := Lib.hid fun wx F => by
            have e1 := (F.block w2.heap.size hvlt (fun h => by have := (row_lt hO.rk h).1; omega)).trans hO.hd
            have e2 := F.block (a.add kk).block (World.block_lt_of_cell? _ _ hcu.1) (fun h => by have := (row_lt hO.rk h).1; omega)
            exact ⟨by simp [World.cell?, e1], by simp [World.frozen?, e1], (World.cell?_of_block e2).trans hcu.1⟩
          have hrk := hO.rk.drew
          obtain ⟨i9_, hi9, hz90, hz91, hz92⟩ := info_parts info9
          have HOV := Lib.hid hO
          have HJC := Lib.hid hjc
          have HUE := Lib.hid (And.intro hOu hOe)
          have HUY := Lib.hid (And.intro hU (And.intro hy hY))
          clear hO hjc hcu hOu hOe hu he hU hy hY hBw hkk hvlt
          go_upto_region 11 with fail
          refine wp_region_late (S := fun v => v.cell? ⟨w2.heap.size, 2, none⟩ = some (.slice pk i ck) ∧ v.frozen? ⟨w2.heap.size, 2, none⟩ = false ∧ v.cell? (a.add kk) = some (.string U)) 9 (by kernel_rfl) (HS11.out _ (FrP.refl _ _).drew) (fun hHeld => ?_)
          refine wpAnyU_take (i := 0) (oi := { dst := some 52, op := Op.fieldAddr 45 (Operand.tmp 8) 2, type := 0, pos := "outright.go:158", after := #[], guard := none }) (v := ?_) [1, 7, 8, 9] rfl (by kernel_rfl) (by kernel_rfl) (by kernel_rfl) (by kernel_rfl) (fun _ _ _ h => h) (Or.inl ⟨by rfl, ?_⟩) (by assumption) ?_
          rotate_left
          · intro w hS; obtain ⟨hS0, hS1, hS2⟩ := hS; go_simp; with_reducible rfl
          try simp only [Act.put, List.setIfInBounds_toArray, List.set_cons_zero, List.set_cons_succ]
          refine wpAnyU_take (i := 1) (oi := { dst := some 53, op := Op.load 41 (Operand.tmp 52), type := 41, pos := "outright.go:158", after := #[{ on := 0, ground := Ground.data }], guard := none }) (v := ?_) [7, 8, 9] rfl (by kernel_rfl) (by kernel_rfl) (by kernel_rfl) (by kernel_rfl) (fun _ _ _ h => h) (Or.inl ⟨by rfl, ?_⟩) (by assumption) ?_
          rotate_left
          · intro w hS; obtain ⟨hS0, hS1, hS2⟩ := hS; go_simp; with_reducible rfl
          try simp only [Act.put, List.setIfInBounds_toArray, List.set_cons_zero, List.set_cons_succ]
          refine wpAnyU_take (i := 2) (oi := { dst := some 54, op := Op.move (Operand.tmp 0), type := 41, pos := "outright.go:158", after := #[], guard := none }) (v := ?_) [4, 5, 6, 7, 8, 9] rfl (by kernel_rfl) (by kernel_rfl) (by kernel_rfl) (by kernel_rfl) (fun _ _ _ h => h) (Or.inl ⟨by rfl, ?_⟩) (by assumption) ?_
          rotate_left
          · intro w hS; obtain ⟨hS0, hS1, hS2⟩ := hS; go_simp; with_reducible rfl
          try simp only [Act.put, List.setIfInBounds_toArray, List.set_cons_zero, List.set_cons_succ]
          refine wpAnyU_take (i := 3) (oi := { dst := some 55, op := Op.move (Operand.tmp 10), type := 3, pos := "outright.go:158", after := #[], guard := none }) (v := ?_) [4, 5, 6, 7, 8, 9] rfl (by kernel_rfl) (by kernel_rfl) (by kernel_rfl) (by kernel_rfl) (fun _ _ _ h => h) (Or.inl ⟨by rfl, ?_⟩) (by assumption) ?_
          rotate_left
          · intro w hS; obtain ⟨hS0, hS1, hS2⟩ := hS; go_simp; with_reducible rfl
          try simp only [Act.put, List.setIfInBounds_toArray, List.set_cons_zero, List.set_cons_succ]
          refine wpAnyU_take (i := 4) (oi := { dst := some 56, op := Op.indexAddr 41 (Operand.tmp 54) (Operand.tmp 55), type := 0, pos := "outright.go:158", after := #[{ on := 2, ground := Ground.data }, { on := 3, ground := Ground.data }], guard := none }) (v := ?_) [5, 6, 7, 8, 9] rfl (by kernel_rfl) (by kernel_rfl) (by kernel_rfl) (by kernel_rfl) (fun _ _ _ h => h) (Or.inl ⟨by rfl, ?_⟩) (by assumption) ?_
          rotate_left
          · intro w hS; obtain ⟨hS0, hS1, hS2⟩ := hS; go_simp; with_reducible rfl
          try simp only [Act.put, List.setIfInBounds_toArray, List.set_cons_zero, List.set_cons_succ]
          refine wpAnyU_take (i := 5) (oi := { dst := some 57, op := Op.load 9 (Operand.tmp 56), type := 9, pos := "outright.go:158", after := #[{ on := 4, ground := Ground.data }], guard := none }) (v := ?_) [6, 7, 8, 9] rfl (by kernel_rfl) (by kernel_rfl) (by kernel_rfl) (by kernel_rfl) (fun _ _ _ h => h) (Or.inl ⟨by rfl, ?_⟩) (by assumption) ?_
          rotate_left
          · intro w hS; obtain ⟨hS0, hS1, hS2⟩ := hS; go_simp; with_reducible rfl
          try simp only [Act.put, List.setIfInBounds_toArray, List.set_cons_zero, List.set_cons_succ]
          refine wpAnyU_ready (rs := [6]) (by kernel_rfl) (by simp) (AllReadyU.cons (o := { dst := some 58, op := Op.buildSlice 41 1 #[(0, Operand.tmp 57)], type := 41, pos := "outright.go:158", after := #[{ on := 5, ground := Ground.data }], guard := none }) rfl (fun K hK => ?_) AllReadyU.nil)
          rw [if_pos (by rfl)]
          go_simp
          (have F6 : FrP (fun b => (Value.slice pk i ck).ownBlock = some b) wr (wr.drew.alloc (.cells #[.string U] 9)) := (FrP.refl _ _).drew.alloc _)
          refine hK.out _ _ (fun _ => HS11.out _ F6) (fun hS2 => ?_)
          replace hS2 := hS2 (by decide)
          clear hK K
          try simp only [Act.put, List.setIfInBounds_toArray, List.set_cons_zero, List.set_cons_succ]
          refine wpAnyU_ready (rs := [7]) (by kernel_rfl) (by simp) (AllReadyU.cons (o := { dst := some 59, op := Op.call { callee := Callee.builtin Builtin.append, args := #[Operand.tmp 53, Operand.tmp 58], argTypes := #[41, 41] }, type := 41, pos := "outright.go:158", after := #[{ on := 1, ground := Ground.data }, { on := 6, ground := Ground.data }], guard := none }) rfl (fun K hK => ?_) AllReadyU.nil)
          rw [if_pos (by rfl)]
          refine wp_append_own_at (.tmp 53) (.tmp 58) 41 rfl (w2.heap.size + 1) 9 i9_ _ 1 16 Tryd.underlying41 hi9 hz90 hz91 hz92 rfl (by decide) _ _ _ rfl (hrk.alloc (.cells #[.string U] 9)) ⟨wr.drew.heap.size, 0, none⟩ 1 1 [.string U] rfl rfl (new_cells _ _ _) (fun u hu => by simp only [List.mem_cons, List.not_mem_nil, or_false] at hu; subst hu; rfl) (by unfold maxLen; omega) (by omega) (by have := HOV.out.vB; have := (Array.getElem?_eq_some_iff.1 HOV.out.hd).1; simp; omega) ?_; intro kv2 w7 hk2 hgk hat2; have F7 := F6.trans (FrP.of_row hgk (fun k hk => hk)); obtain ⟨y1, y2, y3⟩ := HS11.out _ F7; obtain ⟨pk2, ck2, rfl⟩ := row_form hk2
          refine hK.out _ _ (fun _ => HS11.out _ F7) (fun hS2 => ?_)
          replace hS2 := hS2 (by decide)
          clear hK K
          try simp only [Act.put, List.setIfInBounds_toArray, List.set_cons_zero, List.set_cons_succ]
          refine wpAnyU_pure (i := 8) (oi := { dst := some 60, op := Op.fieldAddr 45 (Operand.tmp 8) 2, type := 0, pos := "outright.go:158", after := #[{ on := 0, ground := Ground.phase }, { on := 1, ground := Ground.phase }, { on := 2, ground := Ground.phase }, { on := 3, ground := Ground.phase }, { on := 4, ground := Ground.phase }, { on := 5, ground := Ground.phase }, { on := 6, ground := Ground.phase }, { on := 7, ground := Ground.phase }], guard := none }) (v := ?_) rfl (by kernel_rfl) (by kernel_rfl) (by kernel_rfl) (by kernel_rfl) (fun _ _ _ h => h) (Or.inl ⟨by rfl, ?_⟩) (fun _ => by assumption) ?_
          rotate_left
          · intro w _; go_simp; with_reducible rfl
          try simp only [Act.put, List.setIfInBounds_toArray, List.set_cons_zero, List.set_cons_succ]
          refine wpAnyU_ready (rs := [9]) (by kernel_rfl) (by simp) (AllReadyU.cons (o := { dst := none, op := Op.store 41 (Operand.tmp 60) (Operand.tmp 59), type := 0, pos := "outright.go:158", after := #[{ on := 8, ground := Ground.data }, { on := 7, ground := Ground.data }, { on := 7, ground := Ground.chain }, { on := 0, ground := Ground.phase }, { on := 1, ground := Ground.phase }, { on := 2, ground := Ground.phase }, { on := 3, ground := Ground.phase }, { on := 4, ground := Ground.phase }, { on := 5, ground := Ground.phase }, { on := 6, ground := Ground.phase }, { on := 7, ground := Ground.phase }], guard := none }) rfl (fun K hK => ?_) AllReadyU.nil)
          rw [if_pos (by rfl)]
          go_simp
          refine hK.out _ _ (fun h => absurd h (by decide)) (fun _ => ?_)
          clear hK K
          try simp only [Act.put, List.setIfInBounds_toArray, List.set_cons_zero, List.set_cons_succ]
          refine wpAnyU_done (by kernel_rfl) ?_ _
          obtain ⟨hO2, F2⟩ := OV.addK (u := u) (HOV.out.below (Below.refl _ _).drew) (World.grownBy_alloc wr.drew (.cells #[.string U] 9) none) hgk (by rw [HUY.out.1]; exact hk2)
          obtain ⟨wv, hwv2⟩ : ∃ wv, w7.setCell ⟨w2.heap.size, 2, none⟩ (.slice pk2 (i + 1) ck2) = wv := ⟨_, rfl⟩
          rw [hwv2] at hO2 F2 ⊢
          have hB3 : Below w2.heap.size w2 wv := below_fr hB.drew (Nat.le_refl _) F2 (fun b hb => hb)
          have hjc2 : JC wv (a'.add (kk * 4)) y e.kp e.kc e.ip e.ic := (HJC.out.1.below (Below.refl wr.heap.size wr).drew).fr F2 (by have := HJC.out.2; omega)
          have hvlt2 := (Array.getElem?_eq_some_iff.1 hO2.hd).1
          have HS12 : Hid (∀ wx, FrP (fun b => (Value.slice pi i ci).ownBlock = some b) wv wx → wx.cell? ⟨w2.heap.size, 3, none⟩ = some (.slice pi i ci) ∧ wx.frozen? ⟨w2.heap.size, 3, none⟩ = false ∧ wx.cell? (a'.add (kk * 4)) = some (.int .i64 y.kind) ∧ wx.cell? ⟨(a'.add (kk * 4)).block, (a'.add (kk * 4)).off + 1, none⟩ = some (.string Y) ∧ wx.cell? ⟨(a'.add (kk * 4)).block, (a'.add (kk * 4)).off + 2, none⟩ = some (.slice e.kp y.keys.length e.kc) ∧ wx.cell? ⟨(a'.add (kk * 4)).block, (a'.add (kk * 4)).off + 3, none⟩ = some (.slice e.ip y.items.length e.ic)) := Lib.hid fun wx F => by
            have e1 := (F.block w2.heap.size hvlt2 (fun h => by have := (row_lt hO2.ri h).1; omega)).trans hO2.hd
            have hj := hjc2.fr F (fun h => by have := (row_lt hO2.ri h).1; have := HJC.out.2; omega)
            have h1 := hj.c1
            rw [HUY.out.2.2] at h1
            exact ⟨by simp [World.cell?, e1], by simp [World.frozen?, e1], hj.c0, h1, hj.c2, hj.c3⟩
          have hri := hO2.ri.drew
          obtain ⟨i45_, hi45, hz450, hz451, hz452⟩ := info_parts info45
          have HOV2 := Lib.hid hO2
          clear hO2 F2 hjc2 hvlt2 hk2 hgk hat2 F6 F7 y1 y2 y3 hHeld hrk HS11
          go_upto_region 12 with fail
          refine wp_region_late (S := fun v => v.cell? ⟨w2.heap.size, 3, none⟩ = some (.slice pi i ci) ∧ v.frozen? ⟨w2.heap.size, 3, none⟩ = false ∧ v.cell? (a'.add (kk * 4)) = some (.int .i64 y.kind) ∧ v.cell? ⟨(a'.add (kk * 4)).block, (a'.add (kk * 4)).off + 1, none⟩ = some (.string Y) ∧ v.cell? ⟨(a'.add (kk * 4)).block, (a'.add (kk * 4)).off + 2, none⟩ = some (.slice e.kp y.keys.length e.kc) ∧ v.cell? ⟨(a'.add (kk * 4)).block, (a'.add (kk * 4)).off + 3, none⟩ = some (.slice e.ip y.items.length e.ic)) 9 (by kernel_rfl) (HS12.out _ (FrP.refl _ _).drew) (fun hHeld => ?_)
          refine wpAnyU_take (i := 0) (oi := { dst := some 61, op := Op.fieldAddr 45 (Operand.tmp 8) 3, type := 0, pos := "outright.go:159", after := #[], guard := none }) (v := ?_) [1, 7, 8, 9] rfl (by kernel_rfl) (by kernel_rfl) (by kernel_rfl) (by kernel_rfl) (fun _ _ _ h => h) (Or.inl ⟨by rfl, ?_⟩) (by assumption) ?_
          rotate_left
          · intro w hS; obtain ⟨hS0, hS1, hS2, hS3, hS4, hS5⟩ := hS; go_simp; with_reducible rfl
          try simp only [Act.put, List.setIfInBounds_toArray, List.set_cons_zero, List.set_cons_succ]
          refine wpAnyU_take (i := 1) (oi := { dst := some 62, op := Op.load 43 (Operand.tmp 61), type := 43, pos := "outright.go:159", after := #[{ on := 0, ground := Ground.data }], guard := none }) (v := ?_) [7, 8, 9] rfl (by kernel_rfl) (by kernel_rfl) (by kernel_rfl) (by kernel_rfl) (fun _ _ _ h => h) (Or.inl ⟨by rfl, ?_⟩) (by assumption) ?_
          rotate_left
          · intro w hS; obtain ⟨hS0, hS1, hS2, hS3, hS4, hS5⟩ := hS; go_simp; with_reducible rfl
          try simp only [Act.put, List.setIfInBounds_toArray, List.set_cons_zero, List.set_cons_succ]
          refine wpAnyU_take (i := 2) (oi := { dst := some 63, op := Op.move (Operand.tmp 1), type := 43, pos := "outright.go:159", after := #[], guard := none }) (v := ?_) [4, 5, 6, 7, 8, 9] rfl (by kernel_rfl) (by kernel_rfl) (by kernel_rfl) (by kernel_rfl) (fun _ _ _ h => h) (Or.inl ⟨by rfl, ?_⟩) (by assumption) ?_
          rotate_left
          · intro w hS; obtain ⟨hS0, hS1, hS2, hS3, hS4, hS5⟩ := hS; go_simp; with_reducible rfl
          try simp only [Act.put, List.setIfInBounds_toArray, List.set_cons_zero, List.set_cons_succ]
          refine wpAnyU_take (i := 3) (oi := { dst := some 64, op := Op.move (Operand.tmp 10), type := 3, pos := "outright.go:159", after := #[], guard := none }) (v := ?_) [4, 5, 6, 7, 8, 9] rfl (by kernel_rfl) (by kernel_rfl) (by kernel_rfl) (by kernel_rfl) (fun _ _ _ h => h) (Or.inl ⟨by rfl, ?_⟩) (by assumption) ?_
          rotate_left
          · intro w hS; obtain ⟨hS0, hS1, hS2, hS3, hS4, hS5⟩ := hS; go_simp; with_reducible rfl
          try simp only [Act.put, List.setIfInBounds_toArray, List.set_cons_zero, List.set_cons_succ]
          refine wpAnyU_take (i := 4) (oi := { dst := some 65, op := Op.indexAddr 43 (Operand.tmp 63) (Operand.tmp 64), type := 0, pos := "outright.go:159", after := #[{ on := 2, ground := Ground.data }, { on := 3, ground := Ground.data }], guard := none }) (v := ?_) [5, 6, 7, 8, 9] rfl (by kernel_rfl) (by kernel_rfl) (by kernel_rfl) (by kernel_rfl) (fun _ _ _ h => h) (Or.inl ⟨by rfl, ?_⟩) (by assumption) ?_
          rotate_left
          · intro w hS; obtain ⟨hS0, hS1, hS2, hS3, hS4, hS5⟩ := hS; go_simp; with_reducible rfl
          try simp only [Act.put, List.setIfInBounds_toArray, List.set_cons_zero, List.set_cons_succ]
          refine wpAnyU_take (i := 5) (oi := { dst := some 66, op := Op.load 45 (Operand.tmp 65), type := 45, pos := "outright.go:159", after := #[{ on := 4, ground := Ground.data }], guard := none }) (v := ?_) [6, 7, 8, 9] rfl (by kernel_rfl) (by kernel_rfl) (by kernel_rfl) (by kernel_rfl) (fun _ _ _ h => h) (Or.inl ⟨by rfl, ?_⟩) (by assumption) ?_
          rotate_left
          · intro w hS; obtain ⟨hS0, hS1, hS2, hS3, hS4, hS5⟩ := hS; go_simp; with_reducible rfl
          try simp only [Act.put, List.setIfInBounds_toArray, List.set_cons_zero, List.set_cons_succ]
          refine wpAnyU_ready (rs := [6]) (by kernel_rfl) (by simp) (AllReadyU.cons (o := { dst := some 67, op := Op.buildSlice 43 1 #[(0, Operand.tmp 66)], type := 43, pos := "outright.go:159", after := #[{ on := 5, ground := Ground.data }], guard := none }) rfl (fun K hK => ?_) AllReadyU.nil)
          rw [if_pos (by rfl)]
          go_simp
          (have F6 : FrP (fun b => (Value.slice pi i ci).ownBlock = some b) wv (wv.drew.alloc (.cells #[.int .i64 y.kind, .string Y, .slice e.kp y.keys.length e.kc, .slice e.ip y.items.length e.ic] 45)) := (FrP.refl _ _).drew.alloc _)
          refine hK.out _ _ (fun _ => HS12.out _ F6) (fun hS2 => ?_)
          replace hS2 := hS2 (by decide)
          clear hK K
          try simp only [Act.put, List.setIfInBounds_toArray, List.set_cons_zero, List.set_cons_succ]
          refine wpAnyU_ready (rs := [7]) (by kernel_rfl) (by simp) (AllReadyU.cons (o := { dst := some 68, op := Op.call { callee := Callee.builtin Builtin.append, args := #[Operand.tmp 62, Operand.tmp 67], argTypes := #[43, 43] }, type := 43, pos := "outright.go:159", after := #[{ on := 1, ground := Ground.data }, { on := 6, ground := Ground.data }], guard := none }) rfl (fun K hK => ?_) AllReadyU.nil)
          rw [if_pos (by rfl)]
          refine wp_append_own_at (.tmp 62) (.tmp 67) 43 rfl (w2.heap.size + 1) 45 i45_ _ 4 72 Tryd.underlying43 hi45 hz450 hz451 hz452 rfl (by decide) _ _ _ rfl (hri.alloc (.cells #[.int .i64 y.kind, .string Y, .slice e.kp y.keys.length e.kc, .slice e.ip y.items.length e.ic] 45)) ⟨wv.drew.heap.size, 0, none⟩ 1 1 [.int .i64 y.kind, .string Y, .slice e.kp y.keys.length e.kc, .slice e.ip y.items.length e.ic] rfl rfl (new_cells _ _ _) (fun u hu => by simp only [List.mem_cons, List.not_mem_nil, or_false] at hu; rcases hu with rfl | rfl | rfl | rfl <;> rfl) (by unfold maxLen; omega) (by omega) (by have := HOV2.out.vB; have := (Array.getElem?_eq_some_iff.1 HOV2.out.hd).1; simp; omega) ?_; intro iv2 w8 hi2 hgi hat3; have F7 := F6.trans (FrP.of_row hgi (fun k hk => hk)); obtain ⟨y1, y2, _⟩ := HS12.out _ F7; obtain ⟨pi2, ci2, rfl⟩ := row_form hi2
          refine hK.out _ _ (fun _ => HS12.out _ F7) (fun hS2 => ?_)
          replace hS2 := hS2 (by decide)
          clear hK K
          try simp only [Act.put, List.setIfInBounds_toArray, List.set_cons_zero, List.set_cons_succ]
          refine wpAnyU_pure (i := 8) (oi := { dst := some 69, op := Op.fieldAddr 45 (Operand.tmp 8) 3, type := 0, pos := "outright.go:159", after := #[{ on := 0, ground := Ground.phase }, { on := 1, ground := Ground.phase }, { on := 2, ground := Ground.phase }, { on := 3, ground := Ground.phase }, { on := 4, ground := Ground.phase }, { on := 5, ground := Ground.phase }, { on := 6, ground := Ground.phase }, { on := 7, ground := Ground.phase }], guard := none }) (v := ?_) rfl (by kernel_rfl) (by kernel_rfl) (by kernel_rfl) (by kernel_rfl) (fun _ _ _ h => h) (Or.inl ⟨by rfl, ?_⟩) (fun _ => by assumption) ?_
          rotate_left
          · intro w _; go_simp; with_reducible rfl
          try simp only [Act.put, List.setIfInBounds_toArray, List.set_cons_zero, List.set_cons_succ]
          refine wpAnyU_ready (rs := [9]) (by kernel_rfl) (by simp) (AllReadyU.cons (o := { dst := none, op := Op.store 43 (Operand.tmp 69) (Operand.tmp 68), type := 0, pos := "outright.go:159", after := #[{ on := 8, ground := Ground.data }, { on := 7, ground := Ground.data }, { on := 7, ground := Ground.chain }, { on := 0, ground := Ground.phase }, { on := 1, ground := Ground.phase }, { on := 2, ground := Ground.phase }, { on := 3, ground := Ground.phase }, { on := 4, ground := Ground.phase }, { on := 5, ground := Ground.phase }, { on := 6, ground := Ground.phase }, { on := 7, ground := Ground.phase }], guard := none }) rfl (fun K hK => ?_) AllReadyU.nil)
          rw [if_pos (by rfl)]
          go_simp
          refine hK.out _ _ (fun h => absurd h (by decide)) (fun _ => ?_)
          clear hK K
          try simp only [Act.put, List.setIfInBounds_toArray, List.set_cons_zero, List.set_cons_succ]
          refine wpAnyU_done (by kernel_rfl) ?_ _
          obtain ⟨hO3, F3⟩ := OV.addI (c := e) (HOV2.out.below (Below.refl _ _).drew) (World.grownBy_alloc wv.drew (.cells #[.int .i64 y.kind, .string Y, .slice e.kp y.keys.length e.kc, .slice e.ip y.items.length e.ic] 45) none) hgi (by rw [ic_cells, HUY.out.2.1, HUY.out.2.2]; exact hi2)
          go_wp2_with fail
          go_roundw
          case rel => exact ⟨i + 1, _, _, by go_num, by omega, by rw [HUE.out.1, HUE.out.2]; exact hO3, below_fr hB3.drew (Nat.le_refl _) F3 (fun b hb => hb)⟩
          case measure => simp [RowKit.intOf]; omega
        · have hii : n = i := by omega
          subst hii
          have hBa : Below W0.heap.size W0 wr := HB2.out.trans (hB.mono HB2.out.size)
          obtain ⟨X, hX⟩ : ∃ X, X = wr := ⟨_, rfl⟩
          have hpos := hn0
          obtain ⟨h1, h2⟩ := HN.out
          have h2' : (itsOf L).length = n := by rw [List.length_map]; exact h2
          have hIC : ∀ c ∈ turnL L ic0 tt n, KI wr c.y c.kp c.kc c.ip c.ic ∧ c.y.str.length ≤ maxLen ∧ c.y.wt < 1500 := fun c hc => by
            have hm := turnL_mem hc (by omega)
            obtain ⟨j, hj⟩ := List.getElem?_of_mem hm
            obtain ⟨_, h3, h4⟩ := HR.out j c hj
            have h5 := mem_wt (List.mem_map_of_mem (f := (·.y)) hm)
            have h6 := HWT.out
            rw [JV.wt] at h6
            exact ⟨h3.stay (Below.on HBW.out hBa), h4, by show c.y.wt < 1500; have : wtL (itsOf L) = wtL (L.map (·.y)) := rfl; omega⟩
          have hkb : KI wr (.mk 6 [] (turnL l [] tt n) (itsOf (turnL L ic0 tt n))) pk ck pi ci := hO.ki (fun c hc => ⟨(hIC c hc).1, (hIC c hc).2.1⟩) ⟨by rw [turnL_len]; unfold maxLen; omega, by rw [turnL_len]; unfold maxLen; omega, fun s hs => HKL.out s (turnL_mem hs (by omega))⟩
          have hsm := turn_same tt HC0.out (by omega)
          rw [h1, ← its_turn] at hsm
          have hwb := turn_wt (t := tt) HWT.out h1 h2' hn hpos
          rw [← its_turn] at hwb
          have hlb1 : (turnL l [] tt n).length = n := turnL_len ..
          have hlb2 : (turnL L ic0 tt n).length = n := turnL_len ..
          have HWA : Hid ((JV.mk 6 [] l (itsOf L)).wt ≤ 1000000) := Lib.hid (by have := HWT.out; omega)
          have HBW2 : Hid ((JV.mk 6 [] (turnL l [] tt n) (itsOf (turnL L ic0 tt n))).wt ≤ 1000000) := Lib.hid (by omega)
          have HBN := Lib.hid (And.intro hlb1 hlb2)
          have HTX : Hid (∀ V, Below X.heap.size X V → Tabs V) := Lib.hid fun V hV => by subst hX; exact HT.out V (hBa.trans (hV.mono hBa.size))
          have HKAX : Hid (∀ V, Below X.heap.size X V → KI V (.mk 6 [] l (itsOf L)) (some a) c (some a') d) := Lib.hid fun V hV => by subst hX; exact HKA.out V (hBa.trans (hV.mono hBa.size))
          have HKB : Hid (∀ V, Below X.heap.size X V → KI V (.mk 6 [] (turnL l [] tt n) (itsOf (turnL L ic0 tt n))) pk ck pi ci) := Lib.hid fun V hV => by subst hX; exact hkb.stay hV
          have HBAX : Hid (∀ V, Below X.heap.size X V → V.cell? ⟨w.heap.size, 0, none⟩ = some (.int .i64 6) ∧ V.cell? ⟨w.heap.size, 1, none⟩ = some (.string ⟨#[]⟩) ∧ V.cell? ⟨w.heap.size, 2, none⟩ = some (.slice (some a) n c) ∧ V.cell? ⟨w.heap.size, 3, none⟩ = some (.slice (some a') n d)) := Lib.hid fun V hV => by subst hX; exact HBA.out V (hBa.trans (hV.mono hBa.size))
          have HBBX : Hid (∀ V, Below X.heap.size X V → V.cell? ⟨w2.heap.size, 0, none⟩ = some (.int .i64 6) ∧ V.cell? ⟨w2.heap.size, 1, none⟩ = some (.string ⟨#[]⟩) ∧ V.cell? ⟨w2.heap.size, 2, none⟩ = some (.slice pk n ck) ∧ V.cell? ⟨w2.heap.size, 3, none⟩ = some (.slice pi n ci)) := Lib.hid fun V hV => by subst hX; exact cells4 ((hV.block w2.heap.size (Array.getElem?_eq_some_iff.1 hO.hd).1).trans hO.hd)
          have HOX : Hid (∀ V, Below X.heap.size X V → OV V (w2.heap.size + 1) w2.heap.size n n (turnL l [] tt n) (turnL L ic0 tt n) (.slice pk n ck) (.slice pi n ci)) := Lib.hid fun V hV => by subst hX; exact hO.below hV
          have HSX : Hid (∀ V, Below X.heap.size X V → StrsP V (some a) l ∧ JRow V (some a') L) := Lib.hid fun V hV => by
            subst hX
            have h3 := Below.on HBW.out (hBa.trans (hV.mono hBa.size))
            exact ⟨HS.out.below h3, HR.out.below h3⟩
          have HICX : Hid (∀ V, Below X.heap.size X V → ∀ c ∈ turnL L ic0 tt n, KI V c.y c.kp c.kc c.ip c.ic ∧ c.y.str.length ≤ maxLen ∧ c.y.wt < 1500) := Lib.hid fun V hV c hc => by
            subst hX
            exact ⟨(hIC c hc).1.stay hV, (hIC c hc).2⟩
          have hbX : Below w.heap.size w X := by subst hX; exact Below.on HBW.out hBa
          have h26 := same6 (HTX.out X (Below.refl _ _)) (HKAX.out X (Below.refl _ _)) (HKB.out X (Below.refl _ _)) HWA.out HBW2.out h1 h2 hlb1 hlb2 hsm.1
          have HSM2 := Lib.hid hsm.2
          have HWX := Lib.hid hwb.2
          have HFD : Hid (∀ (i : Nat) (u : List UInt8) (y : JV), l[i]? = some u → (itsOf L)[i]? = some y → fieldV (.mk 6 [] (turnL l [] tt n) (itsOf (turnL L ic0 tt n))) u = some y) := Lib.hid fun i u y hu hy => by
            have := turn_field tt HC0.out (by omega) hu hy
            rw [h1, ← its_turn] at this
            exact this
          have HOT : Hid (∀ (y : JV) (r : List JV), itsOf (turnL L ic0 tt n) = y :: r → sameB (.mk 6 [] l (itsOf L)) (.mk 6 [] (turnL l [] tt n) (.mk 5 [] [] [y] :: r)) = false ∧ sameB (.mk 6 [] (turnL l [] tt n) (.mk 5 [] [] [y] :: r)) (.mk 6 [] l (itsOf L)) = false) := Lib.hid fun y r hr => by
            have := turn_other tt HC0.out (by omega) (by rw [h1, ← its_turn]; exact hr)
            rw [h1] at this
            exact this
          obtain ⟨c0, c1, c2, c3⟩ := HBAX.out X (Below.refl _ _)
          obtain ⟨d0, d1, d2, d3⟩ := HBBX.out X (Below.refl _ _)
          have HBX := Lib.hid hbX
          clear hO hB hBa hIC hkb hsm hwb h1 h2 h2' hlb1 hlb2 hpos hi hbX
          subst hX
          go_wp2_with (first
            | (with_reducible (show Calls _ _ _ X _); go_at_call 26; refine h26.mono ?_; rintro e w4 ⟨rfl, hb4⟩; clear c0 c1 c2 c3 d0 d1 d2 d3; obtain ⟨c0, c1, c2, c3⟩ := HBAX.out w4 hb4; obtain ⟨d0, d1, d2, d3⟩ := HBBX.out w4 hb4
               have h26b := same6 (HTX.out w4 hb4) (HKB.out w4 hb4) (HKAX.out w4 hb4) HBW2.out HWA.out HBN.out.1 HBN.out.2 HN.out.1 HN.out.2 HSM2.out)
            | (go_at_call 26; refine h26b.mono ?_; rintro e w5 ⟨rfl, hb5⟩; have b5 := Below.on hb4 hb5))
          clear c0 c1 c2 c3 d0 d1 d2 d3 h26 h26b
          go_loopw [11] (fun iv wr => ∃ i : Nat, iv = .int .i64 i ∧ i ≤ n ∧ Below X.heap.size X wr) (fun iv _ => n - (RowKit.intOf iv).toNat)
          case atStart => exact ⟨0, rfl, Nat.zero_le _, b5⟩
          case round =>
            obtain ⟨i, rfl, hi, hB⟩ := hrel
            by_cases hin : (i : Int) < (n : Int)
            · obtain ⟨u, hu⟩ : ∃ u, l[i]? = some u := ⟨_, List.getElem?_eq_getElem (by have := HN.out.1; omega)⟩
              obtain ⟨U, hU⟩ : ∃ S : ByteArray, (⟨u.toArray⟩ : ByteArray) = S := ⟨_, rfl⟩
              obtain ⟨e, he⟩ : ∃ e, L[i]? = some e := ⟨_, List.getElem?_eq_getElem (by have := HN.out.2; omega)⟩
              obtain ⟨y, hy⟩ : ∃ y, e.y = y := ⟨_, rfl⟩
              obtain ⟨Y, hY⟩ : ∃ S : ByteArray, (⟨y.str.toArray⟩ : ByteArray) = S := ⟨_, rfl⟩
              have hf2 := HFD.out i u y hu (by rw [List.getElem?_map, he, ← hy]; rfl)
              have HF : Hid (fieldV (.mk 6 [] (turnL l [] tt n) (itsOf (turnL L ic0 tt n))) U.data.toList = some y) := Lib.hid (by rw [← hU]; exact hf2)
              have HS18 : Hid (∀ V, Below X.heap.size X V → (V.cell? ⟨w2.heap.size, 0, none⟩ = some (.int .i64 6) ∧ V.cell? ⟨w2.heap.size, 1, none⟩ = some (.string ⟨#[]⟩) ∧ V.cell? ⟨w2.heap.size, 2, none⟩ = some (.slice pk n ck) ∧ V.cell? ⟨w2.heap.size, 3, none⟩ = some (.slice pi n ci)) ∧ V.cell? (a.add i) = some (.string U)) := Lib.hid fun V hV => ⟨HBBX.out V hV, by
                obtain ⟨a1, e1, h1, _⟩ := (HSX.out V hV).1 i u hu
                cases e1
                rw [← hU]
                exact h1⟩
              have HJC : Hid (∀ V, Below X.heap.size X V → V.cell? (a'.add (i * 4)) = some (.int .i64 y.kind) ∧ V.cell? ⟨(a'.add (i * 4)).block, (a'.add (i * 4)).off + 1, none⟩ = some (.string Y) ∧ V.cell? ⟨(a'.add (i * 4)).block, (a'.add (i * 4)).off + 2, none⟩ = some (.slice e.kp y.keys.length e.kc) ∧ V.cell? ⟨(a'.add (i * 4)).block, (a'.add (i * 4)).off + 3, none⟩ = some (.slice e.ip y.items.length e.ic) ∧ True) := Lib.hid fun V hV => by
                obtain ⟨⟨a1, e1, h1⟩, _⟩ := (HSX.out V hV).2 i e he
                cases e1
                rw [hy] at h1
                have h2 := h1.c1
                rw [hY] at h2
                exact ⟨h1.c0, h2, h1.c2, h1.c3, trivial⟩
              have HKE : Hid (∀ V, Below X.heap.size X V → KI V y e.kp e.kc e.ip e.ic) := Lib.hid fun V hV => by
                have := ((HSX.out V hV).2 i e he).2.1
                rw [hy] at this
                exact this
              have HY := Lib.hid hY
              have HBW := HBW2
              clear hu hU he hy hY hf2
              go_upto_region 18 with fail
              refine wp_region_late (S := fun v => (v.cell? ⟨w2.heap.size, 0, none⟩ = some (.int .i64 6) ∧ v.cell? ⟨w2.heap.size, 1, none⟩ = some (.string ⟨#[]⟩) ∧ v.cell? ⟨w2.heap.size, 2, none⟩ = some (.slice pk n ck) ∧ v.cell? ⟨w2.heap.size, 3, none⟩ = some (.slice pi n ci)) ∧ v.cell? (a.add i) = some (.string U)) 10 (by kernel_rfl) (HS18.out _ hB.drew) (fun hHeld => ?_)
              refine wpAnyU_take (i := 0) (oi := { dst := some 87, op := Op.load 45 (Operand.tmp 8), type := 45, pos := "outright.go:165", after := #[], guard := none }) (v := ?_) [5, 6, 7, 8, 10, 11] rfl (by kernel_rfl) (by kernel_rfl) (by kernel_rfl) (by kernel_rfl) (fun _ _ _ h => h) (Or.inl ⟨by rfl, ?_⟩) (by assumption) ?_
              rotate_left
              · intro w hS; obtain ⟨⟨hS0, hS1, hS2, hS3⟩, hS4⟩ := hS; go_simp; with_reducible rfl
              try simp only [Act.put, List.setIfInBounds_toArray, List.set_cons_zero, List.set_cons_succ]
              refine wpAnyU_take (i := 1) (oi := { dst := some 88, op := Op.move (Operand.tmp 0), type := 41, pos := "outright.go:165", after := #[], guard := none }) (v := ?_) [3, 4, 5, 6, 7, 8, 10, 11] rfl (by kernel_rfl) (by kernel_rfl) (by kernel_rfl) (by kernel_rfl) (fun _ _ _ h => h) (Or.inl ⟨by rfl, ?_⟩) (by assumption) ?_
              rotate_left
              · intro w hS; obtain ⟨⟨hS0, hS1, hS2, hS3⟩, hS4⟩ := hS; go_simp; with_reducible rfl
              try simp only [Act.put, List.setIfInBounds_toArray, List.set_cons_zero, List.set_cons_succ]
              refine wpAnyU_take (i := 2) (oi := { dst := some 89, op := Op.move (Operand.tmp 11), type := 3, pos := "outright.go:165", after := #[], guard := none }) (v := ?_) [3, 4, 5, 6, 7, 8, 10, 11] rfl (by kernel_rfl) (by kernel_rfl) (by kernel_rfl) (by kernel_rfl) (fun _ _ _ h => h) (Or.inl ⟨by rfl, ?_⟩) (by assumption) ?_
              rotate_left
              · intro w hS; obtain ⟨⟨hS0, hS1, hS2, hS3⟩, hS4⟩ := hS; go_simp; with_reducible rfl
              try simp only [Act.put, List.setIfInBounds_toArray, List.set_cons_zero, List.set_cons_succ]
              refine wpAnyU_take (i := 3) (oi := { dst := some 90, op := Op.indexAddr 41 (Operand.tmp 88) (Operand.tmp 89), type := 0, pos := "outright.go:165", after := #[{ on := 1, ground := Ground.data }, { on := 2, ground := Ground.data }], guard := none }) (v := ?_) [4, 5, 6, 7, 8, 10, 11] rfl (by kernel_rfl) (by kernel_rfl) (by kernel_rfl) (by kernel_rfl) (fun _ _ _ h => h) (Or.inl ⟨by rfl, ?_⟩) (by assumption) ?_
              rotate_left
              · intro w hS; obtain ⟨⟨hS0, hS1, hS2, hS3⟩, hS4⟩ := hS; go_simp; with_reducible rfl
              try simp only [Act.put, List.setIfInBounds_toArray, List.set_cons_zero, List.set_cons_succ]
              refine wpAnyU_take (i := 4) (oi := { dst := some 91, op := Op.load 9 (Operand.tmp 90), type := 9, pos := "outright.go:165", after := #[{ on := 3, ground := Ground.data }], guard := none }) (v := ?_) [5, 6, 7, 8, 10, 11] rfl (by kernel_rfl) (by kernel_rfl) (by kernel_rfl) (by kernel_rfl) (fun _ _ _ h => h) (Or.inl ⟨by rfl, ?_⟩) (by assumption) ?_
              rotate_left
              · intro w hS; obtain ⟨⟨hS0, hS1, hS2, hS3⟩, hS4⟩ := hS; go_simp; with_reducible rfl
              try simp only [Act.put, List.setIfInBounds_toArray, List.set_cons_zero, List.set_cons_succ]
              refine wpAnyU_ready (rs := [5, 9]) (by kernel_rfl) (by simp) (AllReadyU.cons (o := { dst := some 92, op := Op.call { callee := Callee.value (Operand.func 27), args := #[Operand.tmp 87, Operand.tmp 91], argTypes := #[45, 9] }, type := 53, pos := "outright.go:165", after := #[{ on := 0, ground := Ground.data }, { on := 4, ground := Ground.data }], guard := none }) rfl (fun K hK => ?_) (AllReadyU.cons (o := { dst := some 12, op := Op.alloc 45, type := 0, pos := "outright.go:165", after := #[], guard := none }) rfl (fun K hK => ?_) AllReadyU.nil))
              · rw [if_pos (by rfl)]
                go_simp
                (go_at_call 27; refine (field6 (HKB.out _ hB.drew) HBW.out HBN.out.1 HBN.out.2 HY.out HF.out).mono ?_; rintro e1 w6 ⟨vp, vc, vp', vc', rfl, hkp, _, hb6⟩; have b6 := Below.on hB.drew hb6)
                refine hK.out _ _ (fun _ => HS18.out _ b6) (fun hS2 => ?_)
                replace hS2 := hS2 (by decide)
                clear hK K
                try simp only [Act.put, List.setIfInBounds_toArray, List.set_cons_zero, List.set_cons_succ]
                refine wpAnyU_pure (i := 6) (oi := { dst := some 86, op := Op.move (Operand.tmp 92), type := 53, pos := "outright.go:165", after := #[{ on := 5, ground := Ground.data }], guard := none }) (v := ?_) rfl (by kernel_rfl) (by kernel_rfl) (by kernel_rfl) (by kernel_rfl) (fun _ _ _ h => h) (Or.inl ⟨by rfl, ?_⟩) (fun _ => by assumption) ?_
                rotate_left
                · intro w _; go_simp; with_reducible rfl
                try simp only [Act.put, List.setIfInBounds_toArray, List.set_cons_zero, List.set_cons_succ]
                refine wpAnyU_pure (i := 7) (oi := { dst := some 93, op := Op.extract (Operand.tmp 86) 0, type := 45, pos := "outright.go:165", after := #[{ on := 6, ground := Ground.data }], guard := none }) (v := ?_) rfl (by kernel_rfl) (by kernel_rfl) (by kernel_rfl) (by kernel_rfl) (fun _ _ _ h => h) (Or.inl ⟨by rfl, ?_⟩) (fun _ => by assumption) ?_
                rotate_left
                · intro w _; go_simp; with_reducible rfl
                try simp only [Act.put, List.setIfInBounds_toArray, List.set_cons_zero, List.set_cons_succ]
                refine wpAnyU_pure (i := 8) (oi := { dst := some 94, op := Op.extract (Operand.tmp 86) 1, type := 4, pos := "outright.go:165", after := #[{ on := 6, ground := Ground.data }, { on := 10, ground := Ground.gcOnly Departure.lateStores }], guard := none }) (v := ?_) rfl (by kernel_rfl) (by kernel_rfl) (by kernel_rfl) (by kernel_rfl) (fun _ _ _ h => h) (Or.inl ⟨by rfl, ?_⟩) (fun _ => by assumption) ?_
                rotate_left
                · intro w _; go_simp; with_reducible rfl
                try simp only [Act.put, List.setIfInBounds_toArray, List.set_cons_zero, List.set_cons_succ]
                refine wpAnyU_ready (rs := [9]) (by kernel_rfl) (by simp) (AllReadyU.cons (o := { dst := some 12, op := Op.alloc 45, type := 0, pos := "outright.go:165", after := #[], guard := none }) rfl (fun K hK => ?_) AllReadyU.nil)
                rw [if_pos (by rfl)]
                go_simp
                refine hK.out _ _ (fun _ => HS18.out _ (b6.alloc b6.size _)) (fun hS2 => ?_)
                replace hS2 := hS2 (by decide)
                clear hK K
                try simp only [Act.put, List.setIfInBounds_toArray, List.set_cons_zero, List.set_cons_succ]
                refine wpAnyU_ready (rs := [10]) (by kernel_rfl) (by simp) (AllReadyU.cons (o := { dst := none, op := Op.store 45 (Operand.tmp 12) (Operand.tmp 93), type := 0, pos := "outright.go:165", after := #[{ on := 9, ground := Ground.data }, { on := 7, ground := Ground.data }, { on := 5, ground := Ground.chain }, { on := 0, ground := Ground.phase }, { on := 1, ground := Ground.phase }, { on := 2, ground := Ground.phase }, { on := 3, ground := Ground.phase }, { on := 4, ground := Ground.phase }, { on := 5, ground := Ground.phase }, { on := 6, ground := Ground.phase }, { on := 7, ground := Ground.phase }, { on := 8, ground := Ground.textOnly Departure.lateStores }, { on := 9, ground := Ground.phase }], guard := none }) rfl (fun K hK => ?_) AllReadyU.nil)
                rw [if_pos (by rfl)]
                have th8 := there4 (alloc_at w6 (.cells #[.int .i64 0, .string ⟨#[]⟩, .slice none 0 0, .slice none 0 0] 45)); obtain ⟨hd8, gb8⟩ := setCells_all (v0 := .int .i64 y.kind) (v1 := .string Y) (v2 := .slice vp y.keys.length vc) (v3 := .slice vp' y.items.length vc') (alloc_at w6 (.cells #[.int .i64 0, .string ⟨#[]⟩, .slice none 0 0, .slice none 0 0] 45)); refine wp_store_el (.tmp 12) (.tmp 93) rfl w6.heap.size 0 (.int .i64 y.kind) (.string Y) (.slice vp y.keys.length vc) (.slice vp' y.items.length vc') rfl rfl th8 (by simp [Value.oneCell']) ?_; intro W8 H8; rw [← H8.out] at hd8 gb8
                refine hK.out _ _ (fun h => absurd h (by decide)) (fun _ => ?_)
                clear hK K
                try simp only [Act.put]
                refine wpAnyU_pure (i := 11) (oi := { dst := some 13, op := Op.assign (Operand.tmp 94), type := 4, pos := "outright.go:165", after := #[{ on := 8, ground := Ground.data }, { on := 10, ground := Ground.chain }, { on := 0, ground := Ground.phase }, { on := 1, ground := Ground.phase }, { on := 2, ground := Ground.phase }, { on := 3, ground := Ground.phase }, { on := 4, ground := Ground.phase }, { on := 5, ground := Ground.phase }, { on := 6, ground := Ground.phase }, { on := 7, ground := Ground.phase }, { on := 8, ground := Ground.phase }, { on := 9, ground := Ground.phase }, { on := 10, ground := Ground.phase }], guard := none }) (v := ?_) rfl (by kernel_rfl) (by kernel_rfl) (by kernel_rfl) (by kernel_rfl) (fun _ _ _ h => h) (Or.inl ⟨by rfl, ?_⟩) (fun h => absurd h (by decide)) ?_
                rotate_left
                · intro w _; go_simp; with_reducible rfl
                try simp only [Act.put, List.setIfInBounds_toArray, List.set_cons_zero, List.set_cons_succ]
                refine wpAnyU_done (by kernel_rfl) ?_ _
                have hb8 : Below X.heap.size X W8 := below_fr (b6.alloc b6.size (.cells #[.int .i64 0, .string ⟨#[]⟩, .slice none 0 0, .slice none 0 0] 45)) (Nat.le_refl _) (FrP.of (P := fun b => b = w6.heap.size) gb8 rfl) (fun b hb => by have := b6.size; omega)
                have hd9 := hd8
                have HKP8 : Hid (KI W8 y vp vc vp' vc') := Lib.hid (kp_new hkp (FrP.of_none (World.grownBy_alloc w6 (.cells #[.int .i64 0, .string ⟨#[]⟩, .slice none 0 0, .slice none 0 0] 45) none)) gb8 (Or.inl rfl))
                clear hd8 gb8 H8 th8 hHeld hkp hb6 b6
                obtain ⟨z0, z1, z2, z3⟩ := cells4 hd9
                have hb8d := Below.on hb8 (Below.refl W8.heap.size W8).drew
                have hd9d : W8.drew.heap[w6.heap.size]? = _ := hd9
                obtain ⟨z0', z1', z2', z3'⟩ := cells4 hd9d
                obtain ⟨x0, x1, x2, x3, _⟩ := HJC.out W8 hb8
                obtain ⟨x0', x1', x2', x3', _⟩ := HJC.out W8.drew hb8d
                have h24 := equal_is (kp := vp) (kc := vc) (ip := vp') (ic := vc') (HKP8.out.stay (Below.refl W8.heap.size W8).drew) (HKE.out W8.drew hb8d) HY.out HY.out W8.drew (Below.refl _ _)
                rw [eqV_refl] at h24
                have H24 := Lib.hid h24
                clear h24
                go_wp2_with fail
                go_still_tail 8, (by kernel_rfl)
                change wpList _ _ _ _ _ W8.drew
                have h24 := H24.out
                clear x0 x1 x2 x3 z0 z1 z2 z3 H24
                generalize W8.drew = wd at *
                go_wp2_with (first | (go_at_call 24; refine h24.mono ?_; rintro e2 w9 ⟨rfl, hb9⟩))
                go_roundw
                case rel => exact ⟨i + 1, by go_num, by omega, Below.on hb8d hb9⟩
                case measure => simp [RowKit.intOf]; omega
              · rw [if_pos (by rfl)]
                go_simp
                (have bz : Below X.heap.size X (wr.drew.alloc (.cells #[.int .i64 0, .string ⟨#[]⟩, .slice none 0 0, .slice none 0 0] 45)) := hB.drew.alloc hB.size _)
                refine hK.out _ _ (fun _ => HS18.out _ bz) (fun hS2 => ?_)
                replace hS2 := hS2 (by decide)
                clear hK K
                try simp only [Act.put, List.setIfInBounds_toArray, List.set_cons_zero, List.set_cons_succ]
                refine wpAnyU_ready (rs := [5]) (by kernel_rfl) (by simp) (AllReadyU.cons (o := { dst := some 92, op := Op.call { callee := Callee.value (Operand.func 27), args := #[Operand.tmp 87, Operand.tmp 91], argTypes := #[45, 9] }, type := 53, pos := "outright.go:165", after := #[{ on := 0, ground := Ground.data }, { on := 4, ground := Ground.data }], guard := none }) rfl (fun K hK => ?_) AllReadyU.nil)
                rw [if_pos (by rfl)]
                go_simp
                (go_at_call 27; refine (field6 (HKB.out _ bz) HBW.out HBN.out.1 HBN.out.2 HY.out HF.out).mono ?_; rintro e1 w6 ⟨vp, vc, vp', vc', rfl, hkp, _, hb6⟩; have b6 := Below.on bz hb6)
                refine hK.out _ _ (fun _ => HS18.out _ b6) (fun hS2 => ?_)
                replace hS2 := hS2 (by decide)
                clear hK K
                try simp only [Act.put, List.setIfInBounds_toArray, List.set_cons_zero, List.set_cons_succ]
                refine wpAnyU_pure (i := 6) (oi := { dst := some 86, op := Op.move (Operand.tmp 92), type := 53, pos := "outright.go:165", after := #[{ on := 5, ground := Ground.data }], guard := none }) (v := ?_) rfl (by kernel_rfl) (by kernel_rfl) (by kernel_rfl) (by kernel_rfl) (fun _ _ _ h => h) (Or.inl ⟨by rfl, ?_⟩) (fun _ => by assumption) ?_
                rotate_left
                · intro w _; go_simp; with_reducible rfl
                try simp only [Act.put, List.setIfInBounds_toArray, List.set_cons_zero, List.set_cons_succ]
                refine wpAnyU_pure (i := 7) (oi := { dst := some 93, op := Op.extract (Operand.tmp 86) 0, type := 45, pos := "outright.go:165", after := #[{ on := 6, ground := Ground.data }], guard := none }) (v := ?_) rfl (by kernel_rfl) (by kernel_rfl) (by kernel_rfl) (by kernel_rfl) (fun _ _ _ h => h) (Or.inl ⟨by rfl, ?_⟩) (fun _ => by assumption) ?_
                rotate_left
                · intro w _; go_simp; with_reducible rfl
                try simp only [Act.put, List.setIfInBounds_toArray, List.set_cons_zero, List.set_cons_succ]
                refine wpAnyU_pure (i := 8) (oi := { dst := some 94, op := Op.extract (Operand.tmp 86) 1, type := 4, pos := "outright.go:165", after := #[{ on := 6, ground := Ground.data }, { on := 10, ground := Ground.gcOnly Departure.lateStores }], guard := none }) (v := ?_) rfl (by kernel_rfl) (by kernel_rfl) (by kernel_rfl) (by kernel_rfl) (fun _ _ _ h => h) (Or.inl ⟨by rfl, ?_⟩) (fun _ => by assumption) ?_
                rotate_left
                · intro w _; go_simp; with_reducible rfl
                try simp only [Act.put, List.setIfInBounds_toArray, List.set_cons_zero, List.set_cons_succ]
                refine wpAnyU_ready (rs := [10]) (by kernel_rfl) (by simp) (AllReadyU.cons (o := { dst := none, op := Op.store 45 (Operand.tmp 12) (Operand.tmp 93), type := 0, pos := "outright.go:165", after := #[{ on := 9, ground := Ground.data }, { on := 7, ground := Ground.data }, { on := 5, ground := Ground.chain }, { on := 0, ground := Ground.phase }, { on := 1, ground := Ground.phase }, { on := 2, ground := Ground.phase }, { on := 3, ground := Ground.phase }, { on := 4, ground := Ground.phase }, { on := 5, ground := Ground.phase }, { on := 6, ground := Ground.phase }, { on := 7, ground := Ground.phase }, { on := 8, ground := Ground.textOnly Departure.lateStores }, { on := 9, ground := Ground.phase }], guard := none }) rfl (fun K hK => ?_) AllReadyU.nil)
                rw [if_pos (by rfl)]
                have th8 := there4 ((hb6.block wr.heap.size (by simp)).trans (alloc_at wr.drew (.cells #[.int .i64 0, .string ⟨#[]⟩, .slice none 0 0, .slice none 0 0] 45))); obtain ⟨hd8, gb8⟩ := setCells_all (v0 := .int .i64 y.kind) (v1 := .string Y) (v2 := .slice vp y.keys.length vc) (v3 := .slice vp' y.items.length vc') ((hb6.block wr.heap.size (by simp)).trans (alloc_at wr.drew (.cells #[.int .i64 0, .string ⟨#[]⟩, .slice none 0 0, .slice none 0 0] 45))); refine wp_store_el (.tmp 12) (.tmp 93) rfl wr.heap.size 0 (.int .i64 y.kind) (.string Y) (.slice vp y.keys.length vc) (.slice vp' y.items.length vc') rfl rfl th8 (by simp [Value.oneCell']) ?_; intro W8 H8; rw [← H8.out] at hd8 gb8
                refine hK.out _ _ (fun h => absurd h (by decide)) (fun _ => ?_)
                clear hK K
                try simp only [Act.put]
                refine wpAnyU_pure (i := 11) (oi := { dst := some 13, op := Op.assign (Operand.tmp 94), type := 4, pos := "outright.go:165", after := #[{ on := 8, ground := Ground.data }, { on := 10, ground := Ground.chain }, { on := 0, ground := Ground.phase }, { on := 1, ground := Ground.phase }, { on := 2, ground := Ground.phase }, { on := 3, ground := Ground.phase }, { on := 4, ground := Ground.phase }, { on := 5, ground := Ground.phase }, { on := 6, ground := Ground.phase }, { on := 7, ground := Ground.phase }, { on := 8, ground := Ground.phase }, { on := 9, ground := Ground.phase }, { on := 10, ground := Ground.phase }], guard := none }) (v := ?_) rfl (by kernel_rfl) (by kernel_rfl) (by kernel_rfl) (by kernel_rfl) (fun _ _ _ h => h) (Or.inl ⟨by rfl, ?_⟩) (fun h => absurd h (by decide)) ?_
                rotate_left
                · intro w _; go_simp; with_reducible rfl
                try simp only [Act.put, List.setIfInBounds_toArray, List.set_cons_zero, List.set_cons_succ]
                refine wpAnyU_done (by kernel_rfl) ?_ _
                have hb8 : Below X.heap.size X W8 := below_fr b6 (Nat.le_refl _) (FrP.of (P := fun b => b = wr.heap.size) gb8 rfl) (fun b hb => by have := hB.size; omega)
                have hd9 := hd8
                have HKP8 : Hid (KI W8 y vp vc vp' vc') := Lib.hid (kp_new hkp (FrP.refl _ w6) gb8 (Or.inr (by simp)))
                clear hd8 gb8 H8 th8 hHeld hkp hb6 b6
                obtain ⟨z0, z1, z2, z3⟩ := cells4 hd9
                have hb8d := Below.on hb8 (Below.refl W8.heap.size W8).drew
                have hd9d : W8.drew.heap[wr.heap.size]? = _ := hd9
                obtain ⟨z0', z1', z2', z3'⟩ := cells4 hd9d
                obtain ⟨x0, x1, x2, x3, _⟩ := HJC.out W8 hb8
                obtain ⟨x0', x1', x2', x3', _⟩ := HJC.out W8.drew hb8d
                have h24 := equal_is (kp := vp) (kc := vc) (ip := vp') (ic := vc') (HKP8.out.stay (Below.refl W8.heap.size W8).drew) (HKE.out W8.drew hb8d) HY.out HY.out W8.drew (Below.refl _ _)
                rw [eqV_refl] at h24
                have H24 := Lib.hid h24
                clear h24
                go_wp2_with fail
                go_still_tail 8, (by kernel_rfl)
                change wpList _ _ _ _ _ W8.drew
                have h24 := H24.out
                clear x0 x1 x2 x3 z0 z1 z2 z3 H24
                generalize W8.drew = wd at *
                go_wp2_with (first | (go_at_call 24; refine h24.mono ?_; rintro e2 w9 ⟨rfl, hb9⟩))
                go_roundw
                case rel => exact ⟨i + 1, by go_num, by omega, Below.on hb8d hb9⟩
                case measure => simp [RowKit.intOf]; omega
            · have hii : n = i := by omega
              subst hii
              obtain ⟨d0, d1, d2, d3⟩ := HBBX.out wr hB
              go_upto_region 24 with fail
              obtain ⟨V2, hV2⟩ : ∃ V, wr.alloc (.cells #[.int .i64 6, .string ⟨#[]⟩, .slice pk n ck, .slice none 0 0] 45) = V := ⟨_, rfl⟩
              rw [hV2]
              have hv2 := alloc_b hV2
              have hB2 := Below.on hB hv2
              have HBC := Lib.hid (box_of hV2)
              obtain ⟨e, r, hLb⟩ : ∃ e r, turnL L ic0 tt n = e :: r := by
                cases hr : turnL L ic0 tt n with
                | nil => have := HBN.out.2; rw [hr] at this; simp at this; omega
                | cons e r => exact ⟨e, r, rfl⟩
              have hO2 := HOX.out V2 hB2
              rw [hLb] at hO2
              have hpi : ∃ gi, pi = some ⟨gi, 0, none⟩ := by
                rcases hO2.ri.2 with ⟨_, h⟩ | ⟨g, cap, cur, h, _⟩
                · omega
                · cases h; exact ⟨g, rfl⟩
              obtain ⟨gi, rfl⟩ := hpi
              obtain ⟨y, hy⟩ : ∃ y, e.y = y := ⟨_, rfl⟩
              obtain ⟨Y, hY⟩ : ∃ S : ByteArray, (⟨y.str.toArray⟩ : ByteArray) = S := ⟨_, rfl⟩
              obtain ⟨i45_, hi45, hz450, hz451, hz452⟩ := info_parts info45
              obtain ⟨g0, g1, g2, g3⟩ := HBC.out V2 (Below.refl _ _)
              obtain ⟨f0, f1', f2', f3'⟩ := HBBX.out V2 hB2
              have hcs : ∀ j u, (rowC (e :: r))[j]? = some u → V2.cell? ((⟨gi, 0, none⟩ : Addr).add j) = some u := fun j u hu => hO2.ri.cells (g := gi) rfl j u hu
              have hrl : (rowC (e :: r)).length = n * 4 := hO2.ri.1
              have hone : ∀ u ∈ rowC (e :: r), u.oneCell' = true := fun u hu => by
                obtain ⟨c1, _, h1⟩ := List.mem_flatMap.1 hu
                unfold IC.cells at h1
                simp only [List.mem_cons, List.not_mem_nil, or_false] at h1
                rcases h1 with rfl | rfl | rfl | rfl <;> rfl
              have HCS := Lib.hid hcs
              have HONE := Lib.hid hone
              have HLB := Lib.hid hLb
              have HEY := Lib.hid (And.intro hy hY)
              have hfz : V2.frozen? ⟨wr.heap.size, 3, none⟩ = false := by
                have hh : V2.heap[wr.heap.size]? = some (.cells #[.int .i64 6, .string ⟨#[]⟩, .slice pk n ck, .slice none 0 0] 45 (0, 0)) := by rw [← hV2]; exact alloc_at wr _
                simp [World.frozen?, hh]
              clear hcs hone hLb hy hY hO2
              go_wp2_with (first
                | (at_builtin; refine wpList_append_own _ rfl (.tmp 114) (.tmp 116) 43 rfl V2.heap.size 45 i45_ _ 4 72 Tryd.underlying43 hi45 hz450 hz451 hz452 rfl (by decide) (.slice none 0 0) 0 [] rfl ⟨rfl, .inl ⟨rfl, rfl⟩⟩ ⟨gi, 0, none⟩ n ci (rowC (e :: r)) rfl hrl HCS.out HONE.out (by unfold maxLen; omega) (by omega) (Nat.le_refl _) ?_
                   intro v' w' hown' hgrow _
                   rw [Nat.zero_add, List.nil_append] at hown'
                   obtain ⟨g, cg, rfl⟩ : ∃ g cg, v' = .slice (some ⟨g, 0, none⟩) n cg := by
                     rcases hown'.2 with ⟨_, h⟩ | ⟨g, cap, cur, h, _⟩
                     · omega
                     · exact ⟨g, cap, h⟩
                   have bw' : Below V2.heap.size V2 w' := ⟨hgrow.os, hgrow.tape, hgrow.output, hgrow.size, fun k hk => hgrow.block k hk (by simp [Value.ownBlock])⟩
                   obtain ⟨k0, k1, k2, k3⟩ := HBC.out w' bw'
                   have hfz' : w'.frozen? ⟨wr.heap.size, 3, none⟩ = false := (bw'.frozen (p := ⟨wr.heap.size, 3, none⟩) (by rw [← hV2]; simp)).trans hfz
                   have hgl := row_lt hown' (b := g) rfl))
              obtain ⟨wc, hwc⟩ : ∃ wc, w'.setCell ⟨wr.heap.size, 3, none⟩ (.slice (some ⟨g, 0, none⟩) n cg) = wc := ⟨_, rfl⟩
              rw [hwc]
              have gbc : w'.grownBy wc (some wr.heap.size) := by rw [← hwc]; exact gb_set _ _ _ _
              have hcx : wr.heap.size < V2.heap.size := by rw [← hV2]; simp
              have hXc : X.heap.size ≤ wr.heap.size := hB.size
              have hV2s := hB2.size
              have hrow : wc.ownsRow V2.heap.size 45 4 (.slice (some ⟨g, 0, none⟩) n cg) n (rowC (e :: r)) := row_fr hown' (FrP.of (P := fun b => b = wr.heap.size) gbc rfl) (fun b hb e1 => by have := (row_lt hown' hb).1; omega)
              have hcb : wc.heap[wr.heap.size]? = some (.cells #[.int .i64 6, .string ⟨#[]⟩, .slice pk n ck, .slice (some ⟨g, 0, none⟩) n cg] 45 (0, 0)) := by
                rw [← hwc]
                exact heap_setCell_self ((bw'.block _ hcx).trans (by rw [← hV2]; exact alloc_at wr _)) 3 _
              have hbc : Below X.heap.size X wc := below_fr (Below.on hB2 bw') (Nat.le_refl _) (FrP.of (P := fun b => b = wr.heap.size) gbc rfl) (fun b hb => by omega)
              have HS25 : Hid (∀ wx, FrP (fun _ => False) wc wx → wx.cell? ⟨wr.heap.size, 3, none⟩ = some (.slice (some ⟨g, 0, none⟩) n cg) ∧ wx.cell? ⟨g, 0, none⟩ = some (.int .i64 y.kind) ∧ wx.cell? ⟨g, 1, none⟩ = some (.string Y) ∧ wx.cell? ⟨g, 2, none⟩ = some (.slice e.kp y.keys.length e.kc) ∧ wx.cell? ⟨g, 3, none⟩ = some (.slice e.ip y.items.length e.ic)) := Lib.hid fun wx F => by
                have e1 := (F.block wr.heap.size (Array.getElem?_eq_some_iff.1 hcb).1 id).trans hcb
                have hr := row_fr hrow F (fun _ _ h => h)
                have x0 := hr.cells (g := g) rfl 0 _ (show (rowC (e :: r))[0]? = some (.int .i64 e.y.kind) from rfl)
                have x1 := hr.cells (g := g) rfl 1 _ (show (rowC (e :: r))[1]? = some (.string ⟨e.y.str.toArray⟩) from rfl)
                have x2 := hr.cells (g := g) rfl 2 _ (show (rowC (e :: r))[2]? = some (.slice e.kp e.y.keys.length e.kc) from rfl)
                have x3 := hr.cells (g := g) rfl 3 _ (show (rowC (e :: r))[3]? = some (.slice e.ip e.y.items.length e.ic) from rfl)
                rw [add0] at x0 x1 x2 x3
                rw [HEY.out.1] at x0 x1 x2 x3
                rw [HEY.out.2] at x1
                exact ⟨by simp [World.cell?, e1], x0, x1, x2, x3⟩
              have HCB := Lib.hid hcb
              have HBCX := Lib.hid hbc
              have hwz : w'.heap.size = wc.heap.size := by rw [← hwc]; simp
              clear hcb hbc hwc gbc k0 k1 k2 k3 hfz' g0 g1 g2 g3 f0 f1' f2' f3' d0 d1 d2 d3 hfz hown' hgrow
              go_upto_region 25 with fail
              refine wp_region_late (S := fun v => v.cell? ⟨wr.heap.size, 3, none⟩ = some (.slice (some ⟨g, 0, none⟩) n cg) ∧ v.cell? ⟨g, 0, none⟩ = some (.int .i64 y.kind) ∧ v.cell? ⟨g, 1, none⟩ = some (.string Y) ∧ v.cell? ⟨g, 2, none⟩ = some (.slice e.kp y.keys.length e.kc) ∧ v.cell? ⟨g, 3, none⟩ = some (.slice e.ip y.items.length e.ic)) 9 (by kernel_rfl) (HS25.out _ (FrP.refl _ _).drew) (fun hHeld => ?_)
              refine wpAnyU_take (i := 0) (oi := { dst := some 119, op := Op.fieldAddr 45 (Operand.tmp 14) 3, type := 0, pos := "outright.go:175", after := #[], guard := none }) (v := ?_) [1, 8, 9] rfl (by kernel_rfl) (by kernel_rfl) (by kernel_rfl) (by kernel_rfl) (fun _ _ _ h => h) (Or.inl ⟨by rfl, ?_⟩) (by assumption) ?_
              rotate_left
              · intro w hS; obtain ⟨hS0, hS1, hS2, hS3, hS4⟩ := hS; go_simp; with_reducible rfl
              try simp only [Act.put, List.setIfInBounds_toArray, List.set_cons_zero, List.set_cons_succ]
              refine wpAnyU_take (i := 1) (oi := { dst := some 120, op := Op.load 43 (Operand.tmp 119), type := 43, pos := "outright.go:175", after := #[{ on := 0, ground := Ground.data }], guard := none }) (v := ?_) [8, 9] rfl (by kernel_rfl) (by kernel_rfl) (by kernel_rfl) (by kernel_rfl) (fun _ _ _ h => h) (Or.inl ⟨by rfl, ?_⟩) (by assumption) ?_
              rotate_left
              · intro w hS; obtain ⟨hS0, hS1, hS2, hS3, hS4⟩ := hS; go_simp; with_reducible rfl
              try simp only [Act.put, List.setIfInBounds_toArray, List.set_cons_zero, List.set_cons_succ]
              refine wpAnyU_take (i := 2) (oi := { dst := some 121, op := Op.fieldAddr 45 (Operand.tmp 14) 3, type := 0, pos := "outright.go:175", after := #[], guard := none }) (v := ?_) [3, 4, 5, 6, 7, 8, 9] rfl (by kernel_rfl) (by kernel_rfl) (by kernel_rfl) (by kernel_rfl) (fun _ _ _ h => h) (Or.inl ⟨by rfl, ?_⟩) (by assumption) ?_
              rotate_left
              · intro w hS; obtain ⟨hS0, hS1, hS2, hS3, hS4⟩ := hS; go_simp; with_reducible rfl
              try simp only [Act.put, List.setIfInBounds_toArray, List.set_cons_zero, List.set_cons_succ]
              refine wpAnyU_take (i := 3) (oi := { dst := some 122, op := Op.load 43 (Operand.tmp 121), type := 43, pos := "outright.go:175", after := #[{ on := 2, ground := Ground.data }], guard := none }) (v := ?_) [4, 5, 6, 7, 8, 9] rfl (by kernel_rfl) (by kernel_rfl) (by kernel_rfl) (by kernel_rfl) (fun _ _ _ h => h) (Or.inl ⟨by rfl, ?_⟩) (by assumption) ?_
              rotate_left
              · intro w hS; obtain ⟨hS0, hS1, hS2, hS3, hS4⟩ := hS; go_simp; with_reducible rfl
              try simp only [Act.put, List.setIfInBounds_toArray, List.set_cons_zero, List.set_cons_succ]
              refine wpAnyU_take (i := 4) (oi := { dst := some 123, op := Op.indexAddr 43 (Operand.tmp 122) (Operand.const (Value.int IntKind.i64 0)), type := 0, pos := "outright.go:175", after := #[{ on := 3, ground := Ground.data }], guard := none }) (v := ?_) [5, 6, 7, 8, 9] rfl (by kernel_rfl) (by kernel_rfl) (by kernel_rfl) (by kernel_rfl) (fun _ _ _ h => h) (Or.inl ⟨by rfl, ?_⟩) (by assumption) ?_
              rotate_left
              · intro w hS; obtain ⟨hS0, hS1, hS2, hS3, hS4⟩ := hS; go_simp; with_reducible rfl
              try simp only [Act.put, List.setIfInBounds_toArray, List.set_cons_zero, List.set_cons_succ]
              refine wpAnyU_take (i := 5) (oi := { dst := some 124, op := Op.load 45 (Operand.tmp 123), type := 45, pos := "outright.go:175", after := #[{ on := 4, ground := Ground.data }], guard := none }) (v := ?_) [6, 7, 8, 9] rfl (by kernel_rfl) (by kernel_rfl) (by kernel_rfl) (by kernel_rfl) (fun _ _ _ h => h) (Or.inl ⟨by rfl, ?_⟩) (by assumption) ?_
              rotate_left
              · intro w hS; obtain ⟨hS0, hS1, hS2, hS3, hS4⟩ := hS; go_simp; with_reducible rfl
              try simp only [Act.put, List.setIfInBounds_toArray, List.set_cons_zero, List.set_cons_succ]
              refine wpAnyU_ready (rs := [6]) (by kernel_rfl) (by simp) (AllReadyU.cons (o := { dst := some 125, op := Op.buildSlice 43 1 #[(0, Operand.tmp 124)], type := 43, pos := "outright.go:175", after := #[{ on := 5, ground := Ground.data }], guard := none }) rfl (fun K hK => ?_) AllReadyU.nil)
              rw [if_pos (by rfl)]
              go_simp
              (have F6 : FrP (fun _ => False) wc (wc.drew.alloc (.cells #[.int .i64 y.kind, .string Y, .slice e.kp y.keys.length e.kc, .slice e.ip y.items.length e.ic] 45)) := (FrP.refl _ _).drew.alloc _)
              refine hK.out _ _ (fun _ => HS25.out _ F6) (fun hS2 => ?_)
              replace hS2 := hS2 (by decide)
              clear hK K
              try simp only [Act.put, List.setIfInBounds_toArray, List.set_cons_zero, List.set_cons_succ]
              refine wpAnyU_pure (i := 7) (oi := { dst := some 126, op := Op.build 45 #[(0, Operand.const (Value.int IntKind.i64 5)), (3, Operand.tmp 125)], type := 45, pos := "outright.go:175", after := #[{ on := 6, ground := Ground.data }], guard := none }) (v := ?_) rfl (by kernel_rfl) (by kernel_rfl) (by kernel_rfl) (by kernel_rfl) (fun _ _ _ h => h) (Or.inl ⟨by rfl, ?_⟩) (fun _ => by assumption) ?_
              rotate_left
              · intro w _; go_simp; with_reducible rfl
              try simp only [Act.put, List.setIfInBounds_toArray, List.set_cons_zero, List.set_cons_succ]
              refine wpAnyU_pure (i := 8) (oi := { dst := some 127, op := Op.indexAddr 43 (Operand.tmp 120) (Operand.const (Value.int IntKind.i64 0)), type := 0, pos := "outright.go:175", after := #[{ on := 1, ground := Ground.data }, { on := 0, ground := Ground.phase }, { on := 1, ground := Ground.phase }, { on := 2, ground := Ground.phase }, { on := 3, ground := Ground.phase }, { on := 4, ground := Ground.phase }, { on := 5, ground := Ground.phase }, { on := 6, ground := Ground.phase }, { on := 7, ground := Ground.phase }], guard := none }) (v := ?_) rfl (by kernel_rfl) (by kernel_rfl) (by kernel_rfl) (by kernel_rfl) (fun _ _ _ h => h) (Or.inl ⟨by rfl, ?_⟩) (fun _ => by assumption) ?_
              rotate_left
              · intro w _; go_simp; with_reducible rfl
              try simp only [Act.put, List.setIfInBounds_toArray, List.set_cons_zero, List.set_cons_succ]
              refine wpAnyU_ready (rs := [9]) (by kernel_rfl) (by simp) (AllReadyU.cons (o := { dst := none, op := Op.store 45 (Operand.tmp 127) (Operand.tmp 126), type := 0, pos := "outright.go:175", after := #[{ on := 8, ground := Ground.data }, { on := 7, ground := Ground.data }, { on := 0, ground := Ground.phase }, { on := 1, ground := Ground.phase }, { on := 2, ground := Ground.phase }, { on := 3, ground := Ground.phase }, { on := 4, ground := Ground.phase }, { on := 5, ground := Ground.phase }, { on := 6, ground := Ground.phase }, { on := 7, ground := Ground.phase }], guard := none }) rfl (fun K hK => ?_) AllReadyU.nil)
              rw [if_pos (by rfl)]
              obtain ⟨hr9, gb9, th9⟩ := row_first (.int .i64 5) (.string ⟨#[]⟩) (.slice none 0 0) (.slice (some ⟨wc.drew.heap.size, 0, none⟩) 1 1) (hrow.drew.alloc (.cells #[.int .i64 y.kind, .string Y, .slice e.kp y.keys.length e.kc, .slice e.ip y.items.length e.ic] 45)); refine wp_store_el (.tmp 127) (.tmp 126) rfl g 0 (.int .i64 5) (.string ⟨#[]⟩) (.slice none 0 0) (.slice (some ⟨wc.drew.heap.size, 0, none⟩) 1 1) rfl rfl th9 (by simp [Value.oneCell']) ?_; intro W9 H9; have hW9 : W9 = (wc.drew.alloc (.cells #[.int .i64 y.kind, .string Y, .slice e.kp y.keys.length e.kc, .slice e.ip y.items.length e.ic] 45)).setCells g 0 [.int .i64 5, .string ⟨#[]⟩, .slice none 0 0, .slice (some ⟨wc.drew.heap.size, 0, none⟩) 1 1] := H9.out; rw [← hW9] at hr9 gb9; clear hW9
              refine hK.out _ _ (fun h => absurd h (by decide)) (fun _ => ?_)
              clear hK K
              try simp only [Act.put]
              refine wpAnyU_done (by kernel_rfl) ?_ _
              have hb9 : Below X.heap.size X W9 := below_fr (HBCX.out.drew.alloc HBCX.out.size (.cells #[.int .i64 y.kind, .string Y, .slice e.kp y.keys.length e.kc, .slice e.ip y.items.length e.ic] 45)) (Nat.le_refl _) (FrP.of (P := fun b => b = g) gb9 rfl) (fun b hb => by omega)
              have hcb9 : W9.heap[wr.heap.size]? = some (.cells #[.int .i64 6, .string ⟨#[]⟩, .slice pk n ck, .slice (some ⟨g, 0, none⟩) n cg] 45 (0, 0)) := by
                have h := HCB.out
                have hl := (Array.getElem?_eq_some_iff.1 h).1
                exact (gb9.block wr.heap.size (by simp; omega) (fun e1 => by have := Option.some.inj e1; omega)).trans (((Below.refl wc.heap.size wc).drew.alloc (Nat.le_refl _) _).block wr.heap.size hl |>.trans h)
              have hnb : W9.heap[wc.drew.heap.size]? = some (.cells e.cells.toArray 45 (0, 0)) := by
                rw [ic_cells, HEY.out.1, HEY.out.2]
                exact (gb9.block _ (by simp) (fun e1 => by have := Option.some.inj e1; simp at this; omega)).trans (alloc_at wc.drew _)
              have hic9 := HICX.out W9 hb9
              rw [HLB.out] at hic9
              obtain ⟨q1, q2, q3⟩ := hic9 e List.mem_cons_self
              have hk9 := one_list hnb q1 q2
              rw [HEY.out.1] at hk9 q3
              obtain ⟨e9, he9⟩ : ∃ e9 : IC, e9 = ⟨.mk 5 [] [] [y], none, 0, some ⟨wc.drew.heap.size, 0, none⟩, 1⟩ := ⟨_, rfl⟩
              have hr10 : W9.ownsRow V2.heap.size 45 4 (.slice (some ⟨g, 0, none⟩) n cg) n (rowC (e9 :: r)) := by rw [he9]; exact hr9
              have hme : ∀ c ∈ e9 :: r, KI W9 c.y c.kp c.kc c.ip c.ic ∧ c.y.str.length ≤ maxLen ∧ c.y.wt ≤ 1501 := fun c hc => by
                rcases List.mem_cons.1 hc with rfl | hc
                · rw [he9]
                  exact ⟨hk9, Nat.zero_le _, by show 1 + 0 + 0 + (y.wt + 0) ≤ 1501; omega⟩
                · obtain ⟨w1, w2, w3⟩ := hic9 c (List.mem_cons_of_mem _ hc)
                  exact ⟨w1, w2, by omega⟩
              have hr1 : r.length + 1 = n := by have := HBN.out.2; rw [HLB.out] at this; exact this
              have hl9 : (e9 :: r).length = n := hr1
              have hrk9 := (HOX.out W9 hb9).rk
              obtain ⟨pk9, ck9, epk, hst9, _⟩ := strs_of_row hrk9
              cases epk
              have hkc : KI W9 (.mk 6 [] (turnL l [] tt n) (itsOf (e9 :: r))) pk ck (some ⟨g, 0, none⟩) cg := KI.rows hst9 ⟨by unfold maxLen; omega, by rw [turnL_len]; unfold maxLen; omega, fun s hs => HKL.out s (turnL_mem hs (by have := HN.out.1; omega))⟩ (jrow_of hr10 fun c hc => ⟨(hme c hc).1, (hme c hc).2.1⟩)
              have hit : itsOf (turnL L ic0 tt n) = y :: itsOf r := by rw [HLB.out]; show e.y :: _ = _; rw [HEY.out.1]
              have hit9 : itsOf (e9 :: r) = .mk 5 [] [] [y] :: itsOf r := by rw [he9]; rfl
              obtain ⟨ho1, ho2⟩ := HOT.out y (itsOf r) hit
              rw [← hit9] at ho1 ho2
              have hwc9 := HWX.out (itsOf (e9 :: r)) (fun z hz => by
                obtain ⟨c, hc, rfl⟩ := List.mem_map.1 hz
                exact (hme c hc).2.2) (by rw [List.length_map]; exact hl9)
              have hwc6 : (JV.mk 6 [] (turnL l [] tt n) (itsOf (e9 :: r))).wt ≤ 1000000 := by omega
              have h26 := same6 (HTX.out W9 hb9) (HKAX.out W9 hb9) hkc HWA.out hwc6 HN.out.1 HN.out.2 HBN.out.1 hl9 ho1
              have h26b := fun V (hV : Below W9.heap.size W9 V) => same6 (HTX.out V (Below.on hb9 hV)) (hkc.stay hV) (HKAX.out V (Below.on hb9 hV)) hwc6 HWA.out HBN.out.1 hl9 HN.out.1 HN.out.2 ho2
              have H26B := Lib.hid h26b
              have HCC : Hid (∀ V, Below W9.heap.size W9 V → _) := Lib.hid fun V (hV : Below W9.heap.size W9 V) => cells4 ((hV.block wr.heap.size (Array.getElem?_eq_some_iff.1 hcb9).1).trans hcb9)
              obtain ⟨c0, c1, c2, c3⟩ := HBAX.out W9 hb9
              obtain ⟨d0, d1, d2, d3⟩ := HCC.out W9 (Below.refl _ _)
              have HB9 := Lib.hid hb9
              clear hb9 hcb9 hnb hic9 q1 q2 q3 hk9 hr9 hr10 hme hrk9 hst9 hkc hit hit9 ho1 ho2 hwc9 hwc6 h26b gb9 H9 th9 hrow F6 hHeld hl9 hr1 he9
              go_wp2_with (first
                | (with_reducible (show Calls _ _ _ W9 _); go_at_call 26; refine h26.mono ?_; rintro e4 w10 ⟨rfl, hb10⟩; clear c0 c1 c2 c3 d0 d1 d2 d3; obtain ⟨c0, c1, c2, c3⟩ := HBAX.out w10 (Below.on HB9.out hb10); obtain ⟨d0, d1, d2, d3⟩ := HCC.out w10 hb10
                   have h26b := H26B.out w10 hb10)
                | (go_at_call 26; refine h26b.mono ?_; rintro e5 w11 ⟨rfl, hb11⟩; have b11 := Below.on HB9.out (Below.on hb10 hb11); have h20 := works_any w11 (HTX.out w11 b11))
                | (go_at_call 20; refine h20.mono ?_; rintro e6 w12 ⟨rfl, hb12⟩))
              go_ret
              exact ⟨rfl, Below.on HBX.out (Below.on b11 hb12)⟩
    · obtain ⟨cc, hcc⟩ : ∃ c, (JV.mk 6 [] l (itsOf L)).chk = c := ⟨_, rfl⟩
      simp only [hcc] at hck h0
      have n1 : ((cc : Int) != 0) = true := by simp; omega
      have n3 : ((cc : Int) == 0) = false := beq_eq_false_iff_ne.2 (by omega)
      have HCK := Lib.hid hck
      clear hq hfw hwt hck h0 hcc
      go_enter Tryd.func12, Tryd.ntmps12
      go_wp2_with (first
        | (go_at_call 25; refine hf.mono ?_; rintro e w1 ⟨rfl, hb1⟩; have h23 := HCK.out w1 hb1; clear c0 c1 c2 c3; obtain ⟨c0, c1, c2, c3⟩ := HBA.out w1 hb1)
        | (go_at_call 23; refine h23.mono ?_; rintro e w2 ⟨rfl, hb2⟩; have b2 := Below.on hb1 hb2; have h20 := works_any w2 (HT.out w2 b2))
        | (go_at_call 20; refine h20.mono ?_; rintro e w3 ⟨rfl, hb3⟩))
      go_ret
      exact ⟨rfl, Below.on HBW.out (Below.on b2 hb3)⟩
theorem none_chk : (JV.mk 6 [] [] (itsOf [])).chk = 0 ∧ decide (0 < (JV.mk 6 [] [] (itsOf [])).sz 1500) = true ∧ (JV.mk 6 [] [] (itsOf [])).wt ≤ 1000000 := by decide +kernel
theorem none_ki (V : World) (p q : Option Addr) (c d : Nat) : KI V (.mk 6 [] [] (itsOf [])) p c q d := KI.rows (L := []) (fun i s h => by cases h) ⟨Nat.zero_le _, Nat.zero_le _, fun s h => by cases h⟩ fun i c h => by cases h
set_option maxRecDepth 100000 in
set_option maxHeartbeats 4000000 in
theorem order_zero {w : World} {p q : Option Addr} {c d tt : Nat} (hT : Tabs w) (_htt : tt ≤ 255) :
    Calls Tryd.prog 12 #[.slice p 0 c, .slice q 0 d, .int .u8 tt] w fun e w' => e = .returned (.bool true) ∧ Below w.heap.size w w' := by
  obtain ⟨k1, k2, k3⟩ := none_chk
  obtain ⟨W0, hW0⟩ : ∃ W, w.alloc (.cells #[.int .i64 6, .string ⟨#[]⟩, .slice p 0 c, .slice q 0 d] 45) = W := ⟨_, rfl⟩
  have bW := alloc_b hW0
  have HBA := Lib.hid (box_of hW0)
  obtain ⟨c0, c1, c2, c3⟩ := HBA.out W0 (Below.refl _ _)
  have HT : Hid (∀ V, Below W0.heap.size W0 V → Tabs V) := Lib.hid fun V hV => hT.below (Below.on bW hV)
  have hf := few6 (n := 0) (none_ki W0 p q c d) rfl rfl
  rw [k2] at hf
  have hck := fun V (hV : Below W0.heap.size W0 V) => check6 (n := 0) (HT.out V hV) (none_ki V p q c d) k3 rfl rfl
  rw [k1] at hck
  have hsm := fun (V : World) (p q p' q' : Option Addr) (c d c' d' : Nat) (hV : Tabs V) => same6 (n := 0) hV (none_ki V p q c d) (none_ki V p' q' c' d') k3 k3 rfl rfl rfl rfl (sameB_refl k1)
  have HCK := Lib.hid hck
  have HSM := Lib.hid hsm
  have HBW := Lib.hid bW
  clear hck hsm hT bW
  go_enter Tryd.func12, Tryd.ntmps12
  go_wp2_with (first
    | (go_at_call 25; refine hf.mono ?_; rintro e w1 ⟨rfl, hb1⟩; have h23 := HCK.out w1 hb1; clear c0 c1 c2 c3; obtain ⟨c0, c1, c2, c3⟩ := HBA.out w1 hb1)
    | (go_at_call 23; refine h23.mono ?_; rintro e w2 ⟨rfl, hb2⟩; have b2 := Below.on hb1 hb2; clear c0 c1 c2 c3))
  obtain ⟨W2, hW2⟩ : ∃ W, w2.alloc (.cells #[.int .i64 6, .string ⟨#[]⟩, .slice none 0 0, .slice none 0 0] 45) = W := ⟨_, rfl⟩
  rw [hW2]
  have hv2 := alloc_b hW2
  have b02 := Below.on b2 hv2
  have HBB := Lib.hid (box_of hW2)
  go_loopw [9] (fun iv wr => iv = .int .i64 0 ∧ Below W2.heap.size W2 wr) (fun _ _ => 0)
  case atStart => exact ⟨rfl, Below.refl _ _⟩
  case round =>
    obtain ⟨rfl, hB⟩ := hrel
    have hBa := b02.trans (hB.mono b02.size)
    obtain ⟨c0, c1, c2, c3⟩ := HBA.out wr hBa
    obtain ⟨d0, d1, d2, d3⟩ := HBB.out wr hB
    have h26 := HSM.out wr p q none none c d 0 0 (HT.out wr hBa)
    go_wp2_with (first
      | (with_reducible (show Calls _ _ _ wr _); go_at_call 26; refine h26.mono ?_; rintro e w4 ⟨rfl, hb4⟩; have b4 := Below.on hBa hb4; clear c0 c1 c2 c3 d0 d1 d2 d3; obtain ⟨c0, c1, c2, c3⟩ := HBA.out w4 b4; obtain ⟨d0, d1, d2, d3⟩ := HBB.out w4 (hB.trans (hb4.mono hB.size))
         have h26b := HSM.out w4 none none p q 0 0 c d (HT.out w4 b4))
      | (go_at_call 26; refine h26b.mono ?_; rintro e w5 ⟨rfl, hb5⟩; have b5 := Below.on b4 hb5))
    go_loopw [11] (fun iv wx => iv = .int .i64 0 ∧ Below w5.heap.size w5 wx) (fun _ _ => 0)
    case atStart => exact ⟨rfl, Below.refl _ _⟩
    case round =>
      obtain ⟨rfl, hB5⟩ := hrel
      have b6 := Below.on b5 hB5
      have h20 := works_any wr (HT.out wr b6)
      go_wp2_with (first
        | (go_at_call 20; refine h20.mono ?_; rintro e w6 ⟨rfl, hb6⟩))
      go_ret
      exact ⟨rfl, Below.on HBW.out (Below.on b6 hb6)⟩
set_option maxRecDepth 100000 in
set_option maxHeartbeats 2000000 in
/-- the law -/
theorem order_walk {w : World} {p q : Option Addr} {c d : Nat} {t : Int} {l : List (List UInt8)} {L : List IC} (hT : Tabs w) (hl : l.length ≤ maxLen) (hkl : ∀ s ∈ l, s.length ≤ maxLen) (hS : StrsP w p l) (_hL : L.length ≤ maxLen) (hR : JRow w q L) (ht : 0 ≤ t ∧ t ≤ 255) :
    Calls Tryd.prog 12 #[.slice p l.length c, .slice q L.length d, .int .u8 t] w fun e w' => e = .returned (.bool true) ∧ Below w.heap.size w w' := by
  unfold maxLen at hl
  obtain ⟨tt, rfl⟩ : ∃ k : Nat, t = (k : Int) := ⟨t.toNat, by omega⟩
  have htt : tt ≤ 255 := by omega
  by_cases h1 : l.length ≤ 12
  · by_cases h2 : l.length = L.length
    · by_cases h0 : 0 < l.length
      · obtain ⟨a, rfl, _⟩ := hS 0 _ (List.getElem?_eq_getElem h0)
        obtain ⟨⟨a', rfl, _⟩, _⟩ := hR 0 _ (List.getElem?_eq_getElem (by omega))
        rw [← h2]
        exact order_pos hT rfl h2.symm h1 h0 hkl hS hR htt
      · have e1 : l.length = 0 := by omega
        have e2 : L.length = 0 := by omega
        rw [e1, e2]
        exact order_zero hT htt
    · have h20 := works_any w hT
      have g1 : ¬ (12 : Int) < (l.length : Int) := by omega
      have g2 : ((l.length : Int) != (L.length : Int)) = true := by simp; omega
      clear hS hR hkl h2 ht
      go_enter Tryd.func12, Tryd.ntmps12
      go_wp2_with (first | (go_at_call 20; refine h20.mono ?_; rintro e w2 ⟨rfl, hb2⟩))
      go_ret
      exact ⟨rfl, hb2⟩
  · have h20 := works_any w hT
    have g1 : (12 : Int) < (l.length : Int) := by omega
    clear hS hR hkl ht
    go_enter Tryd.func12, Tryd.ntmps12
    go_wp2_with (first | (go_at_call 20; refine h20.mono ?_; rintro e w2 ⟨rfl, hb2⟩))
    go_ret
    exact ⟨rfl, hb2⟩
end Go.Proofs.Jt
