/- rpc's objects in memory: add, object, message; text, number, an id's value; may. -/
import Derived.Test.YtaiaiiepbpbmmaaGreatDoorP3
import Derived.Test.YtaiaiiepbpbmmaaGreatDoorA1
import Derived.Lib.AppendIntMem
namespace Go.Proofs.Rp
open Go.RowKit Go.Maps Go.Lib Go.Proofs.Utf Go.Proofs.Jt Go.Proofs

/-- an object that is being made: its box, the box of the pointer to it, its rows (in blocks from lo on) -/
structure OP (n0 : Nat) (w : World) (lo tb ob : Nat) (ks : List (List UInt8)) (L : List IC) (kp : Option Addr) (kc : Nat) (ip : Option Addr) (ic : Nat) : Prop where
  ht : w.heap[tb]? = some (.cells #[.pointer (some ⟨ob, 0, none⟩)] 155 (0, 0))
  ho : w.heap[ob]? = some (.cells #[.int .i64 6, .string ⟨#[]⟩, .slice kp ks.length kc, .slice ip L.length ic] 25 (0, 0))
  rk : w.ownsRow lo 9 1 (.slice kp ks.length kc) ks.length (strC ks)
  ri : w.ownsRow lo 25 4 (.slice ip L.length ic) L.length (rowC L)
  no : n0 ≤ ob
  nt : n0 ≤ tb
  tne : ob ≠ tb
  tl : tb < lo
  ol : ob < lo
  sz : lo ≤ w.heap.size
theorem OP.below {n0 : Nat} {w w' : World} {lo tb ob : Nat} {ks : List (List UInt8)} {L : List IC} {kp : Option Addr} {kc : Nat} {ip : Option Addr} {ic : Nat} (h : OP n0 w lo tb ob ks L kp kc ip ic) (hb : Below w.heap.size w w') : OP n0 w' lo tb ob ks L kp kc ip ic :=
  ⟨(hb.block _ (Array.getElem?_eq_some_iff.1 h.ht).1).trans h.ht, (hb.block _ (Array.getElem?_eq_some_iff.1 h.ho).1).trans h.ho, row_fr h.rk (FrP.of_none (P := fun _ => False) (gb_below' hb)) (fun _ _ h => h), row_fr h.ri (FrP.of_none (P := fun _ => False) (gb_below' hb)) (fun _ _ h => h), h.no, h.nt, h.tne, h.tl, h.ol, Nat.le_trans h.sz hb.size⟩
/-- the value that it is -/
theorem OP.ki {n0 : Nat} {w : World} {lo tb ob : Nat} {ks : List (List UInt8)} {L : List IC} {kp : Option Addr} {kc : Nat} {ip : Option Addr} {ic : Nat} (h : OP n0 w lo tb ob ks L kp kc ip ic) (hc : ∀ c ∈ L, KI w c.y c.kp c.kc c.ip c.ic ∧ c.y.str.length ≤ maxLen) (hz : L.length ≤ maxLen ∧ ks.length ≤ maxLen ∧ ∀ s ∈ ks, s.length ≤ maxLen) :
    KI w (.mk 6 [] ks (L.map (·.y))) kp kc ip ic := by
  obtain ⟨kp', kc', e, hs, _⟩ := strs_of_row h.rk
  cases e
  refine KI.rows hs hz fun i c hi => ?_
  obtain ⟨h1, h2⟩ := hc c (List.mem_of_getElem? hi)
  refine ⟨?_, h1, h2⟩
  rcases h.ri.2 with ⟨_, hn⟩ | ⟨g, cap, cur, e, h3, h4, h5, h6⟩
  · have := (List.getElem?_eq_some_iff.1 hi).1
    omega
  · cases e
    refine ⟨_, rfl, ?_⟩
    have hcell : ∀ j u, c.cells[j]? = some u → w.cell? ⟨g, i * 4 + j, none⟩ = some u := fun j u hu => by
      have hj : j < 4 := by
        have := (List.getElem?_eq_some_iff.1 hu).1
        simpa [IC.cells] using this
      have := h.ri.cells (g := g) rfl (i * 4 + j) u (by rw [rowC_get L i c hi j hj]; exact hu)
      rwa [add0] at this
    rw [add0]
    exact ⟨hcell 0 _ rfl, hcell 1 _ rfl, hcell 2 _ rfl, hcell 3 _ rfl, (Array.getElem?_eq_some_iff.1 h4).1⟩
set_option maxRecDepth 100000 in
set_option maxHeartbeats 4000000 in
theorem add_any {n0 : Nat} {w : World} {lo tb ob : Nat} {ks : List (List UInt8)} {L : List IC} {kp : Option Addr} {kc : Nat} {ip : Option Addr} {ic : Nat} (h : OP n0 w lo tb ob ks L kp kc ip ic) (K : ByteArray) (c : IC) (Y : ByteArray) (hY : (⟨c.y.str.toArray⟩ : ByteArray) = Y) (hn : ks.length ≤ 1000) (hm : L.length ≤ 1000) :
    Calls Tryz.prog 154 #[.string K, .agg #[.int .i64 c.y.kind, .string Y, .slice c.kp c.y.keys.length c.kc, .slice c.ip c.y.items.length c.ic], .pointer (some ⟨tb, 0, none⟩)] w fun e w' => e = .returned (.tuple #[]) ∧ ∃ kp kc ip ic, OP n0 w' lo tb ob (ks ++ [K.data.toList]) (L ++ [c]) kp kc ip ic ∧ Below n0 w w' := by
  obtain ⟨W, hW⟩ : ∃ W, w.alloc (.cells #[.int .i64 c.y.kind, .string Y, .slice c.kp c.y.keys.length c.kc, .slice c.ip c.y.items.length c.ic] 25) = W := ⟨_, rfl⟩
  have bW := alloc_b hW
  have hzW : W.heap.size = w.heap.size + 1 := by rw [← hW]; simp
  have h2 := h.below bW
  have hpb : W.heap[w.heap.size]? = some (.cells #[.int .i64 c.y.kind, .string Y, .slice c.kp c.y.keys.length c.kc, .slice c.ip c.y.items.length c.ic] 25 (0, 0)) := by rw [← hW]; exact alloc_at w _
  have hsz := h.sz
  have htl := h.tl
  have hol := h.ol
  have hno := h.no
  have hnt := h.nt
  have hto := h.tne
  have hkb := fun b hb => (h.rk.lt b hb).2
  have hib := fun b hb => (h.ri.lt b hb).2
  have HBW := Lib.hid bW
  have HH := Lib.hid h2
  have HP := Lib.hid hpb
  clear h h2 hpb bW
  go_enter Tryz.func154, Tryz.ntmps154
  go_upto_region 1 with fail
  refine Code.wp_mono ?_ (add_r1 K c Y n0 tb ob w.heap.size lo ks.length L.length (strC ks) (rowC L) kp kc ip ic W _ _ _ _ _ _ _ _ _ _ _ _ _ _ _ _ _ _ _ _ _ ⟨HH.out.ht, HH.out.ho, HP.out⟩ HH.out.rk HH.out.ri hkb hib (by omega) (by omega) (by omega) hsz htl hol hno hnt hto)
  intro e a' w3 h
  cases e with
  | normal =>
    obtain ⟨g7, g14, kp2, kc2, ip2, ic2, hT, hO, hB, hz, rk, ri, rfl⟩ := h
    have H := Lib.hid (And.intro hT (And.intro hO (And.intro rk (And.intro ri (And.intro hB hz)))))
    clear hT hO rk ri hB hz
    go_wp2_with fail
    go_end0
    obtain ⟨hT, hO, rk, ri, hB, hz⟩ := H.out
    refine ⟨rfl, kp2, kc2, ip2, ic2, ⟨hT, ?_, ?_, ?_, hno, hnt, hto, htl, hol, by omega⟩, HBW.out.mono (by omega) |>.trans hB⟩
    · rw [List.length_append, List.length_append]; exact hO
    · rw [List.length_append, strC_snoc, arr_back2]; exact rk
    · rw [List.length_append, rowC_snoc]
      have : c.cells = [.int .i64 c.y.kind, .string Y, .slice c.kp c.y.keys.length c.kc, .slice c.ip c.y.items.length c.ic] := by rw [← hY]; rfl
      rw [this]
      exact ri
  | exit _ => exact h.elim
  | goto _ => exact h.elim
  | ret => exact h.elim
  | panic _ => exact h.elim
  | outgrown => exact h.elim
/-- a value without keys and items -/
def leafC (y : JV) : IC := ⟨y, none, 0, none, 0⟩
theorem add_leaf {n0 : Nat} {w : World} {lo tb ob : Nat} {ks : List (List UInt8)} {L : List IC} {kp : Option Addr} {kc : Nat} {ip : Option Addr} {ic : Nat} (h : OP n0 w lo tb ob ks L kp kc ip ic) (K : ByteArray) (y : JV) (Y : ByteArray) (hY : (⟨y.str.toArray⟩ : ByteArray) = Y) (hk : y.keys = []) (hi : y.items = []) (hn : ks.length ≤ 1000) (hm : L.length ≤ 1000) :
    Calls Tryz.prog 154 #[.string K, .agg #[.int .i64 y.kind, .string Y, .slice none 0 0, .slice none 0 0], .pointer (some ⟨tb, 0, none⟩)] w fun e w' => e = .returned (.tuple #[]) ∧ ∃ kp kc ip ic, OP n0 w' lo tb ob (ks ++ [K.data.toList]) (L ++ [leafC y]) kp kc ip ic ∧ Below n0 w w' := by
  have := add_any h K (leafC y) Y hY hn hm
  unfold leafC at this ⊢
  dsimp only at this
  rw [hk, hi] at this
  exact this
theorem ki_leaf {w : World} {y : JV} (hk : y.keys = []) (hi : y.items = []) : KI w y none 0 none 0 := by
  obtain ⟨k, s, ks, it⟩ := y
  obtain rfl : ks = [] := hk
  obtain rfl : it = [] := hi
  exact (KP.leaf w (fun _ => True) _ _).ki
set_option maxRecDepth 100000 in
theorem object_new (w : World) : Calls Tryz.prog 107 #[] w fun e w' => ∃ lo tb ob, e = .returned (.tuple #[.pointer (some ⟨ob, 0, none⟩), .func (.func 154) #[] #[.pointer (some ⟨tb, 0, none⟩)]]) ∧ OP w.heap.size w' lo tb ob [] [] none 0 none 0 ∧ Below w.heap.size w w' := by
  obtain ⟨W1, hW1⟩ : ∃ W, w.alloc (.cells #[.int .i64 6, .string ⟨#[]⟩, .slice none 0 0, .slice none 0 0] 25) = W := ⟨_, rfl⟩
  obtain ⟨W2, hW2⟩ : ∃ W, W1.alloc (.cells #[.pointer (some ⟨w.heap.size, 0, none⟩)] 155) = W := ⟨_, rfl⟩
  have b1 := alloc_b hW1
  have b2 := alloc_b hW2
  have z1 : W1.heap.size = w.heap.size + 1 := by rw [← hW1]; simp
  have z2 : W2.heap.size = w.heap.size + 2 := by rw [← hW2]; simp; omega
  have h1 : W1.heap[w.heap.size]? = some (.cells #[.int .i64 6, .string ⟨#[]⟩, .slice none 0 0, .slice none 0 0] 25 (0, 0)) := by rw [← hW1]; exact alloc_at w _
  have h2 : W2.heap[w.heap.size + 1]? = some (.cells #[.pointer (some ⟨w.heap.size, 0, none⟩)] 155 (0, 0)) := by rw [← hW2, ← z1]; exact alloc_at W1 _
  have hO := (b2.block w.heap.size (by omega)).trans h1
  have HOP : Hid (OP w.heap.size W2 (w.heap.size + 2) (w.heap.size + 1) w.heap.size [] [] none 0 none 0) := Lib.hid ⟨h2, hO, ⟨rfl, .inl ⟨rfl, rfl⟩⟩, ⟨rfl, .inl ⟨rfl, rfl⟩⟩, Nat.le_refl _, by omega, by omega, by omega, by omega, by omega⟩
  have HB := Lib.hid (Below.on b1 b2)
  have q1 := box_cell h2
  clear h1 hO b1 b2 h2 z2
  go_enter Tryz.func107, Tryz.ntmps107
  go_wp2_with fail
  go_ret2
  exact ⟨_, _, _, rfl, HOP.out, HB.out⟩
set_option maxRecDepth 100000 in
theorem text_any (S : ByteArray) (w : World) : Calls Tryz.prog 101 #[.string S] w fun e w' => e = .returned (.agg #[.int .i64 4, .string S, .slice none 0 0, .slice none 0 0]) ∧ Below w.heap.size w w' := by
  obtain ⟨W, hW⟩ : ∃ W, w.alloc (.cells #[.int .i64 0, .string ⟨#[]⟩, .slice none 0 0, .slice none 0 0] 25) = W := ⟨_, rfl⟩
  have bW := alloc_b hW
  have hJ : JBox W w.heap.size := by rw [← hW]; exact JBox.alloc _ _ _ _ _
  have HJ := Lib.hid hJ
  have HB := Lib.hid bW
  clear bW hJ
  go_enter Tryz.func101, Tryz.ntmps101
  go_wp2_with (first | (refine store_val rfl (.tmp 2) (.tmp 4) rfl w.heap.size rfl (.int .i64 4) (.string S) (.slice none 0 0) (.slice none 0 0) rfl rfl HJ.out (fun V hV hgV _ => ?_)))
  refine bodyPost_ret (ret_val Tryz.results101 rfl hV) rfl ?_
  exact ⟨rfl, below_gbz HB.out (Nat.le_refl _) hgV⟩
/-- the powers of ten -/
def TenV (w : World) : Prop := Lib.TabIs Tryz.prog w "internal/strconv.uint64pow10" .u64 Lib.pow10Tab
theorem TenV.below {w w' : World} (h : TenV w) (hb : Below w.heap.size w w') : TenV w' := by
  unfold TenV Lib.TabIs at h ⊢
  exact Go.Joins.var_stays (g := 7) (by kernel_rfl) h hb (Nat.le_refl _)
set_option maxRecDepth 100000 in
theorem number_any (n : Int) (h0 : -9223372036854775808 ≤ n) (h1 : n ≤ 9223372036854775807) (I : ByteArray) (hI : (⟨(itoa n).toArray⟩ : ByteArray) = I) (w : World) (hT : TenV w) : Calls Tryz.prog 108 #[.int .i64 n] w fun e w' => e = .returned (.agg #[.int .i64 3, .string I, .slice none 0 0, .slice none 0 0]) ∧ Below w.heap.size w w' := by
  obtain ⟨W, hW⟩ : ∃ W, w.alloc (.cells #[.int .i64 0, .string ⟨#[]⟩, .slice none 0 0, .slice none 0 0] 25) = W := ⟨_, rfl⟩
  have bW := alloc_b hW
  have hJ : JBox W w.heap.size := by rw [← hW]; exact JBox.alloc _ _ _ _ _
  have hf : Calls Tryz.prog 127 #[.int .i64 n, .int .i64 10] W fun e w' => e = .returned (.string I) ∧ Below W.heap.size W w' := by
    refine (Tryz.strconv_FormatInt_10 n h0 h1 W (hT.below bW)).mono ?_
    rintro e w' ⟨rfl, k, os, rfl⟩
    exact ⟨by rw [hI], below_grow _ _ (Nat.le_refl _) k os⟩
  have HJ := Lib.hid hJ
  have HB := Lib.hid bW
  clear bW hJ hI hT
  go_enter Tryz.func108, Tryz.ntmps108
  go_wp2_with (first
    | (go_at_call 127; refine hf.mono ?_; rintro e w1 ⟨rfl, hb1⟩; have hj1 : JBox w1 w.heap.size := HJ.out.same (hb1.block _ HJ.out.lt); have HJ1 := Lib.hid hj1; clear hj1)
    | (refine store_val rfl (.tmp 2) (.tmp 5) rfl w.heap.size rfl (.int .i64 3) (.string I) (.slice none 0 0) (.slice none 0 0) rfl rfl HJ1.out (fun V hV hgV _ => ?_)))
  refine bodyPost_ret (ret_val Tryz.results108 rfl hV) rfl ?_
  exact ⟨rfl, below_gbz (Below.on HB.out hb1) (Nat.le_refl _) hgV⟩
end Go.Proofs.Rp
