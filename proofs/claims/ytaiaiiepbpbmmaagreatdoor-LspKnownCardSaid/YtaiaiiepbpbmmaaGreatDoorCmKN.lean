/- Merged texts: NB, ND, NE, NG. -/
import Derived.Test.YtaiaiiepbpbmmaaGreatDoorCmNA
import Derived.Test.YtaiaiiepbpbmmaaGreatDoorCmA1
import Derived.Test.YtaiaiiepbpbmmaaGreatDoorCmShelf2
import Derived.Test.YtaiaiiepbpbmmaaGreatDoorCmKB
/- NB: lsp's object, text, whole, array. Printed by gen_nb.py. -/
namespace Go.Proofs.Ls
open Go.RowKit Go.Maps Go.Lib Go.Proofs.Utf Go.Proofs.Jt Go.Proofs

/-- a field at a place: a key and a value -/
structure FC5 (w : World) (q : Addr) (f : List UInt8 × IC) : Prop where
  c0 : w.cell? q = some (.string ⟨f.1.toArray⟩)
  c1 : w.cell? ⟨q.block, q.off + 1, none⟩ = some (.int .i64 f.2.y.kind)
  c2 : w.cell? ⟨q.block, q.off + 2, none⟩ = some (.string ⟨f.2.y.str.toArray⟩)
  c3 : w.cell? ⟨q.block, q.off + 3, none⟩ = some (.slice f.2.kp f.2.y.keys.length f.2.kc)
  c4 : w.cell? ⟨q.block, q.off + 4, none⟩ = some (.slice f.2.ip f.2.y.items.length f.2.ic)
  blk : q.block < w.heap.size
theorem FC5.below {w w' : World} {q : Addr} {f : List UInt8 × IC} (h : FC5 w q f) (hb : Below w.heap.size w w') : FC5 w' q f :=
  ⟨(hb.cell h.blk).trans h.c0, (hb.cell (by exact h.blk)).trans h.c1, (hb.cell (by exact h.blk)).trans h.c2, (hb.cell (by exact h.blk)).trans h.c3, (hb.cell (by exact h.blk)).trans h.c4, Nat.lt_of_lt_of_le h.blk hb.size⟩
def FldsP (w : World) (p : Option Addr) (l : List (List UInt8 × IC)) : Prop := ∀ (i : Nat) (f : List UInt8 × IC), l[i]? = some f → ∃ a, p = some a ∧ FC5 w (a.add (i * 5)) f
def fldC : List (List UInt8 × IC) → List Value
  | [] => []
  | f :: l => .string ⟨f.1.toArray⟩ :: .int .i64 f.2.y.kind :: .string ⟨f.2.y.str.toArray⟩ :: .slice f.2.kp f.2.y.keys.length f.2.kc :: .slice f.2.ip f.2.y.items.length f.2.ic :: fldC l
theorem fldC_at : ∀ (l : List (List UInt8 × IC)) (i : Nat) (f : List UInt8 × IC), l[i]? = some f → (fldC l)[i * 5]? = some (.string ⟨f.1.toArray⟩) ∧ (fldC l)[i * 5 + 1]? = some (.int .i64 f.2.y.kind) ∧ (fldC l)[i * 5 + 2]? = some (.string ⟨f.2.y.str.toArray⟩) ∧ (fldC l)[i * 5 + 3]? = some (.slice f.2.kp f.2.y.keys.length f.2.kc) ∧ (fldC l)[i * 5 + 4]? = some (.slice f.2.ip f.2.y.items.length f.2.ic)
  | [], _, _, h => by cases h
  | a :: l, 0, f, h => by
    obtain rfl : a = f := by simpa using h
    exact ⟨rfl, rfl, rfl, rfl, rfl⟩
  | a :: l, i + 1, f, h => by
    have := fldC_at l i f (by simpa using h)
    rw [show (i + 1) * 5 = i * 5 + 5 by omega]
    exact this
theorem flds_row {w : World} {g : Nat} {t : TypeId} {l : List (List UInt8 × IC)} (h : w.heap[g]? = some (.cells (fldC l).toArray t (0, 0))) : FldsP w (some ⟨g, 0, none⟩) l := fun i f hf => by
  have hc : ∀ (j : Nat) (u : Value), (fldC l)[j]? = some u → w.cell? ⟨g, j, none⟩ = some u := fun j u hu => by simp [World.cell?, h, hu]
  obtain ⟨e0, e1, e2, e3, e4⟩ := fldC_at l i f hf
  refine ⟨_, rfl, ?_⟩
  rw [add0]
  exact ⟨hc _ _ e0, hc _ _ e1, hc _ _ e2, hc _ _ e3, hc _ _ e4, ltS h⟩
theorem row_low' {w : World} {B B' e size n : Nat} {v : Value} {xs : List Value} (h : w.ownsRow B e size v n xs) (hb : B' ≤ B) : w.ownsRow B' e size v n xs := by
  refine ⟨h.1, ?_⟩
  rcases h.2 with h | ⟨g, cap, cur, h1, h2, h3⟩
  · exact .inl h
  · exact .inr ⟨g, cap, cur, h1, Nat.le_trans hb h2, h3⟩
/-- a value made out of its rows -/
theorem rows_kp {w : World} {B : Nat} {k : Int} {ks : List (List UInt8)} {L : List IC} {kp ip : Option Addr} {kc ic n m : Nat} (rk : w.ownsRow B 9 1 (.slice kp n kc) n (strC ks)) (ri : w.ownsRow B 25 4 (.slice ip m ic) m (rowC L)) (hm : L.length = m) (hn : ks.length = n) (hc : ∀ c ∈ L, KP w (fun b => B ≤ b ∧ some b ≠ (Value.slice ip m ic).ownBlock) c.y c.kp c.kc c.ip c.ic ∧ c.y.str.length ≤ maxLen) (hz : L.length ≤ maxLen ∧ ks.length ≤ maxLen ∧ ∀ s ∈ ks, s.length ≤ maxLen) :
    KP w (B ≤ ·) (.mk k [] ks (L.map (·.y))) kp kc ip ic := by
  subst hm hn
  obtain ⟨kp', kc', ip', ic', h1, h2, h3⟩ := KP.build (k := k) rk ri hc hz
  cases h1
  cases h2
  exact h3
set_option maxRecDepth 100000 in
set_option maxHeartbeats 16000000 in
theorem object119 {w : World} {p : Option Addr} {c0 : Nat} {l : List (List UInt8 × IC)} (hf : FldsP w p l) (hn : l.length ≤ 1000) {B : Nat} (hBw : B ≤ w.heap.size) (hk : ∀ f ∈ l, KP w (B ≤ ·) f.2.y f.2.kp f.2.kc f.2.ip f.2.ic ∧ f.2.y.str.length ≤ maxLen) (hks : ∀ f ∈ l, f.1.length ≤ maxLen) :
    Calls Tryz.prog 119 #[.slice p l.length c0] w fun e w' => ∃ kp kc ip ic, e = .returned (.agg #[.int .i64 6, .string ⟨#[]⟩, .slice kp l.length kc, .slice ip l.length ic]) ∧ KP w' (B ≤ ·) (.mk 6 [] (l.map (·.1)) (l.map (·.2.y))) kp kc ip ic ∧ Below w.heap.size w w' := by
  obtain ⟨W1, hW1⟩ : ∃ W, w.alloc (.cells #[.int .i64 0, .string ⟨#[]⟩, .slice none 0 0, .slice none 0 0] 25) = W := ⟨_, rfl⟩
  have bW1 := alloc_b hW1
  have z1 : W1.heap.size = w.heap.size + 1 := by rw [← hW1]; simp
  have hJ : JBox W1 w.heap.size := by rw [← hW1]; exact JBox.alloc _ _ _ _ _
  have HJ := Lib.hid hJ
  have HB1 := Lib.hid bW1
  have HF := Lib.hid hf
  have HK := Lib.hid hk
  have hBw1 := hBw
  have HKS := Lib.hid hks
  clear hJ bW1 hf hk hks
  go_enter Tryz.func119, Tryz.ntmps119
  go_upto_region 2 with fail
  obtain ⟨W, hW⟩ : ∃ W, W1.alloc (.cells #[.int .i64 6, .string ⟨#[]⟩, .slice none 0 0, .slice none 0 0] 25) = W := ⟨_, rfl⟩
  rw [hW]
  have hob := row_at hW
  have bW2 := alloc_b hW
  have z2 : W.heap.size = W1.heap.size + 1 := by rw [← hW]; simp
  rw [z1] at hob z2
  have HBW : Hid (Below w.heap.size w W) := Lib.hid (Below.on HB1.out bW2)
  have HJW : Hid (JBox W w.heap.size) := Lib.hid (HJ.out.same (bW2.block _ HJ.out.lt))
  clear bW2
  go_wp2_with fail
  go_loopw [9] (fun iv wr => ∃ (i : Nat) (kp ip : Option Addr) (kc ic : Nat), iv = .int .i64 i ∧ i ≤ l.length ∧ wr.heap[w.heap.size + 1]? = some (.cells #[.int .i64 6, .string ⟨#[]⟩, .slice kp i kc, .slice ip i ic] 25 (0, 0)) ∧ wr.ownsRow W.heap.size 9 1 (.slice kp i kc) i (strC ((l.take i).map (·.1))) ∧ wr.ownsRow W.heap.size 25 4 (.slice ip i ic) i (rowC ((l.take i).map (·.2))) ∧ Below (w.heap.size + 1) W wr) (fun iv _ => l.length - (RowKit.intOf iv).toNat)
  case atStart => exact ⟨0, none, none, 0, 0, rfl, Nat.zero_le _, hob, World.ownsRow_nil _ _ _ _, World.ownsRow_nil _ _ _ _, Below.refl _ _⟩
  case round =>
    obtain ⟨i, kp, ip, kc, ic, rfl, hi, hrow, rk, ri, hB⟩ := hrel
    clear hob
    by_cases hin : (i : Int) < (l.length : Int)
    · obtain ⟨f, hf⟩ : ∃ f, l[i]? = some f := ⟨_, List.getElem?_eq_getElem (by omega)⟩
      obtain ⟨a, rfl, hfc⟩ := HF.out i f hf
      have hbw : Below w.heap.size w wr := HBW.out.trans (hB.mono (by omega))
      obtain ⟨g0, g1, g2, g3, g4, _⟩ := hfc.below hbw
      obtain ⟨K, c⟩ := f
      dsimp only at g0 g1 g2 g3 g4
      obtain ⟨KB, hKB⟩ : ∃ B : ByteArray, (⟨K.toArray⟩ : ByteArray) = B := ⟨_, rfl⟩
      obtain ⟨Y, hY⟩ : ∃ B : ByteArray, (⟨c.y.str.toArray⟩ : ByteArray) = B := ⟨_, rfl⟩
      rw [hKB] at g0
      rw [hY] at g2
      obtain ⟨wa, hwa⟩ : ∃ wa, wr.alloc (.cells #[.string KB, .int .i64 c.y.kind, .string Y, .slice c.kp c.y.keys.length c.kc, .slice c.ip c.y.items.length c.ic] 182) = wa := ⟨_, rfl⟩
      have hra := alloc_b hwa
      have hsa : wa.heap.size = wr.heap.size + 1 := by rw [← hwa]; simp
      have hfb := row_at hwa
      have HROW := Lib.hid ((hra.block _ (ltS hrow)).trans hrow)
      have HFB := Lib.hid hfb
      have HRK := Lib.hid (own_below rk hra)
      have HRI := Lib.hid (own_below ri hra)
      have hkb : ∀ b, (Value.slice kp i kc).ownBlock = some b → b < wr.heap.size := fun b hb => (row_lt rk hb).2
      have hib : ∀ b, (Value.slice ip i ic).ownBlock = some b → b < wr.heap.size := fun b hb => (row_lt ri hb).2
      have HKB := Lib.hid (And.intro hKB hY)
      have HFF := Lib.hid hf
      have HBB := Lib.hid (hB.trans (hra.mono (by have := hB.size; omega)))
      have hsz := hB.size
      clear rk ri hB hrow hfb hra hKB hY hf hfc hbw
      go_upto_region 5 with fail
      refine Code.wp_mono ?_ (add_r5 KB c Y (w.heap.size + 1) (w.heap.size + 1) wr.heap.size W.heap.size i i (strC ((l.take i).map (·.1))) (rowC ((l.take i).map (·.2))) kp kc ip ic wa _ _ _ _ _ _ _ _ _ _ _ _ _ _ _ _ _ _ _ _ _ _ _ _ _ _ _ ⟨HROW.out, HFB.out⟩ HRK.out HRI.out hkb hib (by omega) (by omega) (by omega) hsz (by omega) (Nat.le_refl _))
      intro e a' w3 h
      cases e with
      | normal =>
        obtain ⟨g7, g14, kp2, kc2, ip2, ic2, hO, hB3, hz3, rk, ri, rfl⟩ := h
        have H := Lib.hid (And.intro hO (And.intro rk (And.intro ri (And.intro hB3 hz3))))
        clear hO rk ri hB3 hz3
        go_wp2_with fail
        go_roundw
        case rel =>
          obtain ⟨hO, rk, ri, hB3, hz3⟩ := H.out
          have ht : l.take (i + 1) = l.take i ++ [(K, c)] := by rw [List.take_add_one, HFF.out]; rfl
          have hk1 : strC ((l.take (i + 1)).map (·.1)) = strC ((l.take i).map (·.1)) ++ [.string KB] := by rw [ht, List.map_append, List.map_cons, List.map_nil, strC_snoc, HKB.out.1]
          have hr1 : rowC ((l.take (i + 1)).map (·.2)) = rowC ((l.take i).map (·.2)) ++ [.int .i64 c.y.kind, .string Y, .slice c.kp c.y.keys.length c.kc, .slice c.ip c.y.items.length c.ic] := by rw [ht, List.map_append, List.map_cons, List.map_nil, rowC_snoc, ← HKB.out.2]; rfl
          exact ⟨i + 1, kp2, ip2, kc2, ic2, by go_num, by omega, hO, by rw [hk1]; exact rk, by rw [hr1]; exact ri, HBB.out.trans hB3⟩
        case measure => simp [RowKit.intOf]; omega
      | exit _ => exact h.elim
      | goto _ => exact h.elim
      | ret => exact h.elim
      | panic _ => exact h.elim
      | outgrown => exact h.elim
    · obtain rfl : i = l.length := by omega
      obtain ⟨o0, o1, o2, o3⟩ := cells4 hrow
      have hjb : JBox wr w.heap.size := HJW.out.same (hB.block _ (by omega))
      have hbw : Below w.heap.size w wr := HBW.out.trans (hB.mono (by omega))
      have HR := Lib.hid (And.intro rk (And.intro ri hbw))
      clear rk ri hB hrow hbw
      go_wp2_with (first
        | (refine store_val rfl (.tmp 2) (.tmp 28) rfl w.heap.size rfl (.int .i64 6) (.string ⟨#[]⟩) (.slice kp l.length kc) (.slice ip l.length ic) rfl rfl hjb (fun V hV hgV _ => ?_)))
      refine bodyPost_ret (ret_val Tryz.results119 rfl hV) rfl ?_
      obtain ⟨rk, ri, hbw⟩ := HR.out
      have hbV : Below w.heap.size w V := below_gbz hbw (Nat.le_refl _) hgV
      rw [List.take_length] at rk ri
      have hkV := row_fr rk (FrP.of (P := fun q => q = w.heap.size) hgV rfl) (fun q hq e => by have := (row_lt rk hq).1; omega)
      have hiV := row_fr ri (FrP.of (P := fun q => q = w.heap.size) hgV rfl) (fun q hq e => by have := (row_lt ri hq).1; omega)
      refine ⟨kp, kc, ip, ic, rfl, ?_, hbV⟩
      have hki := rows_kp (k := 6) (row_low' hkV (show B ≤ W.heap.size by omega)) (row_low' hiV (show B ≤ W.heap.size by omega)) (by simp) (by simp) (fun d hd => by
        obtain ⟨f, hf, rfl⟩ := List.mem_map.1 hd
        exact ⟨(HK.out f hf).1.keep hbV.size (fun q _ hl => hbV.block q hl) (fun q hq hl => ⟨hq, fun e => by have := (row_lt hiV e.symm).1; omega⟩), (HK.out f hf).2⟩) ⟨by simp; unfold maxLen; omega, by simp; unfold maxLen; omega, fun s hs => by
        obtain ⟨f, hf, rfl⟩ := List.mem_map.1 hs
        exact HKS.out f hf⟩
      rw [List.map_map] at hki
      exact hki
theorem object_row {w : World} {g c0 n B : Nat} (l : List (List UInt8 × IC)) (h : w.heap[g]? = some (.cells (fldC l).toArray 182 (0, 0))) (hn : l.length = n) (hn2 : n ≤ 1000) (hBw : B ≤ w.heap.size) (hk : ∀ f ∈ l, KP w (B ≤ ·) f.2.y f.2.kp f.2.kc f.2.ip f.2.ic ∧ f.2.y.str.length ≤ maxLen) (hks : ∀ f ∈ l, f.1.length ≤ maxLen) (ks : List (List UInt8)) (it : List JV) (h1 : l.map (·.1) = ks) (h2 : l.map (·.2.y) = it) :
    Calls Tryz.prog 119 #[.slice (some ⟨g, 0, none⟩) n c0] w fun e w' => ∃ kp kc ip ic, e = .returned (.agg #[.int .i64 6, .string ⟨#[]⟩, .slice kp n kc, .slice ip n ic]) ∧ KP w' (B ≤ ·) (.mk 6 [] ks it) kp kc ip ic ∧ Below w.heap.size w w' := by
  subst hn h1 h2
  exact object119 (flds_row h) hn2 hBw hk hks
set_option maxRecDepth 100000 in
theorem text121 (S : ByteArray) (w : World) : Calls Tryz.prog 121 #[.string S] w fun e w' => e = .returned (.agg #[.int .i64 4, .string S, .slice none 0 0, .slice none 0 0]) ∧ Below w.heap.size w w' := by
  obtain ⟨W, hW⟩ : ∃ W, w.alloc (.cells #[.int .i64 0, .string ⟨#[]⟩, .slice none 0 0, .slice none 0 0] 25) = W := ⟨_, rfl⟩
  have bW := alloc_b hW
  have hJ : JBox W w.heap.size := by rw [← hW]; exact JBox.alloc _ _ _ _ _
  have HJ := Lib.hid hJ
  have HB := Lib.hid bW
  clear bW hJ
  go_enter Tryz.func121, Tryz.ntmps121
  go_wp2_with (first | (refine store_val rfl (.tmp 2) (.tmp 4) rfl w.heap.size rfl (.int .i64 4) (.string S) (.slice none 0 0) (.slice none 0 0) rfl rfl HJ.out (fun V hV hgV _ => ?_)))
  refine bodyPost_ret (ret_val Tryz.results121 rfl hV) rfl ?_
  exact ⟨rfl, below_gbz HB.out (Nat.le_refl _) hgV⟩
set_option maxRecDepth 100000 in
theorem array123 (p : Option Addr) (n c : Nat) (w : World) : Calls Tryz.prog 123 #[.slice p n c] w fun e w' => e = .returned (.agg #[.int .i64 5, .string ⟨#[]⟩, .slice none 0 0, .slice p n c]) ∧ Below w.heap.size w w' := by
  obtain ⟨W, hW⟩ : ∃ W, w.alloc (.cells #[.int .i64 0, .string ⟨#[]⟩, .slice none 0 0, .slice none 0 0] 25) = W := ⟨_, rfl⟩
  have bW := alloc_b hW
  have hJ : JBox W w.heap.size := by rw [← hW]; exact JBox.alloc _ _ _ _ _
  have HJ := Lib.hid hJ
  have HB := Lib.hid bW
  clear bW hJ
  go_enter Tryz.func123, Tryz.ntmps123
  go_wp2_with (first | (refine store_val rfl (.tmp 2) (.tmp 4) rfl w.heap.size rfl (.int .i64 5) (.string ⟨#[]⟩) (.slice none 0 0) (.slice p n c) rfl rfl HJ.out (fun V hV hgV _ => ?_)))
  refine bodyPost_ret (ret_val Tryz.results123 rfl hV) rfl ?_
  exact ⟨rfl, below_gbz HB.out (Nat.le_refl _) hgV⟩
set_option maxRecDepth 100000 in
theorem whole126 (n : Int) (h0 : -9223372036854775808 ≤ n) (h1 : n ≤ 9223372036854775807) (I : ByteArray) (hI : (⟨(itoa n).toArray⟩ : ByteArray) = I) (w : World) (hE : ∀ V, Below w.heap.size w V → Env V) : Calls Tryz.prog 126 #[.int .i64 n] w fun e w' => e = .returned (.agg #[.int .i64 3, .string I, .slice none 0 0, .slice none 0 0]) ∧ Below w.heap.size w w' := by
  obtain ⟨W, hW⟩ : ∃ W, w.alloc (.cells #[.int .i64 0, .string ⟨#[]⟩, .slice none 0 0, .slice none 0 0] 25) = W := ⟨_, rfl⟩
  have bW := alloc_b hW
  have hJ : JBox W w.heap.size := by rw [← hW]; exact JBox.alloc _ _ _ _ _
  have hf : Calls Tryz.prog 127 #[.int .i64 n, .int .i64 10] W fun e w' => e = .returned (.string I) ∧ Below W.heap.size W w' := by
    refine (Tryz.strconv_FormatInt_10 n h0 h1 W (hE W bW).ten).mono ?_
    rintro e w' ⟨rfl, k, os, rfl⟩
    exact ⟨by rw [hI], below_grow _ _ (Nat.le_refl _) k os⟩
  have HJ := Lib.hid hJ
  have HB := Lib.hid bW
  clear bW hJ hI hE
  go_enter Tryz.func126, Tryz.ntmps126
  go_wp2_with (first
    | (go_at_call 127; refine hf.mono ?_; rintro e w1 ⟨rfl, hb1⟩; have hj1 : JBox w1 w.heap.size := HJ.out.same (hb1.block _ HJ.out.lt); have HJ1 := Lib.hid hj1; clear hj1)
    | (refine store_val rfl (.tmp 2) (.tmp 5) rfl w.heap.size rfl (.int .i64 3) (.string I) (.slice none 0 0) (.slice none 0 0) rfl rfl HJ1.out (fun V hV hgV _ => ?_)))
  refine bodyPost_ret (ret_val Tryz.results126 rfl hV) rfl ?_
  exact ⟨rfl, below_gbz (Below.on HB.out hb1) (Nat.le_refl _) hgV⟩
end Go.Proofs.Ls
/- ND: lsp's position, span, find. Printed by gen_nd.py. -/
namespace Go.Proofs.Ls
open Go.RowKit Go.Maps Go.Lib Go.Proofs.Utf Go.Proofs.Jt Go.Proofs

def numJ (n : Int) : JV := .mk 3 (itoa n) [] []
def strJ (s : List UInt8) : JV := .mk 4 s [] []
def posJ (p : Int × Int) : JV := .mk 6 [] [kLine, kChar] [numJ p.1, numJ p.2]
def spanJ (a b : Int × Int) : JV := .mk 6 [] [kStart, kEnd] [posJ a, posJ b]
def leafI (y : JV) : IC := ⟨y, none, 0, none, 0⟩
theorem cells2 {w : World} {z : Nat} {a b : Value} {t : TypeId} (hz : w.heap[z]? = some (.cells #[a, b] t (0, 0))) : w.cell? ⟨z, 0, none⟩ = some a ∧ w.cell? ⟨z, 1, none⟩ = some b := by
  refine ⟨?_, ?_⟩ <;> simp [World.cell?, hz]
theorem wp_store_J {op : Oper} {a : Act} {w : World} {K : Act → World → Prop} {Q : Exit → Act → World → Prop} (x y : Operand) (ho : op.op = .store 25 x y) (z : Nat) (hx : a.eval x = .pointer (some ⟨z, 0, none⟩)) (v0 v1 v2 v3 : Value) (hy : a.eval y = .agg #[v0, v1, v2, v3]) (h1 : v0.oneCell' = true ∧ v1.oneCell' = true ∧ v2.oneCell' = true ∧ v3.oneCell' = true) (hv : (Value.agg #[v0, v1, v2, v3]).cells = [v0, v1, v2, v3].toArray) (hz : JBox w z)
    (h : ∀ W, W.heap[z]? = some (.cells #[v0, v1, v2, v3] 25 (0, 0)) → w.grownBy W (some z) → W.heap.size = w.heap.size → K (a.put op.dst undef) W) : op.wp Tryz.prog a w K Q := by
  obtain ⟨c0, c1, c2, c3, hz⟩ := hz
  exact wp_store_part 25 x y ho z 0 _ [v0, v1, v2, v3] hx hy hv (by kernel_rfl) (fun u hu => by
    simp only [List.mem_cons, List.not_mem_nil, or_false] at hu
    rcases hu with rfl | rfl | rfl | rfl
    · exact h1.1
    · exact h1.2.1
    · exact h1.2.2.1
    · exact h1.2.2.2) _ #[v0, v1, v2, v3] 25 hz (Nat.le_refl _) rfl h
theorem itoa_short {n : Int} (h0 : -9223372036854775808 ≤ n) (h1 : n ≤ 9223372036854775807) : (itoa n).length ≤ 21 := by
  have hd : ∀ (k u : Nat), u < 10 ^ (k + 1) → (decDigits u).length ≤ k + 1 := by
    intro k
    induction k with
    | zero => intro u h; rw [decDigits, dif_pos (by simpa using h)]; exact Nat.le_refl _
    | succ k ih =>
      intro u h
      rw [decDigits]
      split
      · show 1 ≤ _; omega
      · have := ih (u / 10) (by rw [Nat.pow_succ] at h; omega)
        rw [List.length_append, List.length_singleton]
        omega
  unfold itoa
  split
  · rw [List.length_cons]
    have := hd 19 n.natAbs (by omega)
    omega
  · have := hd 19 n.toNat (by omega)
    omega
/-- what lines.At says of a place, in every later world -/
def AtC (w : World) (s : ByteArray) (at_ : Int) (p : Int × Int) : Prop := ∀ V, Below w.heap.size w V → Calls Tryz.prog 60 #[.string s, .int .i64 at_] V fun e w' => e = .returned (.agg #[.int .i64 p.1, .int .i64 p.2]) ∧ Below V.heap.size V w'
theorem AtC.below {w w' : World} {s : ByteArray} {at_ : Int} {p : Int × Int} (h : AtC w s at_ p) (hb : Below w.heap.size w w') : AtC w' s at_ p := fun V hV => h V (Below.on hb hV)
set_option maxRecDepth 100000 in
set_option maxHeartbeats 16000000 in
theorem position177 {w : World} (hE : ∀ V, Below w.heap.size w V → Env V) (s : ByteArray) (at_ : Int) (p : Int × Int) (h0 : 0 ≤ p.1 ∧ p.1 ≤ 9223372036854775807) (h1 : 0 ≤ p.2 ∧ p.2 ≤ 9223372036854775807) (hA : AtC w s at_ p) :
    Calls Tryz.prog 177 #[.string s, .int .i64 at_] w fun e w' => ∃ kp kc ip ic, e = .returned (.agg #[.int .i64 6, .string ⟨#[]⟩, .slice kp 2 kc, .slice ip 2 ic]) ∧ KP w' (w.heap.size ≤ ·) (posJ p) kp kc ip ic ∧ Below w.heap.size w w' := by
  obtain ⟨l, c⟩ := p
  dsimp only at h0 h1
  obtain ⟨W, hW⟩ : ∃ W, w.alloc (.cells #[.int .i64 0, .string ⟨#[]⟩, .slice none 0 0, .slice none 0 0] 25) = W := ⟨_, rfl⟩
  have bW := alloc_b hW
  have hJ : JBox W w.heap.size := by rw [← hW]; exact JBox.alloc _ _ _ _ _
  have HJ := Lib.hid hJ
  have HB := Lib.hid bW
  obtain ⟨I, hI⟩ : ∃ B : ByteArray, (⟨(itoa l).toArray⟩ : ByteArray) = B := ⟨_, rfl⟩
  obtain ⟨J, hJJ⟩ : ∃ B : ByteArray, (⟨(itoa c).toArray⟩ : ByteArray) = B := ⟨_, rfl⟩
  have h60 := hA W bW
  dsimp only at h60
  have HI : Hid (∀ V, Below w.heap.size w V → Calls Tryz.prog 126 #[.int .i64 l] V fun e w' => e = .returned (.agg #[.int .i64 3, .string I, .slice none 0 0, .slice none 0 0]) ∧ Below V.heap.size V w') := Lib.hid fun V hV => whole126 l (by omega) h0.2 I hI V (fun V' hV' => hE V' (Below.on hV hV'))
  have HC : Hid (∀ V, Below w.heap.size w V → Calls Tryz.prog 126 #[.int .i64 c] V fun e w' => e = .returned (.agg #[.int .i64 3, .string J, .slice none 0 0, .slice none 0 0]) ∧ Below V.heap.size V w') := Lib.hid fun V hV => whole126 c (by omega) h1.2 J hJJ V (fun V' hV' => hE V' (Below.on hV hV'))
  have HII := Lib.hid (And.intro hI hJJ)
  have HLN : Hid ((itoa l).length ≤ maxLen ∧ (itoa c).length ≤ maxLen) := Lib.hid ⟨Nat.le_trans (itoa_short (by omega) h0.2) (by decide), Nat.le_trans (itoa_short (by omega) h1.2) (by decide)⟩
  clear hJ bW hE hA hI hJJ h0 h1
  go_enter Tryz.func177, Tryz.ntmps177
  go_upto_region 2 with (first
    | (go_at_call 60; refine h60.mono ?_; rintro e w1 ⟨rfl, hb1⟩))
  obtain ⟨V1, hV1⟩ : ∃ V, w1.alloc (.cells #[.int .i64 l, .int .i64 c] 40) = V := ⟨_, rfl⟩
  rw [hV1]
  have hv1 := alloc_b hV1
  have hpb := row_at hV1
  obtain ⟨pb, hpe⟩ : ∃ q, w1.heap.size = q := ⟨_, rfl⟩
  rw [hpe] at hpb
  have hs1 := hb1.size
  have hzW : w.heap.size < W.heap.size := HJ.out.lt
  have hne : pb ≠ w.heap.size := by omega
  simp only [hpe]
  have b1 := Below.on hb1 hv1
  have bd : Below V1.heap.size V1 V1.drew := (Below.refl _ _).drew
  have hjd : JBox V1 w.heap.size := HJ.out.same (b1.block _ hzW)
  have HP := Lib.hid hpb
  have HJV := Lib.hid hjd
  have HB1 := Lib.hid (Below.on (Below.on HB.out b1) bd)
  have hbw := HB1.out
  have hszV : w.heap.size + 1 ≤ V1.drew.heap.size := by have := b1.size; show _ ≤ V1.heap.size; omega
  have hA1 := HI.out V1.drew hbw
  have hSD : (V1.drew.heap[pb]? = some (.cells #[.int .i64 l, .int .i64 c] 40 (0, 0)) ∧ JBox V1.drew w.heap.size) := ⟨HP.out, HJV.out⟩
  clear hv1 hb1 hpb hjd b1 h60
  refine wp_region_held_drew (S := (fun V => V.heap[pb]? = some (.cells #[.int .i64 l, .int .i64 c] 40 (0, 0)) ∧ JBox V w.heap.size)) (by kernel_rfl) ⟨HP.out, HJV.out⟩ (fun hHeld => ?_)
  refine wpAnyH_take (i := 0) (oi := { dst := some 9, op := Op.fieldAddr 40 (Operand.tmp 5) 0, type := 0, pos := "lsp.go:189", after := #[], guard := none }) (v := ?_) rfl (by kernel_rfl) (by kernel_rfl) (by kernel_rfl) (fun _ _ _ h => h) (Or.inl ⟨by rfl, ?_⟩) (by assumption) ?_
  rotate_left
  · intro wx hS; go_simp; with_reducible rfl
  try simp only [Act.put, aSA, aSZ, aSS]
  refine wpAnyH_take (i := 1) (oi := { dst := some 10, op := Op.load 3 (Operand.tmp 9), type := 3, pos := "lsp.go:189", after := #[{ on := 0, ground := Ground.data }], guard := none }) (v := ?_) rfl (by kernel_rfl) (by kernel_rfl) (by kernel_rfl) (fun _ _ _ h => h) (Or.inl ⟨by rfl, ?_⟩) (by assumption) ?_
  rotate_left
  · intro wx hS; obtain ⟨hp, _⟩ := hS; obtain ⟨k0, k1⟩ := cells2 hp; go_simp; with_reducible rfl
  try simp only [Act.put, aSA, aSZ, aSS]
  refine wpAnyH_take (i := 4) (oi := { dst := some 13, op := Op.fieldAddr 40 (Operand.tmp 5) 1, type := 0, pos := "lsp.go:189", after := #[], guard := none }) (v := ?_) rfl (by kernel_rfl) (by kernel_rfl) (by kernel_rfl) (fun _ _ _ h => h) (Or.inl ⟨by rfl, ?_⟩) (by assumption) ?_
  rotate_left
  · intro wx hS; go_simp; with_reducible rfl
  try simp only [Act.put, aSA, aSZ, aSS]
  refine wpAnyH_take (i := 5) (oi := { dst := some 14, op := Op.load 3 (Operand.tmp 13), type := 3, pos := "lsp.go:189", after := #[{ on := 4, ground := Ground.data }], guard := none }) (v := ?_) rfl (by kernel_rfl) (by kernel_rfl) (by kernel_rfl) (fun _ _ _ h => h) (Or.inl ⟨by rfl, ?_⟩) (by assumption) ?_
  rotate_left
  · intro wx hS; obtain ⟨hp, _⟩ := hS; obtain ⟨k0, k1⟩ := cells2 hp; go_simp; with_reducible rfl
  try simp only [Act.put, aSA, aSZ, aSS]
  refine wpAnyH_ready (rs := [2]) (by kernel_rfl) (by simp) (AllReadyH.cons (o := { dst := some 11, op := Op.call { callee := Callee.value (Operand.func 126), args := #[Operand.tmp 10], argTypes := #[2] }, type := 25, pos := "lsp.go:189", after := #[{ on := 1, ground := Ground.data }], guard := none }) rfl (fun K' hK => ?_) AllReadyH.nil)
  rw [if_pos (by rfl)]
  go_simp
  go_at_call 126
  refine hA1.mono ?_
  rintro e w2 ⟨rfl, hb2⟩
  have hS2 : w2.heap[pb]? = some (.cells #[.int .i64 l, .int .i64 c] 40 (0, 0)) ∧ JBox w2 w.heap.size := ⟨(hb2.block _ (ltS hSD.1)).trans hSD.1, hSD.2.same (hb2.block _ hSD.2.lt)⟩
  have hbw2 := Below.on hbw hb2
  have hA2 := HC.out w2 hbw2
  refine hK.out _ _ hS2 (fun hH2 => ?_)
  clear hK K'
  try simp only [Act.put, aSA, aSZ, aSS]
  refine wpAnyH_take (i := 3) (oi := { dst := some 12, op := Op.build 182 #[(0, Operand.const (Value.string { data := #[108, 105, 110, 101] })), (1, Operand.tmp 11)], type := 182, pos := "lsp.go:189", after := #[{ on := 2, ground := Ground.data }], guard := none }) (v := ?_) rfl (by kernel_rfl) (by kernel_rfl) (by kernel_rfl) (fun _ _ _ h => h) (Or.inl ⟨by rfl, ?_⟩) (by assumption) ?_
  rotate_left
  · intro wx hS; go_simp; with_reducible rfl
  try simp only [Act.put, aSA, aSZ, aSS]
  refine wpAnyH_ready (rs := [6]) (by kernel_rfl) (by simp) (AllReadyH.cons (o := { dst := some 15, op := Op.call { callee := Callee.value (Operand.func 126), args := #[Operand.tmp 14], argTypes := #[2] }, type := 25, pos := "lsp.go:189", after := #[{ on := 5, ground := Ground.data }, { on := 2, ground := Ground.chain }], guard := none }) rfl (fun K' hK => ?_) AllReadyH.nil)
  rw [if_pos (by rfl)]
  go_simp
  go_at_call 126
  refine hA2.mono ?_
  rintro e w3 ⟨rfl, hb3⟩
  have hS3 : w3.heap[pb]? = some (.cells #[.int .i64 l, .int .i64 c] 40 (0, 0)) ∧ JBox w3 w.heap.size := ⟨(hb3.block _ (ltS hS2.1)).trans hS2.1, hS2.2.same (hb3.block _ hS2.2.lt)⟩
  have hbw3 := Below.on hbw2 hb3
  refine hK.out _ _ hS3 (fun hH6 => ?_)
  clear hK K'
  try simp only [Act.put, aSA, aSZ, aSS]
  refine wpAnyH_take (i := 7) (oi := { dst := some 16, op := Op.build 182 #[(0, Operand.const (Value.string { data := #[99, 104, 97, 114, 97, 99, 116, 101, 114] })), (1, Operand.tmp 15)], type := 182, pos := "lsp.go:189", after := #[{ on := 6, ground := Ground.data }], guard := none }) (v := ?_) rfl (by kernel_rfl) (by kernel_rfl) (by kernel_rfl) (fun _ _ _ h => h) (Or.inl ⟨by rfl, ?_⟩) (by assumption) ?_
  rotate_left
  · intro wx hS; go_simp; with_reducible rfl
  try simp only [Act.put, aSA, aSZ, aSS]
  refine wpAnyH_ready (rs := [8]) (by kernel_rfl) (by simp) (AllReadyH.cons (o := { dst := some 17, op := Op.buildSlice 235 2 #[(0, Operand.tmp 12), (1, Operand.tmp 16)], type := 235, pos := "lsp.go:189", after := #[{ on := 3, ground := Ground.data }, { on := 7, ground := Ground.data }], guard := none }) rfl (fun K' hK => ?_) AllReadyH.nil)
  rw [if_pos (by rfl)]
  go_simp
  obtain ⟨w4, hw4⟩ : ∃ V, w3.alloc (.cells #[.string ⟨#[108, 105, 110, 101]⟩, .int .i64 3, .string I, .slice none 0 0, .slice none 0 0, .string ⟨#[99, 104, 97, 114, 97, 99, 116, 101, 114]⟩, .int .i64 3, .string J, .slice none 0 0, .slice none 0 0] 182) = V := ⟨_, rfl⟩
  have hb4 := alloc_b hw4
  have hr4 := row_at hw4
  rw [hw4]
  have hS4 : w4.heap[pb]? = some (.cells #[.int .i64 l, .int .i64 c] 40 (0, 0)) ∧ JBox w4 w.heap.size := ⟨(hb4.block _ (ltS hS3.1)).trans hS3.1, hS3.2.same (hb4.block _ hS3.2.lt)⟩
  have hbw4 := Below.on hbw3 hb4
  have h119 := object_row (w := w4) (g := w3.heap.size) (c0 := 2) (n := 2) (B := w.heap.size + 1) [(kLine, leafI (numJ l)), (kChar, leafI (numJ c))] (by rw [hr4, ← HII.out.1, ← HII.out.2]; rfl) rfl (by omega) (by have := hb2.size; have := hb3.size; have := hb4.size; omega) (fun f hf => by
        simp only [List.mem_cons, List.not_mem_nil, or_false] at hf
        rcases hf with rfl | rfl
        · exact ⟨KP.leaf _ _ _ _, HLN.out.1⟩
        · exact ⟨KP.leaf _ _ _ _, HLN.out.2⟩) (fun f hf => by
        simp only [List.mem_cons, List.not_mem_nil, or_false] at hf
        rcases hf with rfl | rfl
        · exact (by decide : kLine.length ≤ maxLen)
        · exact (by decide : kChar.length ≤ maxLen)) [kLine, kChar] [numJ l, numJ c] rfl rfl
  refine hK.out _ _ hS4 (fun hH8 => ?_)
  clear hK K'
  try simp only [Act.put, aSA, aSZ, aSS]
  refine wpAnyH_ready (rs := [9]) (by kernel_rfl) (by simp) (AllReadyH.cons (o := { dst := some 18, op := Op.call { callee := Callee.value (Operand.func 119), args := #[Operand.tmp 17], argTypes := #[235] }, type := 25, pos := "lsp.go:189", after := #[{ on := 8, ground := Ground.data }, { on := 6, ground := Ground.chain }], guard := none }) rfl (fun K' hK => ?_) AllReadyH.nil)
  rw [if_pos (by rfl)]
  go_simp
  go_at_call 119
  refine h119.mono ?_
  rintro e w5 ⟨kp, kc, ip, ic, rfl, hkp, hb5⟩
  have hS5 : w5.heap[pb]? = some (.cells #[.int .i64 l, .int .i64 c] 40 (0, 0)) ∧ JBox w5 w.heap.size := ⟨(hb5.block _ (ltS hS4.1)).trans hS4.1, hS4.2.same (hb5.block _ hS4.2.lt)⟩
  have hbw5 := Below.on hbw4 hb5
  refine hK.out _ _ hS5 (fun hH9 => ?_)
  clear hK K'
  try simp only [Act.put, aSA, aSZ, aSS]
  refine wpAnyH_ready (rs := [10]) (by kernel_rfl) (by simp) (AllReadyH.cons (o := { dst := none, op := Op.store 25 (Operand.tmp 4) (Operand.tmp 18), type := 0, pos := "lsp.go:189", after := #[{ on := 9, ground := Ground.data }, { on := 9, ground := Ground.chain }, { on := 0, ground := Ground.phase }, { on := 1, ground := Ground.phase }, { on := 2, ground := Ground.phase }, { on := 3, ground := Ground.phase }, { on := 4, ground := Ground.phase }, { on := 5, ground := Ground.phase }, { on := 6, ground := Ground.phase }, { on := 7, ground := Ground.phase }, { on := 8, ground := Ground.phase }, { on := 9, ground := Ground.phase }], guard := none }) rfl (fun K' hK => ?_) AllReadyH.nil)
  rw [if_pos (by rfl)]
  refine wp_store_J (.tmp 4) (.tmp 18) rfl w.heap.size rfl (.int .i64 6) (.string ⟨#[]⟩) (.slice kp 2 kc) (.slice ip 2 ic) rfl ⟨rfl, rfl, rfl, rfl⟩ rfl hS5.2 (fun V6 hV6 hg6 _ => ?_)
  refine hK.out _ _ ⟨(hg6.block _ (ltS hS5.1) (fun e => hne (Option.some.inj e))).trans hS5.1, ⟨_, _, _, _, hV6⟩⟩ (fun hH10 => ?_)
  clear hK K'
  try simp only [Act.put]
  refine wpAnyH_done (by kernel_rfl) ?_ _
  go_wp2_with fail
  refine bodyPost_ret (ret_val Tryz.results177 rfl hV6) rfl ?_
  exact ⟨kp, kc, ip, ic, rfl, (hkp.fr (FrP.of (P := fun q => q = w.heap.size) hg6 rfl) (fun q hq e => by omega)).keep (Nat.le_refl _) (fun _ _ _ => rfl) (fun q hq _ => by omega), below_gbz hbw5 (Nat.le_refl _) hg6⟩
end Go.Proofs.Ls
/- NE: lsp's span, find. Printed by gen_ne.py. -/
namespace Go.Proofs.Ls
open Go.RowKit Go.Maps Go.Lib Go.Proofs.Utf Go.Proofs.Jt Go.Proofs

set_option maxRecDepth 100000 in
set_option maxHeartbeats 16000000 in
theorem span120 {w : World} (hE : ∀ V, Below w.heap.size w V → Env V) (s : ByteArray) (a b : Int) (p q : Int × Int) (h0 : (0 ≤ p.1 ∧ p.1 ≤ 9223372036854775807) ∧ (0 ≤ p.2 ∧ p.2 ≤ 9223372036854775807)) (h1 : (0 ≤ q.1 ∧ q.1 ≤ 9223372036854775807) ∧ (0 ≤ q.2 ∧ q.2 ≤ 9223372036854775807)) (hA : AtC w s a p) (hB : AtC w s b q) :
    Calls Tryz.prog 120 #[.string s, .int .i64 a, .int .i64 b] w fun e w' => ∃ kp kc ip ic, e = .returned (.agg #[.int .i64 6, .string ⟨#[]⟩, .slice kp 2 kc, .slice ip 2 ic]) ∧ KP w' (w.heap.size ≤ ·) (spanJ p q) kp kc ip ic ∧ Below w.heap.size w w' := by
  obtain ⟨W, hW⟩ : ∃ W, w.alloc (.cells #[.int .i64 0, .string ⟨#[]⟩, .slice none 0 0, .slice none 0 0] 25) = W := ⟨_, rfl⟩
  have bW := alloc_b hW
  have zW : W.heap.size = w.heap.size + 1 := by rw [← hW]; simp
  have hJ : JBox W w.heap.size := by rw [← hW]; exact JBox.alloc _ _ _ _ _
  have HJ : Hid (∀ V, Below W.heap.size W V → JBox V w.heap.size) := Lib.hid fun V hV => hJ.same (hV.block _ hJ.lt)
  have HB := Lib.hid bW
  have h177 := position177 (fun V hV => hE V (Below.on bW hV)) s a p h0.1 h0.2 (hA.below bW)
  have HQ : Hid (∀ V, Below W.heap.size W V → Calls Tryz.prog 177 #[.string s, .int .i64 b] V fun e w' => ∃ kp kc ip ic, e = .returned (.agg #[.int .i64 6, .string ⟨#[]⟩, .slice kp 2 kc, .slice ip 2 ic]) ∧ KP w' (V.heap.size ≤ ·) (posJ q) kp kc ip ic ∧ Below V.heap.size V w') := Lib.hid fun V hV => position177 (fun V' hV' => hE V' (Below.on (Below.on bW hV) hV')) s b q h1.1 h1.2 (hB.below (Below.on bW hV))
  clear hE hA hB h0 h1 bW hJ
  go_enter Tryz.func120, Tryz.ntmps120
  go_wp2_with (first
    | (with_reducible (show Calls _ _ _ W _); go_at_call 177; refine h177.mono ?_; rintro e w1 ⟨ka, ca, ia, da, rfl, hk1, hb1⟩
       have HK1 := Lib.hid hk1
       clear hk1
       have h177b := HQ.out w1 hb1)
    | (with_reducible (show Calls _ _ _ w1 _); go_at_call 177; refine h177b.mono ?_; rintro e w2 ⟨kb, cb, ib, db, rfl, hk2, hb2⟩
       obtain ⟨V, hV⟩ : ∃ V, w2.alloc (.cells #[.string ⟨#[115, 116, 97, 114, 116]⟩, .int .i64 6, .string ⟨#[]⟩, .slice ka 2 ca, .slice ia 2 da, .string ⟨#[101, 110, 100]⟩, .int .i64 6, .string ⟨#[]⟩, .slice kb 2 cb, .slice ib 2 db] 182) = V := ⟨_, rfl⟩
       have hv := alloc_b hV
       have b3 := Below.on hb1 (Below.on hb2 hv)
       have hr := row_at hV
       have hsz : W.heap.size ≤ V.heap.size := b3.size
       have hs1 := hb1.size
       have h119 := object_row (w := V) (g := w2.heap.size) (c0 := 2) (n := 2) (B := W.heap.size) [(kStart, ⟨posJ p, ka, ca, ia, da⟩), (kEnd, ⟨posJ q, kb, cb, ib, db⟩)] hr rfl (by omega) hsz (fun f hf => by
         simp only [List.mem_cons, List.not_mem_nil, or_false] at hf
         rcases hf with rfl | rfl
         · exact ⟨(kp_on' (kp_on' HK1.out hb2) hv), Nat.zero_le _⟩
         · exact ⟨(kp_on' hk2 hv).keep (Nat.le_refl _) (fun _ _ _ => rfl) (fun q hq _ => by omega), Nat.zero_le _⟩) (fun f hf => by
         simp only [List.mem_cons, List.not_mem_nil, or_false] at hf
         rcases hf with rfl | rfl
         · exact (by decide : kStart.length ≤ maxLen)
         · exact (by decide : kEnd.length ≤ maxLen)) [kStart, kEnd] [posJ p, posJ q] rfl rfl
       clear hk2 hr)
    | (go_at_call 119; refine h119.mono ?_; rintro e w5 ⟨kp, kc, ip, ic, rfl, hkp, hb5⟩
       have b5 := Below.on b3 hb5
       have HK5 := Lib.hid hkp
       have hj5 := HJ.out w5 b5
       clear hkp)
    | (refine store_val rfl (.tmp 6) (.tmp 16) rfl w.heap.size rfl (.int .i64 6) (.string ⟨#[]⟩) (.slice kp 2 kc) (.slice ip 2 ic) rfl rfl hj5 (fun V9 hV9 hgV _ => ?_)))
  refine bodyPost_ret (ret_val Tryz.results120 rfl hV9) rfl ?_
  exact ⟨kp, kc, ip, ic, rfl, (HK5.out.fr (FrP.of (P := fun q => q = w.heap.size) hgV rfl) (fun q hq e => by omega)).keep (Nat.le_refl _) (fun _ _ _ => rfl) (fun q hq _ => by omega), below_gbz (Below.on HB.out b5) (Nat.le_refl _) hgV⟩
set_option maxRecDepth 100000 in
theorem find1_176 {w : World} {U T : ByteArray} {v : Int} {ub : Nat} (hu : w.heap[ub]? = some (.cells #[.string U] 9 (0, 0))) : Calls Tryz.prog 176 #[.agg #[.string U, .string T, .int .i64 v], .pointer (some ⟨ub, 0, none⟩)] w fun e w' => e = .returned (.bool true) ∧ Below w.heap.size w w' := by
  obtain ⟨W, hW⟩ : ∃ W, w.alloc (.cells #[.string U, .string T, .int .i64 v] 93) = W := ⟨_, rfl⟩
  have bW := alloc_b hW
  have hr := row_at hW
  have y0 : W.cell? ⟨w.heap.size, 0, none⟩ = some (.string U) := by simp [World.cell?, hr]
  have hu' := (bW.block _ (ltS hu)).trans hu
  have y1 : W.cell? ⟨ub, 0, none⟩ = some (.string U) := by simp [World.cell?, hu']
  have HB := Lib.hid bW
  clear bW hr hu hu'
  go_enter Tryz.func176, Tryz.ntmps176
  go_wp2_with fail
  go_ret
  exact ⟨rfl, HB.out⟩
set_option maxRecDepth 100000 in
set_option maxHeartbeats 4000000 in
theorem index175 {w : World} {g ub : Nat} {U T : ByteArray} {v : Int} (h : w.heap[g]? = some (.cells #[.string U, .string T, .int .i64 v] 93 (0, 0))) (hu : w.heap[ub]? = some (.cells #[.string U] 9 (0, 0))) : Calls Tryz.prog 175 #[.slice (some ⟨g, 0, none⟩) 1 1, .func (.func 176) #[] #[.pointer (some ⟨ub, 0, none⟩)]] w fun e w' => e = .returned (.int .i64 0) ∧ Below w.heap.size w w' := by
  have h176 := find1_176 (T := T) (v := v) hu
  obtain ⟨y0, y1, y2⟩ : w.cell? ⟨g, 0, none⟩ = some (.string U) ∧ w.cell? ⟨g, 1, none⟩ = some (.string T) ∧ w.cell? ⟨g, 2, none⟩ = some (.int .i64 v) := by
    refine ⟨?_, ?_, ?_⟩ <;> simp [World.cell?, h]
  clear h hu
  go_enter Tryz.func175, Tryz.ntmps175
  go_wp2_with fail
  go_loopw [8] (fun iv wr => iv = .int .i64 0 ∧ wr = w) (fun iv _ => 1 - (RowKit.intOf iv).toNat)
  case atStart => exact ⟨rfl, rfl⟩
  case round =>
    obtain ⟨rfl, rfl⟩ := hrel
    go_wp2_with (first
      | (go_at_call 176; refine h176.mono ?_; rintro e w1 ⟨rfl, hb1⟩))
    go_ret
    exact ⟨rfl, hb1⟩
set_option maxRecDepth 100000 in
set_option maxHeartbeats 4000000 in
theorem find118 {w : World} {g : Nat} {U T : ByteArray} {v : Int} (h : w.heap[g]? = some (.cells #[.string U, .string T, .int .i64 v] 93 (0, 0))) : Calls Tryz.prog 118 #[.slice (some ⟨g, 0, none⟩) 1 1, .string U] w fun e w' => e = .returned (.tuple #[.string T, .bool true]) ∧ Below w.heap.size w w' := by
  obtain ⟨W, hW⟩ : ∃ W, w.alloc (.cells #[.string U] 9) = W := ⟨_, rfl⟩
  have bW := alloc_b hW
  have h1 := (bW.block _ (ltS h)).trans h
  have h175 := index175 h1 (row_at hW)
  have HB := Lib.hid bW
  have H1 := Lib.hid h1
  clear bW h h1
  go_enter Tryz.func118, Tryz.ntmps118
  go_wp2_with (first
    | (go_at_call 175; refine h175.mono ?_; rintro e w1 ⟨rfl, hb1⟩
       have h2 := (hb1.block _ (ltS H1.out)).trans H1.out
       have y1 : w1.cell? ⟨g, 1, none⟩ = some (.string T) := by simp [World.cell?, h2]))
  go_ret2
  exact ⟨rfl, Below.on HB.out hb1⟩
end Go.Proofs.Ls
/- NG: Splices in memory; edits.Check. Printed by gen_ng.py. -/
namespace Go.Proofs.Ls
open Go.RowKit Go.Maps Go.Lib Go.Proofs.Utf Go.Proofs.Jt Go.Proofs

/-- a splice -/
structure SpV where
  fr : Int
  till : Int
  text : List UInt8
/-- a splice at a place -/
structure SpC (w : World) (q : Addr) (s : SpV) : Prop where
  c0 : w.cell? q = some (.int .i64 s.fr)
  c1 : w.cell? ⟨q.block, q.off + 1, none⟩ = some (.int .i64 s.till)
  c2 : w.cell? ⟨q.block, q.off + 2, none⟩ = some (.string ⟨s.text.toArray⟩)
  blk : q.block < w.heap.size
theorem SpC.below {w w' : World} {q : Addr} {s : SpV} (h : SpC w q s) (hb : Below w.heap.size w w') : SpC w' q s :=
  ⟨(hb.cell h.blk).trans h.c0, (hb.cell (by exact h.blk)).trans h.c1, (hb.cell (by exact h.blk)).trans h.c2, Nat.lt_of_lt_of_le h.blk hb.size⟩
def SplP (w : World) (p : Option Addr) (l : List SpV) : Prop := ∀ (i : Nat) (s : SpV), l[i]? = some s → ∃ a, p = some a ∧ SpC w (a.add (i * 3)) s
theorem SplP.below {w w' : World} {p : Option Addr} {l : List SpV} (h : SplP w p l) (hb : Below w.heap.size w w') : SplP w' p l := fun i s hs => by
  obtain ⟨a, h1, h2⟩ := h i s hs
  exact ⟨a, h1, h2.below hb⟩
/-- do splices fit a text of n bytes? -/
def fits (n : Int) : List SpV → Int → Bool
  | [], _ => true
  | s :: l, was => if s.fr < was ∨ s.till < s.fr ∨ n < s.till then false else fits n l s.till
theorem fits_cons (n : Int) (s : SpV) (l : List SpV) (was : Int) : fits n (s :: l) was = if s.fr < was ∨ s.till < s.fr ∨ n < s.till then false else fits n l s.till := rfl
set_option maxRecDepth 100000 in
set_option maxHeartbeats 8000000 in
theorem check58 {w : World} {n : Int} (hn : 0 ≤ n) {p : Option Addr} {c : Nat} {L : List SpV} (h : SplP w p L) (hl : L.length ≤ 1000000) :
    Calls Tryz.prog 58 #[.int .i64 n, .slice p L.length c] w fun e w' => e = .returned (.int .i64 (if fits n L 0 = true then 0 else 2)) ∧ Below w.heap.size w w' := by
  have hn0 : ¬ n < 0 := by omega
  have HS := Lib.hid h
  obtain ⟨F, hF⟩ : ∃ b, fits n L 0 = b := ⟨_, rfl⟩
  rw [hF]
  have HFF := Lib.hid hF
  clear h hF
  go_enter Tryz.func58, Tryz.ntmps58
  go_wp2_with fail
  go_loopw [5, 10] (fun av iv wr => ∃ (i : Nat) (was : Int), av = .int .i64 was ∧ iv = .int .i64 i ∧ i ≤ L.length ∧ fits n (L.drop i) was = F ∧ Below w.heap.size w wr) (fun _ iv _ => L.length - (RowKit.intOf iv).toNat)
  case atStart => exact ⟨0, 0, rfl, rfl, Nat.zero_le _, HFF.out, Below.refl _ _⟩
  case round =>
    obtain ⟨i, was, rfl, rfl, hi, hfi, hB⟩ := hrel
    have HF := Lib.hid hfi
    clear hfi
    by_cases hin : (i : Int) < (L.length : Int)
    · obtain ⟨s, hs⟩ : ∃ s, L[i]? = some s := ⟨_, List.getElem?_eq_getElem (by omega)⟩
      obtain ⟨a, rfl, hsc⟩ := HS.out i s hs
      obtain ⟨g0, g1, g2, _⟩ := hsc.below hB
      obtain ⟨T, hT⟩ : ∃ B : ByteArray, (⟨s.text.toArray⟩ : ByteArray) = B := ⟨_, rfl⟩
      rw [hT] at g2
      obtain ⟨wa, hwa⟩ : ∃ wa, wr.alloc (.cells #[.int .i64 s.fr, .int .i64 s.till, .string T] 107) = wa := ⟨_, rfl⟩
      have hra := alloc_b hwa
      have hr := row_at hwa
      have y0 : wa.cell? ⟨wr.heap.size, 0, none⟩ = some (.int .i64 s.fr) := by simp [World.cell?, hr]
      have y1 : wa.cell? ⟨wr.heap.size, 1, none⟩ = some (.int .i64 s.till) := by simp [World.cell?, hr]
      have HBA := Lib.hid (Below.on hB hra)
      have hf := HF.out
      rw [drop_cons hs, fits_cons] at hf
      have HF2 := Lib.hid hf
      clear hf hs hsc hT hra hr hB HF
      by_cases h1 : s.fr < was
      · obtain rfl : false = F := by
          have hf := HF2.out
          rw [if_pos (.inl h1)] at hf
          exact hf
        clear HF2 HFF
        go_wp2_with fail
        go_ret
        exact ⟨rfl, HBA.out⟩
      · by_cases h2 : s.till < s.fr
        · obtain rfl : false = F := by
            have hf := HF2.out
            rw [if_pos (.inr (.inl h2))] at hf
            exact hf
          clear HF2 HFF
          go_wp2_with fail
          go_ret
          exact ⟨rfl, HBA.out⟩
        · by_cases h3 : s.till > n
          · obtain rfl : false = F := by
              have hf := HF2.out
              rw [if_pos (.inr (.inr h3))] at hf
              exact hf
            clear HF2 HFF
            go_wp2_with fail
            go_ret
            exact ⟨rfl, HBA.out⟩
          · go_wp2_with fail
            go_roundw
            case rel =>
              have hf := HF2.out
              rw [if_neg (by omega)] at hf
              exact ⟨i + 1, s.till, rfl, by go_num, by omega, hf, HBA.out⟩
            case measure => simp [RowKit.intOf]; omega
    · have hf := HF.out
      rw [List.drop_eq_nil_of_le (by omega)] at hf
      unfold fits at hf
      obtain rfl : true = F := hf
      clear HF HFF
      go_wp2_with fail
      go_ret
      exact ⟨rfl, hB⟩
end Go.Proofs.Ls
