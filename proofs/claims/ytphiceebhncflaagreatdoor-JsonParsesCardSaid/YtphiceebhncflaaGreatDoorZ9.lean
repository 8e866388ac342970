/- The reference's value. Printed by gen_z9.py. -/
import Derived.Test.YtphiceebhncflaaGreatDoorZ8
namespace Go.Proofs.Jt
open Go.RowKit Go.Maps Go.Lib Go.Proofs.Utf Go.Proofs

theorem RVP.leaf {w wr V : World} {N : Nat} {T : Option (JV × List KT)} {k : Int} {s : List UInt8} {S : ByteArray} {r : List KT} {j : Int} (hb : Below w.heap.size w wr) (hg : wr.grownBy V (some w.heap.size)) (hS : (⟨s.toArray⟩ : ByteArray) = S) (hs : s.length ≤ maxLen) (hT : T = some (.mk k s [] [], r)) (hj : j = ((N - r.length : Nat) : Int)) :
    RVP w N T (.returned (.tuple #[.agg #[.int .i64 k, .string S, .slice none 0 0, .slice none 0 0], .int .i64 j])) V := by
  subst hT hj hS
  exact ⟨below_fr hb (Nat.le_refl _) (FrP.of (P := fun b => b = w.heap.size) hg rfl) (fun b hb => by omega), none, 0, none, 0, rfl, KP.leaf _ _ _ _, hs⟩
theorem RVP.pass {w0 w w' : World} {N : Nat} {o : Option (JV × List KT)} {e : Ending} (h : RVP w N o e w') : ∃ k S p n c p' n' c' j, e = .returned (.tuple #[.agg #[.int .i64 k, .string S, .slice p n c, .slice p' n' c'], .int .i64 j]) ∧
    ∀ V z, w'.grownBy V (some z) → z < w.heap.size → w0.heap.size ≤ z → Below w0.heap.size w0 w → RVP w0 N o e V := by
  cases o with
  | none =>
    obtain ⟨hb, k, S, p, n, c, p', n', c', rfl⟩ := h
    exact ⟨k, S, p, n, c, p', n', c', -1, rfl, fun V z hg hz h0 h1 => ⟨below_fr (Below.on h1 hb) (Nat.le_refl _) (FrP.of (P := fun b => b = z) hg rfl) (fun b hb => by omega), k, S, p, n, c, p', n', c', rfl⟩⟩
  | some q =>
    obtain ⟨v, r⟩ := q
    obtain ⟨hb, kp, kc, ip, ic, rfl, hk, hl⟩ := h
    refine ⟨_, _, _, _, _, _, _, _, _, rfl, fun V z hg hz h0 h1 => ⟨below_fr (Below.on h1 hb) (Nat.le_refl _) (FrP.of (P := fun b => b = z) hg rfl) (fun b hb => by omega), kp, kc, ip, ic, rfl, ?_, hl⟩⟩
    have := h1.size
    exact (hk.fr (FrP.of (P := fun b => b = z) hg rfl) fun b hb e => by omega).keep (Nat.le_refl _) (fun _ _ _ => rfl) fun b hb _ => by omega
set_option maxRecDepth 100000 in
set_option maxHeartbeats 8000000 in
theorem rvalue_all : ∀ n, ValR n := by
  intro n
  induction n using Nat.strongRecOn with
  | ind n ih =>
  cases n with
  | zero => intro w p c R K i _ _ _ _ _ hn; omega
  | succ n =>
  intro w p c R K i h hK1 hR hl hi hn
  have IH : ∀ m, m + 1 ≤ n → ValR m := fun m hm => ih m (by omega)
  obtain ⟨W, hW⟩ : ∃ W, w.alloc (.cells #[.int .i64 0, .string ⟨#[]⟩, .slice none 0 0, .slice none 0 0] 25) = W := ⟨_, rfl⟩
  have bW := alloc_b hW
  have hz1 : W.heap.size = w.heap.size + 1 := by rw [← hW]; simp
  have hJ0 : JBox W w.heap.size := by rw [← hW]; exact JBox.alloc _ _ _ _ _
  clear ih
  by_cases hin : (i : Int) < (K.length : Int)
  · obtain ⟨y, hy⟩ : ∃ y, K[i]? = some y := ⟨_, List.getElem?_eq_getElem (by omega)⟩
    obtain ⟨k, x⟩ := y
    have hk1 : 1 ≤ k := hK1 _ (List.mem_of_getElem? hy)
    have hdr := drop_cons hy
    have hrl : (K.drop (i + 1)).length = K.length - (i + 1) := List.length_drop
    have hTW : TokP W R p K := h.kept fun b _ hl => bW.block b hl
    obtain ⟨g, o, rfl, hgR, k0, k1, hxl, hk4, hwd, u, v, k2, k3⟩ := hTW i k x hy
    obtain ⟨X, hX⟩ : ∃ X : ByteArray, (⟨x.toArray⟩ : ByteArray) = X := ⟨_, rfl⟩
    have hXl : X.toList = x := by rw [ByteArray.toList_eq, ← hX]
    rw [hX] at k1
    obtain ⟨W2, hW2⟩ : ∃ W2, W.alloc (.cells #[.int .i64 k, .string X, .int .i64 u, .int .i64 v] 95) = W2 := ⟨_, rfl⟩
    have bW2 := alloc_b hW2
    have bT := Below.on bW bW2
    have hz2 : W2.heap.size = w.heap.size + 2 := by rw [← hW2]; simp [hz1]
    obtain ⟨c0, c1, c2, c3⟩ := cells4 (show W2.heap[w.heap.size + 1]? = some (.cells #[.int .i64 k, .string X, .int .i64 u, .int .i64 v] 95 (0, 0)) by rw [← hz1, ← hW2]; exact alloc_at W _)
    have hJ2 : JBox W2 w.heap.size := hJ0.same (bW2.block _ hJ0.lt)
    have hTW2 : TokP W2 R (some ⟨g, o, none⟩) K := hTW.kept fun b _ hl => bW2.block b hl
    have HJ := Lib.hid hJ2
    have HBT := Lib.hid bT
    have HX := Lib.hid hX
    have HRL := Lib.hid hrl
    rw [hdr, valP_cons]
    have hix : ∀ m : Nat, ((i : Int) + 1) = ((K.length - (K.drop (i + 1)).length : Nat) : Int) := fun _ => by omega
    have hn2 : 2 * (K.drop (i + 1)).length + 2 ≤ n := by rw [hdr, List.length_cons] at hn; omega
    have hml : x.length ≤ maxLen := Nat.le_trans hxl (by unfold maxLen; omega)
    by_cases h2 : k = 2
    · subst h2
      rw [show ((2 : Nat) : Int) = 2 from rfl] at k0 c0 hW2
      have hx3 := hwd rfl
      rw [if_pos rfl]
      clear hwd hdr hy hTW hTW2 bW2 bT bW h hK1 hR hn2 hJ2 hJ0 hrl
      obtain ⟨t, ht2, hxt⟩ : ∃ t : Nat, t ≤ 2 ∧ x = [wNull, wFalse, wTrue].getD t [] := by
        rcases hx3 with rfl | rfl | rfl
        · exact ⟨0, by omega, rfl⟩
        · exact ⟨1, by omega, rfl⟩
        · exact ⟨2, by omega, rfl⟩
      have hval : (if x = wNull then some (jn 0, K.drop (i + 1)) else if x = wFalse then some (jn 1, K.drop (i + 1)) else if x = wTrue then some (jn 2, K.drop (i + 1)) else none) = some (jn (t : Int), K.drop (i + 1)) := by
        rcases (show t = 0 ∨ t = 1 ∨ t = 2 by omega) with rfl | rfl | rfl
        · have e : x = wNull := hxt
          rw [e, if_pos rfl]; rfl
        · have e : x = wFalse := hxt
          rw [e, if_neg (by decide), if_pos rfl]; rfl
        · have e : x = wTrue := hxt
          rw [e, if_neg (by decide), if_neg (by decide), if_pos rfl]; rfl
      rw [hval]
      obtain ⟨W3, hW3⟩ : ∃ W3, W2.alloc (.cells #[.string ⟨#[110, 117, 108, 108]⟩, .string ⟨#[102, 97, 108, 115, 101]⟩, .string ⟨#[116, 114, 117, 101]⟩] 9) = W3 := ⟨_, rfl⟩
      have bW3 := alloc_b hW3
      obtain ⟨r0, r1, r2, _⟩ := cells3 (show W3.heap[w.heap.size + 2]? = some (.cells #[.string ⟨#[110, 117, 108, 108]⟩, .string ⟨#[102, 97, 108, 115, 101]⟩, .string ⟨#[116, 114, 117, 101]⟩] 9 (0, 0)) by rw [← hz2, ← hW3]; exact alloc_at W2 _)
      have HF : Hid (∀ wr, Below W3.heap.size W3 wr → wr.cell? ⟨w.heap.size + 2, 0, none⟩ = some (.string ⟨#[110, 117, 108, 108]⟩) ∧ wr.cell? ⟨w.heap.size + 2, 1, none⟩ = some (.string ⟨#[102, 97, 108, 115, 101]⟩) ∧ wr.cell? ⟨w.heap.size + 2, 2, none⟩ = some (.string ⟨#[116, 114, 117, 101]⟩) ∧ wr.cell? ⟨w.heap.size + 1, 1, none⟩ = some (.string X) ∧ JBox wr w.heap.size) := Lib.hid fun wr hb => by
        have b3 := Below.on bW3 hb
        have hs3 : W3.heap.size = w.heap.size + 3 := by rw [← hW3]; simp [hz2]
        refine ⟨(hb.cell (p := ⟨w.heap.size + 2, 0, none⟩) (cell_blk r0)).trans r0, (hb.cell (p := ⟨w.heap.size + 2, 1, none⟩) (cell_blk r1)).trans r1, (hb.cell (p := ⟨w.heap.size + 2, 2, none⟩) (cell_blk r2)).trans r2, (b3.cell (p := ⟨w.heap.size + 1, 1, none⟩) (cell_blk c1)).trans c1, HJ.out.same (b3.block _ HJ.out.lt)⟩
      have HB3 := Lib.hid (Below.on HBT.out bW3)
      have HXT := Lib.hid hxt
      clear hx3 hval r0 r1 r2 bW3 hXl hxl hX hxt
      go_enter Tryz.func42, Tryz.ntmps42
      go_wp2_with fail
      go_loopw [8] (fun kv wr => ∃ j : Nat, kv = .int .i64 j ∧ j ≤ t ∧ Below W3.heap.size W3 wr) (fun kv _ => 3 - (RowKit.intOf kv).toNat)
      case atStart => exact ⟨0, rfl, Nat.zero_le _, Below.refl _ _⟩
      case round =>
        obtain ⟨j, rfl, hjt, hB⟩ := hrel
        clear c0 c1 c2 c3
        obtain ⟨s0, s1, s2, s3, hjb⟩ := HF.out wr hB
        clear hjb
        by_cases hjj : j = t
        · subst hjj
          rcases (show j = 0 ∨ j = 1 ∨ j = 2 by omega) with rfl | rfl | rfl
          all_goals
            obtain ⟨X', hX'⟩ : ∃ X', X = X' := ⟨_, rfl⟩
            have hXe := HX.out
            rw [HXT.out] at hXe
            subst hXe
            simp [wNull, wFalse, wTrue] at s3
            go_upto_region 10 with fail
            go_quiet (fail)
            have hBd := below_draws hB nq
            obtain ⟨s0', s1', s2', s3', hjb'⟩ := HF.out _ hBd
            have HJB := Lib.hid hjb'
            clear hjb' s0' s1' s2' s3'
            generalize wr.drewN nq = wd at *
            go_wp2_with (first | (refine store_val rfl (.tmp 4) (.tmp 35) rfl w.heap.size rfl (.int .i64 _) (.string ⟨#[]⟩) (.slice none 0 0) (.slice none 0 0) rfl rfl HJB.out (fun V hV hgV _ => ?_)))
            refine bodyPost_ret (ret_val2 Tryz.results42 rfl rfl hV) rfl ?_
            exact RVP.leaf (s := []) (Below.on HB3.out hBd) hgV rfl (Nat.zero_le _) rfl (hix 0)
        · have hj2 : (j = 0 ∧ t = 1) ∨ (j = 0 ∧ t = 2) ∨ (j = 1 ∧ t = 2) := by omega
          rcases hj2 with ⟨rfl, rfl⟩ | ⟨rfl, rfl⟩ | ⟨rfl, rfl⟩
          all_goals
            have hXe := HX.out
            rw [HXT.out] at hXe
            subst hXe
            simp [wNull, wFalse, wTrue] at s3
            go_upto_region 10 with fail
            go_quiet (fail)
            have hBd := below_draws hB nq
            obtain ⟨s0', s1', s2', s3', hjb'⟩ := HF.out _ hBd
            have HJB := Lib.hid hjb'
            clear hjb' s0' s1' s2' s3'
            generalize wr.drewN nq = wd at *
            go_wp2_with fail
            go_roundw
            case rel => first | exact ⟨1, by go_num, by omega, hBd⟩ | exact ⟨2, by go_num, by omega, hBd⟩
            case measure => simp [RowKit.intOf]
    · by_cases h3 : k = 3
      · subst h3
        rw [show ((3 : Nat) : Int) = 3 from rfl] at k0 c0 hW2
        rw [if_neg (by decide), if_pos rfl]
        clear hwd hdr hy hTW hTW2 bW2 bT bW h hK1 hR hn2 hJ2 hJ0 hXl hX hrl
        go_enter Tryz.func42, Tryz.ntmps42
        go_wp2_with (first | (refine store_val rfl (.tmp 4) (.tmp 43) rfl w.heap.size rfl (.int .i64 3) (.string X) (.slice none 0 0) (.slice none 0 0) rfl rfl HJ.out (fun V hV hgV _ => ?_)))
        refine bodyPost_ret (ret_val2 Tryz.results42 rfl rfl hV) rfl ?_
        exact RVP.leaf HBT.out hgV HX.out hml rfl (hix 0)
      · by_cases h4 : k = 4
        · subst h4
          rw [show ((4 : Nat) : Int) = 4 from rfl] at k0 c0 hW2
          rw [if_neg (by decide), if_neg (by decide), if_pos rfl]
          clear hwd hdr hy hTW hTW2 bW2 bT bW h hK1 hR hn2 hJ2 hJ0 hXl hX hrl
          go_enter Tryz.func42, Tryz.ntmps42
          go_wp2_with (first | (refine store_val rfl (.tmp 4) (.tmp 50) rfl w.heap.size rfl (.int .i64 4) (.string X) (.slice none 0 0) (.slice none 0 0) rfl rfl HJ.out (fun V hV hgV _ => ?_)))
          refine bodyPost_ret (ret_val2 Tryz.results42 rfl rfl hV) rfl ?_
          exact RVP.leaf HBT.out hgV HX.out hml rfl (hix 0)
        · have hk : k = 1 := by omega
          subst hk
          rw [show ((1 : Nat) : Int) = 1 from rfl] at k0 c0 hW2
          rw [if_neg (by decide), if_neg (by decide), if_neg (by decide)]
          by_cases ha : x = [91]
          · subst ha
            rw [if_pos ⟨rfl, rfl⟩]
            have hcall := rlist_arr (n := n) IH hTW2 (c := c) hK1 (by omega) hl (i := i + 1) (by omega) hn2
            rw [show ((i + 1 : Nat) : Int) = (i : Int) + 1 by omega] at hcall
            obtain rfl : X = ⟨#[91]⟩ := by rw [← hX]
            clear hwd hdr hy hTW hTW2 bW2 bT bW h hK1 hR hn2 hJ2 hJ0 hXl hX hrl
            show Calls Tryz.prog 42 _ w (RVP w K.length (lisP n false (K.drop (i + 1))))
            go_enter Tryz.func42, Tryz.ntmps42
            go_wp2_with (first
              | (go_at_call 73; refine hcall.mono ?_; rintro e w5 h5
                 have hb5 : Below W2.heap.size W2 w5 := h5.1
                 obtain ⟨k5, S5, p5, n5, c5, p5', n5', c5', j5, rfl, hps⟩ := RVP.pass (w0 := w) h5
                 have HJB := Lib.hid (HJ.out.same (hb5.block _ HJ.out.lt)))
              | (refine store_val rfl (.tmp 4) (.tmp 60) rfl w.heap.size rfl (.int .i64 k5) (.string S5) (.slice p5 n5 c5) (.slice p5' n5' c5') rfl rfl HJB.out (fun V hV hgV _ => ?_)))
            refine bodyPost_ret (ret_val2 Tryz.results42 rfl rfl hV) rfl ?_
            exact hps V _ hgV (by omega) (Nat.le_refl _) HBT.out
          · by_cases hb : x = [123]
            · subst hb
              rw [if_neg (by intro h; exact absurd h.2 (by decide)), if_pos ⟨rfl, rfl⟩]
              have hcall := rlist_obj (n := n) IH hTW2 (c := c) hK1 (by omega) hl (i := i + 1) (by omega) hn2
              rw [show ((i + 1 : Nat) : Int) = (i : Int) + 1 by omega] at hcall
              obtain rfl : X = ⟨#[123]⟩ := by rw [← hX]
              clear hwd hdr hy hTW hTW2 bW2 bT bW h hK1 hR hn2 hJ2 hJ0 hXl hX hrl ha
              show Calls Tryz.prog 42 _ w (RVP w K.length (lisP n true (K.drop (i + 1))))
              go_enter Tryz.func42, Tryz.ntmps42
              go_wp2_with (first
                | (go_at_call 73; refine hcall.mono ?_; rintro e w5 h5
                   have hb5 : Below W2.heap.size W2 w5 := h5.1
                   obtain ⟨k5, S5, p5, n5, c5, p5', n5', c5', j5, rfl, hps⟩ := RVP.pass (w0 := w) h5
                   have HJB := Lib.hid (HJ.out.same (hb5.block _ HJ.out.lt)))
                | (refine store_val rfl (.tmp 4) (.tmp 69) rfl w.heap.size rfl (.int .i64 k5) (.string S5) (.slice p5 n5 c5) (.slice p5' n5' c5') rfl rfl HJB.out (fun V hV hgV _ => ?_)))
              refine bodyPost_ret (ret_val2 Tryz.results42 rfl rfl hV) rfl ?_
              exact hps V _ hgV (by omega) (Nat.le_refl _) HBT.out
            · rw [if_neg (fun h => ha h.2), if_neg (fun h => hb h.2)]
              have f1 : ¬ X.toList = [91] := fun e => ha (by rw [← hXl, e])
              have f2 : ¬ X.toList = [123] := fun e => hb (by rw [← hXl, e])
              have f3 : (X.toList == [91]) = false := beq_eq_false_iff_ne.2 f1
              have f4 : (X.toList == [123]) = false := beq_eq_false_iff_ne.2 f2
              clear hwd hdr hy hTW hTW2 bW2 bT bW h hK1 hR hn2 hJ2 hJ0 hXl hX hrl ha hb
              go_enter Tryz.func42, Tryz.ntmps42
              go_wp2_with (first | (refine store_val rfl (.tmp 4) (.tmp 71) rfl w.heap.size rfl (.int .i64 0) (.string ⟨#[]⟩) (.slice none 0 0) (.slice none 0 0) rfl rfl HJ.out (fun V hV hgV _ => ?_)))
              refine bodyPost_ret (ret_val2 Tryz.results42 rfl rfl hV) rfl ?_
              exact RVP.bad rfl (below_fr HBT.out (Nat.le_refl _) (FrP.of (P := fun b => b = w.heap.size) hgV rfl) (fun b hb => by omega))
  · have hnil : K.drop i = [] := List.drop_eq_nil_of_le (by omega)
    have hge : (i : Int) ≥ (K.length : Int) := by omega
    have hT : valP (n + 1) (K.drop i) = none := by rw [hnil]; unfold valP; rfl
    have HT := Lib.hid hT
    have HJ := Lib.hid hJ0
    have HB := Lib.hid bW
    clear hT hJ0 bW hnil h hK1 hR
    go_enter Tryz.func42, Tryz.ntmps42
    go_wp2_with (first | (refine store_val rfl (.tmp 4) (.tmp 13) rfl w.heap.size rfl (.int .i64 0) (.string ⟨#[]⟩) (.slice none 0 0) (.slice none 0 0) rfl rfl HJ.out (fun V hV hgV _ => ?_)))
    refine bodyPost_ret (ret_val2 Tryz.results42 rfl rfl hV) rfl ?_
    exact RVP.bad HT.out (below_fr HB.out (Nat.le_refl _) (FrP.of (P := fun b => b = w.heap.size) hgV rfl) (fun b hb => by omega))
end Go.Proofs.Jt
