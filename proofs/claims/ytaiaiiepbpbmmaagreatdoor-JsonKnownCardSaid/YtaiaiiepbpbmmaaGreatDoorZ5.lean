/- spoil: what was answered is changed; nothing else is. -/
import Derived.Test.YtaiaiiepbpbmmaaGreatDoorVF
namespace Go.Proofs.Jt
open Go.RowKit Go.Maps Go.Lib Go.Proofs.Utf Go.Proofs

/-- keys that are strings -/
def ShK (w : World) (P : Nat → Prop) (kp : Option Addr) (kn : Nat) : Prop := kn = 0 ∨ ∃ g cs, kp = some ⟨g, 0, none⟩ ∧ P g ∧ w.heap[g]? = some (.cells cs 9 (0, 0)) ∧ ∀ i, i < kn → ∃ S, cs[i]? = some (.string S)
/-- a value's slices, down to a depth -/
def Sh (w : World) (P : Nat → Prop) : Nat → Option Addr → Nat → Option Addr → Nat → Prop
  | 0, kp, kn, _, n => ShK w P kp kn ∧ n = 0
  | m + 1, kp, kn, ip, n => ShK w P kp kn ∧ (n = 0 ∨ ∃ g cs, ip = some ⟨g, 0, none⟩ ∧ P g ∧ w.heap[g]? = some (.cells cs 25 (0, 0)) ∧ ∀ i, i < n → ∃ k S kp' kn' kc' ip' n' ic', cs[i * 4]? = some (.int .i64 k) ∧ cs[i * 4 + 1]? = some (.string S) ∧ cs[i * 4 + 2]? = some (.slice kp' kn' kc') ∧ cs[i * 4 + 3]? = some (.slice ip' n' ic') ∧ n' ≤ maxLen ∧ kn' ≤ maxLen ∧ Sh w P m kp' kn' ip' n')
theorem Sh.keys {w : World} {P : Nat → Prop} {m : Nat} {kp ip : Option Addr} {kn n : Nat} (h : Sh w P m kp kn ip n) : ShK w P kp kn := by
  cases m with
  | zero => exact h.1
  | succ m => exact h.1
theorem Sh.nil (w : World) (P : Nat → Prop) : ∀ m, Sh w P m none 0 none 0
  | 0 => ⟨.inl rfl, rfl⟩
  | _ + 1 => ⟨.inl rfl, .inl rfl⟩
/-- what spoil does -/
structure Spr (P : Nat → Prop) (w w' : World) : Prop where
  fr : FrP P w w'
  str : ∀ g cs, P g → w.heap[g]? = some (.cells cs 9 (0, 0)) → ∃ cs', w'.heap[g]? = some (.cells cs' 9 (0, 0)) ∧ ∀ (i : Nat) (S : ByteArray), cs[i]? = some (.string S) → ∃ S', cs'[i]? = some (.string S')
  val : ∀ g cs, P g → w.heap[g]? = some (.cells cs 25 (0, 0)) → ∃ cs', w'.heap[g]? = some (.cells cs' 25 (0, 0)) ∧ ∀ i : Nat, (cs'[i * 4]? = cs[i * 4]? ∧ cs'[i * 4 + 1]? = cs[i * 4 + 1]? ∧ cs'[i * 4 + 2]? = cs[i * 4 + 2]? ∧ cs'[i * 4 + 3]? = cs[i * 4 + 3]?) ∨ (cs'[i * 4]? = some (.int .i64 77) ∧ cs'[i * 4 + 1]? = some (.string ⟨#[]⟩) ∧ cs'[i * 4 + 2]? = some (.slice none 0 0) ∧ cs'[i * 4 + 3]? = some (.slice none 0 0))
theorem Spr.of_same {P : Nat → Prop} {w w' : World} (F : FrP (fun _ => False) w w') : Spr P w w' :=
  ⟨F.mono fun _ _ h => h.elim, fun g cs _ h => ⟨cs, (F.block g (Array.getElem?_eq_some_iff.1 h).1 id).trans h, fun _ S h => ⟨S, h⟩⟩, fun g cs _ h => ⟨cs, (F.block g (Array.getElem?_eq_some_iff.1 h).1 id).trans h, fun _ => .inl ⟨rfl, rfl, rfl, rfl⟩⟩⟩
theorem Spr.trans {P : Nat → Prop} {a b c : World} (h : Spr P a b) (k : Spr P b c) : Spr P a c := by
  refine ⟨h.fr.trans k.fr, fun g cs hg h1 => ?_, fun g cs hg h1 => ?_⟩
  · obtain ⟨cs', h2, h3⟩ := h.str g cs hg h1
    obtain ⟨cs'', h4, h5⟩ := k.str g cs' hg h2
    refine ⟨cs'', h4, fun i S hi => ?_⟩
    obtain ⟨S', h6⟩ := h3 i S hi
    exact h5 i S' h6
  · obtain ⟨cs', h2, h3⟩ := h.val g cs hg h1
    obtain ⟨cs'', h4, h5⟩ := k.val g cs' hg h2
    refine ⟨cs'', h4, fun i => ?_⟩
    rcases h5 i with ⟨a0, a1, a2, a3⟩ | h6
    · rcases h3 i with ⟨b0, b1, b2, b3⟩ | ⟨b0, b1, b2, b3⟩
      · exact .inl ⟨a0.trans b0, a1.trans b1, a2.trans b2, a3.trans b3⟩
      · exact .inr ⟨a0.trans b0, a1.trans b1, a2.trans b2, a3.trans b3⟩
    · exact .inr h6
theorem ShK.step {P : Nat → Prop} {w w' : World} {kp : Option Addr} {kn : Nat} (h : ShK w P kp kn) (s : Spr P w w') : ShK w' P kp kn := by
  rcases h with h | ⟨g, cs, h1, h2, h3, h4⟩
  · exact .inl h
  · obtain ⟨cs', h5, h6⟩ := s.str g cs h2 h3
    refine .inr ⟨g, cs', h1, h2, h5, fun i hi => ?_⟩
    obtain ⟨S, h7⟩ := h4 i hi
    exact h6 i S h7
theorem Sh.step {P : Nat → Prop} {w w' : World} (s : Spr P w w') : ∀ (m : Nat) (kp : Option Addr) (kn : Nat) (ip : Option Addr) (n : Nat), Sh w P m kp kn ip n → Sh w' P m kp kn ip n
  | 0, _, _, _, _, h => ⟨h.1.step s, h.2⟩
  | m + 1, kp, kn, ip, n, h => by
    refine ⟨h.1.step s, ?_⟩
    rcases h.2 with h0 | ⟨g, cs, h1, h2, h3, h4⟩
    · exact .inl h0
    · obtain ⟨cs', h5, h6⟩ := s.val g cs h2 h3
      refine .inr ⟨g, cs', h1, h2, h5, fun i hi => ?_⟩
      rcases h6 i with ⟨a0, a1, a2, a3⟩ | ⟨a0, a1, a2, a3⟩
      · obtain ⟨k, S, kp', kn', kc', ip', n', ic', b0, b1, b2, b3, b4, b5, b6⟩ := h4 i hi
        exact ⟨k, S, kp', kn', kc', ip', n', ic', a0.trans b0, a1.trans b1, a2.trans b2, a3.trans b3, b4, b5, Sh.step s m kp' kn' ip' n' b6⟩
      · exact ⟨77, _, none, 0, 0, none, 0, 0, a0, a1, a2, a3, Nat.zero_le _, Nat.zero_le _, Sh.nil w' P m⟩
theorem Spr.setStr {P : Nat → Prop} {w : World} {g i : Nat} {cs : Array Value} {X : ByteArray} (hg : P g) (h : w.heap[g]? = some (.cells cs 9 (0, 0))) : Spr P w (w.setCell ⟨g, i, none⟩ (.string X)) := by
  have hs := heap_setCell_self h i (.string X)
  refine ⟨FrP.of (gb_set w g i _) hg, fun g' cs' _ h' => ?_, fun g' cs' _ h' => ?_⟩
  · by_cases e : g' = g
    · subst e
      rw [h] at h'
      obtain rfl : cs = cs' := by simpa using h'
      refine ⟨_, hs, fun j S hj => ?_⟩
      by_cases e2 : i = j
      · subst e2
        exact ⟨X, by rw [Array.getElem?_setIfInBounds_self_of_lt (Array.getElem?_eq_some_iff.1 hj).1]⟩
      · exact ⟨S, by rw [Array.getElem?_setIfInBounds_ne e2]; exact hj⟩
    · exact ⟨cs', (set_other e).trans h', fun _ S hj => ⟨S, hj⟩⟩
  · have e : g' ≠ g := fun e => by subst e; rw [h] at h'; simp at h'
    exact ⟨cs', (set_other e).trans h', fun _ => .inl ⟨rfl, rfl, rfl, rfl⟩⟩
theorem setCells_any {w : World} {g o : Nat} {cs : Array Value} (v0 v1 v2 v3 : Value) (h : w.heap[g]? = some (.cells cs 25 (0, 0))) : (w.setCells g o [v0, v1, v2, v3]).heap[g]? = some (.cells ((((cs.setIfInBounds o v0).setIfInBounds (o + 1) v1).setIfInBounds (o + 2) v2).setIfInBounds (o + 3) v3) 25 (0, 0)) ∧ w.grownBy (w.setCells g o [v0, v1, v2, v3]) (some g) := by
  rw [setCells4]
  refine ⟨?_, (gb_set _ _ _ _).trans ((gb_set _ _ _ _).trans ((gb_set _ _ _ _).trans (gb_set _ _ _ _)))⟩
  have h1 := heap_setCell_self h o v0
  have h2 := heap_setCell_self h1 (o + 1) v1
  have h3 := heap_setCell_self h2 (o + 2) v2
  exact heap_setCell_self h3 (o + 3) v3
theorem Spr.setVal {P : Nat → Prop} {w : World} {g i : Nat} {cs : Array Value} (hg : P g) (h : w.heap[g]? = some (.cells cs 25 (0, 0))) (hi : i * 4 + 3 < cs.size) : Spr P w (w.setCells g (i * 4) [.int .i64 77, .string ⟨#[]⟩, .slice none 0 0, .slice none 0 0]) := by
  obtain ⟨hs, hgb⟩ := setCells_any (o := i * 4) (.int .i64 77) (.string ⟨#[]⟩) (.slice none 0 0) (.slice none 0 0) h
  have ho : ∀ g', g' ≠ g → g' < w.heap.size → (w.setCells g (i * 4) [.int .i64 77, .string ⟨#[]⟩, .slice none 0 0, .slice none 0 0]).heap[g']? = w.heap[g']? := fun g' e hl => hgb.block g' hl (fun e2 => e (Option.some.inj e2))
  refine ⟨FrP.of hgb hg, fun g' cs' _ h' => ?_, fun g' cs' _ h' => ?_⟩
  · have e : g' ≠ g := fun e => by subst e; rw [h] at h'; simp at h'
    exact ⟨cs', (ho g' e (Array.getElem?_eq_some_iff.1 h').1).trans h', fun _ S hj => ⟨S, hj⟩⟩
  · by_cases e : g' = g
    · subst e
      rw [h] at h'
      obtain rfl : cs = cs' := by simpa using h'
      refine ⟨_, hs, fun j => ?_⟩
      by_cases e2 : i = j
      · subst e2
        refine .inr ⟨?_, ?_, ?_, ?_⟩ <;> simp [Array.getElem?_setIfInBounds] <;> omega
      · refine .inl ⟨?_, ?_, ?_, ?_⟩ <;> (simp only [Array.getElem?_setIfInBounds]; repeat rw [if_neg (by omega)])
    · exact ⟨cs', (ho g' e (Array.getElem?_eq_some_iff.1 h').1).trans h', fun _ => .inl ⟨rfl, rfl, rfl, rfl⟩⟩
theorem wpl_store_el {ops : Array Oper} {rest : List Oper} {o : Oper} {a : Act} {w : World} {Q : Exit → Act → World → Prop} (hgd : o.guard = none) (x y : Operand) (ho : o.op = .store 25 x y) (g off : Nat) (v0 v1 v2 v3 : Value)
    (hx : a.eval x = .pointer (some ⟨g, off, none⟩)) (hy : a.eval y = .agg #[v0, v1, v2, v3]) (ht : w.there g off 4) (h1 : (#[v0, v1, v2, v3] : Array Value).all (·.oneCell') = true)
    (h : ∀ W, Hid (W = w.setCells g off [v0, v1, v2, v3]) → wpList Tryz.prog ops Q rest (a.put o.dst undef) W) : wpList Tryz.prog ops Q (o :: rest) a w :=
  wpList_plain hgd fun _ hK => wp_store_el x y ho g off v0 v1 v2 v3 hx hy ht h1 fun W hW => hK _ _ (h W hW)
theorem there_of {w : World} {g o : Nat} {cs : Array Value} (h : w.heap[g]? = some (.cells cs 25 (0, 0))) (hl : o + 3 < cs.size) : w.there g o 4 := fun j hj => by
  have : o + j < cs.size := by omega
  exact ⟨by simp [World.cell?, h, this], by simp [World.frozen?, h]⟩
set_option maxRecDepth 100000 in
set_option maxHeartbeats 4000000 in
theorem spoil_any {P : Nat → Prop} {N : Nat} (hP : ∀ b, P b → b < N) : ∀ (m : Nat) (w : World) (k : Int) (S : ByteArray) (kp : Option Addr) (kn kc : Nat) (ip : Option Addr) (n ic : Nat), N ≤ w.heap.size → Sh w P m kp kn ip n → kn ≤ maxLen → n ≤ maxLen →
    Calls Tryz.prog 33 #[.agg #[.int .i64 k, .string S, .slice kp kn kc, .slice ip n ic]] w fun e w' => e = .returned (.tuple #[]) ∧ Spr P w w' := by
  intro m
  induction m with
  | zero =>
    intro w k S kp kn kc ip n ic hN hsh hk1 hn1
    obtain ⟨hk, rfl⟩ := hsh
    unfold maxLen at hk1
    obtain ⟨W, hW⟩ : ∃ W, w.alloc (.cells #[.int .i64 k, .string S, .slice kp kn kc, .slice ip 0 ic] 25) = W := ⟨_, rfl⟩
    have bW := alloc_b hW
    have sW : Spr P w W := Spr.of_same (FrP.of_none (gb_below' bW))
    have hh : W.heap[w.heap.size]? = some (.cells #[.int .i64 k, .string S, .slice kp kn kc, .slice ip 0 ic] 25 (0, 0)) := by rw [← hW]; exact alloc_at w _
    have HBX : Hid (∀ V, Spr P W V → V.cell? ⟨w.heap.size, 0, none⟩ = some (.int .i64 k) ∧ V.cell? ⟨w.heap.size, 1, none⟩ = some (.string S) ∧ V.cell? ⟨w.heap.size, 2, none⟩ = some (.slice kp kn kc) ∧ V.cell? ⟨w.heap.size, 3, none⟩ = some (.slice ip 0 ic)) := Lib.hid fun V hV => cells4 ((hV.fr.block _ (Array.getElem?_eq_some_iff.1 hh).1 (fun h => by have := hP _ h; omega)).trans hh)
    obtain ⟨c0, c1, c2, c3⟩ := HBX.out W (Spr.of_same (FrP.refl _ _))
    have HK := Lib.hid (hk.step sW)
    have HSW := Lib.hid sW
    clear hk sW hh bW
    go_enter Tryz.func33, Tryz.ntmps33
    go_wp2_with fail
    go_loopw [2] (fun iv wr => ∃ j : Nat, iv = .int .i64 j ∧ j ≤ kn ∧ Spr P W wr) (fun iv _ => kn - (RowKit.intOf iv).toNat)
    case atStart => exact ⟨0, rfl, Nat.zero_le _, Spr.of_same (FrP.refl _ _)⟩
    case round =>
      obtain ⟨j, rfl, hj, hs⟩ := hrel
      clear c0 c1 c2 c3
      obtain ⟨c0, c1, c2, c3⟩ := HBX.out wr hs
      by_cases hjn : (j : Int) < (kn : Int)
      · rcases HK.out.step hs with h0 | ⟨g, cs, rfl, hg, hcs, hst⟩
        · omega
        · obtain ⟨X, hX⟩ := hst j (by omega)
          have hc : wr.cell? ⟨g, j, none⟩ = some (.string X) := by simp [World.cell?, hcs, hX]
          have hf : wr.frozen? ⟨g, j, none⟩ = false := by simp [World.frozen?, hcs]
          have HN := Lib.hid (hs.trans (Spr.setStr (i := j) (X := ⟨#[33]⟩) hg hcs))
          clear hst hcs hX
          go_wp2_with fail
          go_roundw
          case rel => exact ⟨j + 1, by go_num, by omega, HN.out⟩
          case measure => simp [RowKit.intOf]; omega
      · go_wp2_with fail
        go_loopw [3] (fun iv wx => iv = .int .i64 0 ∧ Spr P W wx) (fun _ _ => 0)
        case atStart => exact ⟨rfl, hs⟩
        case round =>
          obtain ⟨rfl, hs2⟩ := hrel
          clear c0 c1 c2 c3
          obtain ⟨c0, c1, c2, c3⟩ := HBX.out wr hs2
          go_wp2_with fail
          go_end0
          exact ⟨rfl, HSW.out.trans hs2⟩
  | succ m ih =>
    intro w k S kp kn kc ip n ic hN hsh hk1 hn1
    unfold maxLen at hk1 hn1
    obtain ⟨W, hW⟩ : ∃ W, w.alloc (.cells #[.int .i64 k, .string S, .slice kp kn kc, .slice ip n ic] 25) = W := ⟨_, rfl⟩
    have bW := alloc_b hW
    have hNW : N ≤ W.heap.size := Nat.le_trans hN bW.size
    have sW : Spr P w W := Spr.of_same (FrP.of_none (gb_below' bW))
    have hh : W.heap[w.heap.size]? = some (.cells #[.int .i64 k, .string S, .slice kp kn kc, .slice ip n ic] 25 (0, 0)) := by rw [← hW]; exact alloc_at w _
    have HBX : Hid (∀ V, Spr P W V → V.cell? ⟨w.heap.size, 0, none⟩ = some (.int .i64 k) ∧ V.cell? ⟨w.heap.size, 1, none⟩ = some (.string S) ∧ V.cell? ⟨w.heap.size, 2, none⟩ = some (.slice kp kn kc) ∧ V.cell? ⟨w.heap.size, 3, none⟩ = some (.slice ip n ic)) := Lib.hid fun V hV => cells4 ((hV.fr.block _ (Array.getElem?_eq_some_iff.1 hh).1 (fun h => by have := hP _ h; omega)).trans hh)
    obtain ⟨c0, c1, c2, c3⟩ := HBX.out W (Spr.of_same (FrP.refl _ _))
    have HSH := Lib.hid (Sh.step sW _ _ _ _ _ hsh)
    have HSW := Lib.hid sW
    have HIH := Lib.hid ih
    clear hsh sW hh bW ih
    go_enter Tryz.func33, Tryz.ntmps33
    go_wp2_with fail
    go_loopw [2] (fun iv wr => ∃ j : Nat, iv = .int .i64 j ∧ j ≤ kn ∧ Spr P W wr) (fun iv _ => kn - (RowKit.intOf iv).toNat)
    case atStart => exact ⟨0, rfl, Nat.zero_le _, Spr.of_same (FrP.refl _ _)⟩
    case round =>
      obtain ⟨j, rfl, hj, hs⟩ := hrel
      clear c0 c1 c2 c3
      obtain ⟨c0, c1, c2, c3⟩ := HBX.out wr hs
      by_cases hjn : (j : Int) < (kn : Int)
      · rcases HSH.out.keys.step hs with h0 | ⟨g, cs, rfl, hg, hcs, hst⟩
        · omega
        · obtain ⟨X, hX⟩ := hst j (by omega)
          have hc : wr.cell? ⟨g, j, none⟩ = some (.string X) := by simp [World.cell?, hcs, hX]
          have hf : wr.frozen? ⟨g, j, none⟩ = false := by simp [World.frozen?, hcs]
          have HN := Lib.hid (hs.trans (Spr.setStr (i := j) (X := ⟨#[33]⟩) hg hcs))
          clear hst hcs hX
          go_wp2_with fail
          go_roundw
          case rel => exact ⟨j + 1, by go_num, by omega, HN.out⟩
          case measure => simp [RowKit.intOf]; omega
      · go_wp2_with fail
        go_loopw [3] (fun iv wx => ∃ i : Nat, iv = .int .i64 i ∧ i ≤ n ∧ Spr P W wx) (fun iv _ => n - (RowKit.intOf iv).toNat)
        case atStart => exact ⟨0, rfl, Nat.zero_le _, hs⟩
        case round =>
          obtain ⟨i, rfl, hi, hs2⟩ := hrel
          clear c0 c1 c2 c3
          obtain ⟨c0, c1, c2, c3⟩ := HBX.out wr hs2
          by_cases hin : (i : Int) < (n : Int)
          · rcases (Sh.step hs2 _ _ _ _ _ HSH.out).2 with h0 | ⟨g, cs, rfl, hg, hcs, hit⟩
            · omega
            · obtain ⟨k', S', kp', kn', kc', ip', n', ic', b0, b1, b2, b3, b4, b5, b6⟩ := hit i (by omega)
              have d0 : wr.cell? ⟨g, i * 4, none⟩ = some (.int .i64 k') := by simp [World.cell?, hcs, b0]
              have d1 : wr.cell? ⟨g, i * 4 + 1, none⟩ = some (.string S') := by simp [World.cell?, hcs, b1]
              have d2 : wr.cell? ⟨g, i * 4 + 2, none⟩ = some (.slice kp' kn' kc') := by simp [World.cell?, hcs, b2]
              have d3 : wr.cell? ⟨g, i * 4 + 3, none⟩ = some (.slice ip' n' ic') := by simp [World.cell?, hcs, b3]
              have hsz : N ≤ wr.heap.size := Nat.le_trans hNW hs2.fr.size
              have hcall := HIH.out wr k' S' kp' kn' kc' ip' n' ic' hsz b6 b5 b4
              have hlt := (Array.getElem?_eq_some_iff.1 b3).1
              have HCS := Lib.hid (And.intro hcs hlt)
              clear hit hcs b0 b1 b2 b3 b4 b5 b6 hlt
              go_wp2_with (first
                | (go_at_call 33; refine hcall.mono ?_; rintro e w3 ⟨rfl, hs3⟩
                   have hs4 := hs2.trans hs3
                   clear c0 c1 c2 c3
                   obtain ⟨c0, c1, c2, c3⟩ := HBX.out w3 hs4
                   obtain ⟨cs2, hcs2, hq⟩ := hs3.val g cs hg HCS.out.1
                   have hlt2 : i * 4 + 3 < cs2.size := by
                     rcases hq i with ⟨_, _, _, a3⟩ | ⟨_, _, _, a3⟩
                     · rw [Array.getElem?_eq_getElem HCS.out.2] at a3
                       exact (Array.getElem?_eq_some_iff.1 a3).1
                     · exact (Array.getElem?_eq_some_iff.1 a3).1
                   have hth := there_of hcs2 hlt2
                   have HN := Lib.hid (hs4.trans (Spr.setVal (i := i) hg hcs2 hlt2)))
                | (refine wpl_store_el rfl (.tmp 32) (.tmp 31) rfl g (i * 4) (.int .i64 77) (.string ⟨#[]⟩) (.slice none 0 0) (.slice none 0 0) rfl rfl hth (by simp [Value.oneCell']) ?_; intro W9 H9))
              go_roundw
              case rel => exact ⟨i + 1, by go_num, by omega, by rw [H9.out]; exact HN.out⟩
              case measure => simp [RowKit.intOf]; omega
          · go_wp2_with fail
            go_end0
            exact ⟨rfl, HSW.out.trans hs2⟩
/-- a value in memory whose blocks are known has such a shape -/
theorem KP.sh {w : World} {P : Nat → Prop} {x : JV} {kp ip : Option Addr} {kc ic : Nat} (h : KP w P x kp kc ip ic) : ∀ m, x.wt ≤ m → Sh w P m kp x.keys.length ip x.items.length := by
  induction h with
  | mk x kp kc ip ic fp fc gp gc hk hkP hz hi hiP hh ih =>
    intro m hm
    have hkk : ShK w P kp x.keys.length := by
      by_cases h0 : x.keys.length = 0
      · exact .inl h0
      · obtain ⟨a, rfl, _⟩ := hk 0 _ (List.getElem?_eq_getElem (by omega))
        obtain ⟨⟨p1, _⟩, g, cs, rfl, h2, _⟩ := hkP _ rfl
        refine .inr ⟨g, cs, rfl, p1, h2, fun i hl => ?_⟩
        obtain ⟨a, e, h3, _⟩ := hk i _ (List.getElem?_eq_getElem hl)
        cases e
        rw [add0] at h3
        simp [World.cell?, h2] at h3
        exact ⟨_, h3⟩
    cases m with
    | zero => have := jv_wt_pos x; omega
    | succ m =>
      refine ⟨hkk, ?_⟩
      by_cases h0 : x.items.length = 0
      · exact .inl h0
      · obtain ⟨_, a, rfl, _⟩ := hi 0 _ (List.getElem?_eq_getElem (by omega))
        obtain ⟨⟨p1, _⟩, g, cs, rfl, h2, _⟩ := hiP _ rfl
        refine .inr ⟨g, cs, rfl, p1, h2, fun i hl => ?_⟩
        obtain ⟨y, hy⟩ : ∃ y, x.items[i]? = some y := ⟨_, List.getElem?_eq_getElem hl⟩
        obtain ⟨_, a, e, h3⟩ := hi i y hy
        cases e
        rw [add0] at h3
        have c0 := h3.c0
        have c1 := h3.c1
        have c2 := h3.c2
        have c3 := h3.c3
        simp [World.cell?, h2] at c0 c1 c2 c3
        have hyz : y.items.length ≤ maxLen ∧ y.keys.length ≤ maxLen := by
          cases hh i y hy with
          | mk _ _ _ _ _ _ _ _ _ _ _ hz' _ _ _ => exact ⟨hz'.1, hz'.2.1⟩
        exact ⟨_, _, _, _, _, _, _, _, c0, c1, c2, c3, hyz.1, hyz.2, ih i y hy m (by have := wt_items hy; omega)⟩
end Go.Proofs.Jt
