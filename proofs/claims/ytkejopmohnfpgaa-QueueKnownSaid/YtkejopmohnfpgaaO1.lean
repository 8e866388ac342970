/- QueueOrder: the queue as the line of its ids alone, beside the two lists. -/
import Derived.Test.YtkejopmohnfpgaaW5
namespace Go.Proofs.Ytkejopmohnfpgaa
open Go.RowKit Go.Maps Go.Proofs

def Ints (L : List J) : Prop := ∀ j ∈ L, ∃ x : Int, j.x = .int .i64 x
theorem Ints.turn {L : List J} (h : Ints L) (id : ByteArray) {f : J → J} (hx : ∀ j, (f j).x = j.x) : Ints (turn L id f) := by
  intro i hi
  obtain ⟨k, hk, e⟩ := List.mem_map.1 (show i ∈ L.map _ from hi)
  split at e
  · rw [← e, hx]; exact h k hk
  · rw [← e]; exact h k hk
/-- the queue: its line, how many it may have (m), at most how many were pushed (n), closed? (c) -/
def QQ (B : Nat) (w : World) (qb : Nat) (lv : Value) (m n : Nat) (c : Bool) (line : List ByteArray) : Prop :=
  ∃ mb s, Qi B w qb mb lv s ∧ s.most = m ∧ s.pushed ≤ n ∧ s.closed = c ∧ lineL s.L = line ∧ Ints s.L
theorem IsQ.stands {qT jT : TypeId} {P : Program} {B : Nat} {w w' : World} {qb mb : Nat} {lv : Value} {s : QS} (h : IsQ qT jT P B w qb mb lv s) (hq : qT ≠ 9) (hj : jT ≠ 9) (hz : w.heap.size ≤ w'.heap.size)
    (hk : ∀ (k : Nat) (o : Obj), w.heap[k]? = some o → (OfT 9 o → lv.ownBlock = some k) → w'.heap[k]? = some o) : IsQ qT jT P B w' qb mb lv s := by
  obtain ⟨D, hown, hD⟩ := h.map
  refine ⟨h.most, hk _ _ h.blk (fun ho => absurd ho (ofT_ne hq.symm _)), ?_, ⟨D, map_keeps hown (fun k o e ho => hk k o e (fun h9 => ?_)), hD⟩, fun j hj' => ?_, h.apart, h.ids, h.few, h.lines, h.base.1, h.base.2.1, Nat.le_trans h.base.2.2 hz⟩
  · obtain ⟨h1, h2⟩ := h.line
    refine ⟨h1, ?_⟩
    rcases h2 with h2 | ⟨g, cap, cur, hv, hg, hh, r⟩
    · exact .inl h2
    · exact .inr ⟨g, cap, cur, hv, hg, hk g _ hh (fun _ => by rw [hv]; rfl), r⟩
  · obtain ⟨es, c, rfl⟩ := ho
    exact absurd h9 (ofT_map _ _ _)
  · obtain ⟨g1, g2, g3⟩ := h.jobs j hj'
    exact ⟨hk _ _ g1 (fun ho => absurd ho (ofT_ne hj.symm _)), g2, g3⟩
/-- a list of texts, beside the queue -/
structure Row (B : Nat) (w : World) (lv v : Value) (xs : List ByteArray) : Prop where
  own : w.ownsRow B 9 1 v xs.length (xs.map Value.string)
  off : ∀ k, v.ownBlock = some k → lv.ownBlock ≠ some k
theorem own_block {w : World} {B n : Nat} {v : Value} {xs : List Value} (h : w.ownsRow B 9 1 v n xs) {k : Nat} (hk : v.ownBlock = some k) : ∃ c, w.heap[k]? = some (.cells c 9 (0, 0)) := by
  rcases h.2 with ⟨h1, _⟩ | ⟨g, cap, cur, h1, _, h3, _⟩
  · rw [h1] at hk; cases hk
  · rw [h1] at hk
    cases hk
    exact ⟨_, h3⟩
theorem own_stands {w w' : World} {B n : Nat} {v : Value} {xs : List Value} (h : w.ownsRow B 9 1 v n xs) (hk : ∀ (k : Nat) (o : Obj), w.heap[k]? = some o → OfT 9 o → v.ownBlock = some k → w'.heap[k]? = some o) : w'.ownsRow B 9 1 v n xs := by
  obtain ⟨h1, h2⟩ := h
  refine ⟨h1, ?_⟩
  rcases h2 with h2 | ⟨g, cap, cur, hv, hg, hh, r⟩
  · exact .inl h2
  · exact .inr ⟨g, cap, cur, hv, hg, hk g _ hh ⟨_, rfl⟩ (by rw [hv]; rfl), r⟩
theorem Row.step {B : Nat} {w w' : World} {lv lv' v : Value} {xs : List ByteArray} (h : Row B w lv v xs) (hn : Nine w w' lv) (hl : Lw w lv lv') : Row B w' lv' v xs := by
  refine ⟨own_stands h.own (fun k o e ho hk => hn.2 k o e ho (h.off k hk)), fun k hk => ?_⟩
  rcases hl with hl | hl
  · rw [hl]; exact h.off k hk
  · intro h'
    obtain ⟨c, hc⟩ := own_block h.own hk
    have := (Array.getElem?_eq_some_iff.1 hc).1
    have := hl k h'
    omega
/-- the queue and the two lists -/
structure Inv (B : Nat) (w : World) (qb : Nat) (lv vp vq : Value) (m n : Nat) (c : Bool) (line p q : List ByteArray) : Prop where
  qq : QQ B w qb lv m n c line
  rp : Row B w lv vp p
  rq : Row B w lv vq q
  off : ∀ k, vp.ownBlock = some k → vq.ownBlock ≠ some k
theorem Inv.step {B : Nat} {w w' : World} {qb : Nat} {lv lv' vp vq : Value} {m n n' : Nat} {c c' : Bool} {line line' p q : List ByteArray} (h : Inv B w qb lv vp vq m n c line p q) (hq : QQ B w' qb lv' m n' c' line') (hn : Nine w w' lv) (hl : Lw w lv lv') : Inv B w' qb lv' vp vq m n' c' line' p q :=
  ⟨hq, h.rp.step hn hl, h.rq.step hn hl, h.off⟩
theorem QQ.more {B : Nat} {w : World} {qb : Nat} {lv : Value} {m n n' : Nat} {c : Bool} {line : List ByteArray} (h : QQ B w qb lv m n c line) (hn : n ≤ n') : QQ B w qb lv m n' c line := by
  obtain ⟨mb, s, h1, h2, h3, h4⟩ := h
  exact ⟨mb, s, h1, h2, Nat.le_trans h3 hn, h4⟩
theorem QQ.base {B : Nat} {w : World} {qb : Nat} {lv : Value} {m n : Nat} {c : Bool} {line : List ByteArray} (h : QQ B w qb lv m n c line) : B ≤ w.heap.size := by
  obtain ⟨mb, s, h1, _⟩ := h
  exact h1.base.2.2
theorem QQ.lv_lt {B : Nat} {w : World} {qb : Nat} {lv : Value} {m n : Nat} {c : Bool} {line : List ByteArray} (h : QQ B w qb lv m n c line) {k : Nat} (hk : lv.ownBlock = some k) : k < w.heap.size := by
  obtain ⟨mb, s, h1, _⟩ := h
  exact (h1.line.lt k hk).2
theorem QQ.stands {B : Nat} {w w' : World} {qb : Nat} {lv : Value} {m n : Nat} {c : Bool} {line : List ByteArray} (h : QQ B w qb lv m n c line) (hz : w.heap.size ≤ w'.heap.size)
    (hk : ∀ (k : Nat) (o : Obj), w.heap[k]? = some o → (OfT 9 o → lv.ownBlock = some k) → w'.heap[k]? = some o) : QQ B w' qb lv m n c line := by
  obtain ⟨mb, s, h1, h2⟩ := h
  exact ⟨mb, s, h1.stands (by decide) (by decide) hz hk, h2⟩
section
variable {B : Nat} {w : World} {qb : Nat} {lv vp vq : Value} {m n : Nat} {c : Bool} {line p q : List ByteArray}
/-- one text more behind the first list -/
theorem Inv.appP (h : Inv B w qb lv vp vq m n c line p q) {x : Obj} {w' : World} {v' : Value} {id : ByteArray} (hown : w'.ownsRow B 9 1 v' (p.length + 1) (p.map Value.string ++ [.string id])) (hg : (w.alloc x).grownBy w' vp.ownBlock) (hw : v'.ownBlock = vp.ownBlock ∨ v'.ownBlock = some (w.alloc x).heap.size) :
    Inv B w' qb lv v' vq m n c line (p ++ [id]) q := by
  have hz : (w.alloc x).heap.size = w.heap.size + 1 := by simp
  have hk : ∀ (k : Nat) (o : Obj), w.heap[k]? = some o → vp.ownBlock ≠ some k → w'.heap[k]? = some o := fun k o e hne => by
    have e2 := (Keeps.refl w (fun _ => True)).alloc x k o e trivial
    rw [hg.block k (Array.getElem?_eq_some_iff.1 e2).1 (fun h => hne h.symm)]; exact e2
  refine ⟨h.qq.stands (by have := hg.size; omega) (fun k o e hl => hk k o e (fun hv => ?_)), ⟨by simpa using hown, fun k hk' hl => ?_⟩, ⟨own_stands h.rq.own (fun k o e _ hv => hk k o e (fun hp => h.off k hp hv)), h.rq.off⟩, fun k hk' hv => ?_⟩
  · obtain ⟨cs, hc⟩ := own_block h.rp.own hv
    rw [hc] at e
    cases e
    exact h.rp.off k hv (hl ⟨_, rfl⟩)
  · rcases hw with hw | hw
    · exact h.rp.off k (hw ▸ hk') hl
    · rw [hw] at hk'
      cases hk'
      have := h.qq.lv_lt hl
      omega
  · rcases hw with hw | hw
    · exact h.off k (hw ▸ hk') hv
    · rw [hw] at hk'
      cases hk'
      obtain ⟨cs, hc⟩ := own_block h.rq.own hv
      have := (Array.getElem?_eq_some_iff.1 hc).1
      omega
theorem Inv.flip (h : Inv B w qb lv vp vq m n c line p q) : Inv B w qb lv vq vp m n c line q p := ⟨h.qq, h.rq, h.rp, fun k hk hv => h.off k hv hk⟩
theorem Inv.appQ (h : Inv B w qb lv vp vq m n c line p q) {x : Obj} {w' : World} {v' : Value} {id : ByteArray} (hown : w'.ownsRow B 9 1 v' (q.length + 1) (q.map Value.string ++ [.string id])) (hg : (w.alloc x).grownBy w' vq.ownBlock) (hw : v'.ownBlock = vq.ownBlock ∨ v'.ownBlock = some (w.alloc x).heap.size) :
    Inv B w' qb lv vp v' m n c line p (q ++ [id]) := (h.flip.appP hown hg hw).flip
/-! ## the calls -/
theorem push_inv (h : Inv B w qb lv vp vq m n false line p q) (hn : n < 1000000) (id : ByteArray) (hid : id.size ≤ maxLen) (x : Int) :
    Calls Try.prog 8 #[.pointer (some ⟨qb, 0, none⟩), .string id, .int .i64 x] w fun e w' => ∃ (k : Int) (lv' : Value), e = .returned (.int .i64 k) ∧ Below B w w' ∧
      ((k = 0 ∧ line.length < m ∧ Inv B w' qb lv' vp vq m (n + 1) false (line ++ [id]) p q) ∨ ((k == 0) = false ∧ Inv B w' qb lv' vp vq m (n + 1) false line p q)) := by
  obtain ⟨mb, s, h1, h2, h3, h4, h5, h6⟩ := h.qq
  cases hh : hasL s.L id with
  | true =>
    refine (push_there h1 id x hid h4 hh).mono ?_
    rintro e w' ⟨rfl, hw⟩
    subst hw
    exact ⟨6, lv, rfl, Below.refl _ _, .inr ⟨rfl, ⟨h.qq.more (Nat.le_succ _), h.rp, h.rq, h.off⟩⟩⟩
  | false =>
    by_cases hr : (lineL s.L).length < s.most
    · refine (push_new9 h1 id x hid h4 hh hr (by omega)).mono ?_
      rintro e w' ⟨rfl, d, lv', b, H, hN, hL⟩
      refine ⟨0, lv', rfl, d, .inl ⟨rfl, by rw [← h5, ← h2]; exact hr, h.step ⟨mb, _, H, h2, Nat.succ_le_succ h3, h4, ?_, ?_⟩ hN hL⟩⟩
      · show lineL (s.L ++ _) = _
        rw [lineL_push rfl, h5]
      · intro j hj
        rcases List.mem_append.1 hj with hj | hj
        · exact h6 j hj
        · simp at hj
          subst hj
          exact ⟨x, rfl⟩
    · refine (push_full9 h1 id x hid h4 hh (by omega)).mono ?_
      rintro e w' ⟨rfl, nq, rfl⟩
      exact ⟨7, lv, rfl, below_drewN _ _ _, .inr ⟨rfl, h.step ((QQ.more ⟨mb, s, h1.drewN nq, h2, h3, h4, h5, h6⟩ (Nat.le_succ _))) (Nine.of ((Keeps.refl _ _).drewN nq) (by rw [drewN_heap]; exact Nat.le_refl _)) (.inl rfl)⟩⟩
theorem cancel_inv (h : Inv B w qb lv vp vq m n c line p q) (id : ByteArray) (hid : id.size ≤ maxLen) :
    Calls Try.prog 9 #[.pointer (some ⟨qb, 0, none⟩), .string id] w fun e w' => ∃ b, e = .returned (.bool b) ∧ Below B w w' ∧ Inv B w' qb lv vp vq m n c line p q := by
  obtain ⟨mb, s, h1, h2, h3, h4, h5, h6⟩ := h.qq
  cases hh : hasL s.L id with
  | false =>
    refine (cancel_no h1 id hid hh).mono ?_
    rintro e w' ⟨rfl, hw⟩
    subst hw
    exact ⟨false, rfl, Below.refl _ _, h⟩
  | true =>
    refine (cancel_yes9 h1 id hid hh).mono ?_
    rintro e w' ⟨rfl, d, H, hN⟩
    exact ⟨true, rfl, d, h.step ⟨mb, _, H, h2, h3, h4, (lineL_turn (f := fun j => { j with marked := true }) (fun _ => rfl) (fun _ => rfl)).trans h5, h6.turn id (fun _ => rfl)⟩ hN (.inl rfl)⟩
theorem done_inv (h : Inv B w qb lv vp vq m n c line p q) (id : ByteArray) (hid : id.size ≤ maxLen) :
    Calls Try.prog 11 #[.pointer (some ⟨qb, 0, none⟩), .string id] w fun e w' => ∃ b k, e = .returned (.tuple #[.bool b, .int .i64 k]) ∧ Below B w w' ∧ Inv B w' qb lv vp vq m n c line p q := by
  obtain ⟨mb, s, h1, h2, h3, h4, h5, h6⟩ := h.qq
  cases hh : hasL s.L id with
  | false =>
    refine (done_no h1 id hid hh).mono ?_
    rintro e w' ⟨rfl, hw⟩
    subst hw
    exact ⟨false, 5, rfl, Below.refl _ _, h⟩
  | true =>
    obtain ⟨j, hj, rfl⟩ := hasL_true hh
    cases ht : j.taken with
    | false =>
      refine (done_wait h1 j hj hid ht).mono ?_
      rintro e w' ⟨rfl, hw⟩
      subst hw
      exact ⟨false, 5, rfl, Below.refl _ _, h⟩
    | true =>
      refine (done_yes9 h1 j hj hid ht).mono ?_
      rintro e w' ⟨rfl, d, H, hN⟩
      exact ⟨_, 0, rfl, d, h.step ⟨mb, _, H, h2, h3, h4, (lineL_drop (fun i hi he => by rw [h1.apart.uniq hi hj he]; exact ht)).trans h5, fun i hi => h6 i (List.mem_filter.1 hi).1⟩ hN (.inl rfl)⟩
theorem close_inv (h : Inv B w qb lv vp vq m n c line p q) :
    Calls Try.prog 14 #[.pointer (some ⟨qb, 0, none⟩)] w fun e w' => e = .returned (.int .i64 0) ∧ Below B w w' ∧ Inv B w' qb lv vp vq m n true line p q := by
  obtain ⟨mb, s, h1, h2, h3, h4, h5, h6⟩ := h.qq
  refine (close_q9 h1).mono ?_
  rintro e w' ⟨rfl, d, H, hN⟩
  exact ⟨rfl, d, h.step ⟨mb, _, H, h2, h3, rfl, h5, h6⟩ hN (.inl rfl)⟩
theorem len_inv (h : Inv B w qb lv vp vq m n c line p q) : Calls Try.prog 13 #[.pointer (some ⟨qb, 0, none⟩)] w fun e w' => e = .returned (.int .i64 line.length) ∧ w = w' := by
  obtain ⟨mb, s, h1, h2, h3, h4, h5, h6⟩ := h.qq
  rw [← h5]
  exact len_q h1
theorem pop_nil (h : Inv B w qb lv vp vq m n c [] p q) :
    Calls Try.prog 10 #[.pointer (some ⟨qb, 0, none⟩)] w fun e w' => ∃ k : Int, e = .returned (.tuple #[.string ⟨#[]⟩, .int .i64 0, .int .i64 k]) ∧ (k == 0) = false ∧ w = w' := by
  obtain ⟨mb, s, h1, h2, h3, h4, h5, h6⟩ := h.qq
  refine (pop_none h1 h5).mono ?_
  rintro e w' ⟨rfl, hw⟩
  exact ⟨_, rfl, by cases s.closed <;> rfl, hw⟩
theorem pop_cons {id : ByteArray} {rest : List ByteArray} (h : Inv B w qb lv vp vq m n c (id :: rest) p q) :
    Calls Try.prog 10 #[.pointer (some ⟨qb, 0, none⟩)] w fun e w' => ∃ (x : Int) (lv' : Value), e = .returned (.tuple #[.string id, .int .i64 x, .int .i64 0]) ∧ Below B w w' ∧ Inv B w' qb lv' vp vq m n c rest p q := by
  obtain ⟨mb, s, h1, h2, h3, h4, h5, h6⟩ := h.qq
  obtain ⟨j, hj, he, ht⟩ := lineL_mem h5
  obtain ⟨x, hx⟩ := h6 j hj
  refine (pop_some9 h1 h5 j hj he x hx).mono ?_
  rintro e w' ⟨rfl, d, lv', H, hN, hL⟩
  exact ⟨x, lv', rfl, d, h.step ⟨mb, _, H, h2, h3, h4, lineL_take h1.apart h5, h6.turn id (fun _ => rfl)⟩ hN hL⟩
end
end Go.Proofs.Ytkejopmohnfpgaa
