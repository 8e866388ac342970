/- Both queues beside each other: what a call of each leaves. -/
import Derived.Test.YtkejopmohnfpgaaN5
import Derived.Test.YtkejopmohnfpgaaP3
import Derived.Test.YtkejopmohnfpgaaO1
namespace Go.Proofs.Ytkejopmohnfpgaa
open Go.RowKit Go.Maps Go.Proofs

theorem ofT_notR {t : TypeId} (h : t ≠ 43) (k : t ≠ 69) (o : Obj) (ho : OfT t o) : NotR o := by
  obtain ⟨c, rfl⟩ := ho
  rintro (h1 | h1)
  · exact ofT_ne h.symm _ h1
  · exact ofT_ne k.symm _ h1
theorem act_ofR (o : Obj) (ho : OfT 47 o) : OfR o := .inr (.inr ho)
theorem act_notR (o : Obj) (ho : OfT 47 o) : NotR o := ofT_notR (by decide) (by decide) o ho
theorem map_notR (o : Obj) (ho : OfMap o) : NotR o := by
  obtain ⟨es, c, rfl⟩ := ho
  rintro (h | h)
  · exact ofT_map _ _ _ h
  · exact ofT_map _ _ _ h
theorem IsQ.keptR {B : Nat} {w w' : World} {qb mb : Nat} {lv : Value} {s : QS} (h : Qi B w qb mb lv s) (hk : Keeps w w' NotR) (hz : w.heap.size ≤ w'.heap.size) : Qi B w' qb mb lv s := by
  obtain ⟨D, hown, hD⟩ := h.map
  exact ⟨h.most, cells_keeps h.blk (hk.imp (ofT_notR (by decide) (by decide))), line_keeps h.line (hk.imp (ofT_notR (by decide) (by decide))), ⟨D, map_keeps hown (hk.imp map_notR), hD⟩,
    fun j hj => ⟨cells_keeps (h.jobs j hj).1 (hk.imp (ofT_notR (by decide) (by decide))), (h.jobs j hj).2⟩, h.apart, h.ids, h.few, h.lines, h.base.1, h.base.2.1, Nat.le_trans h.base.2.2 hz⟩
/-- what is held of the jobs, with no memory in sight -/
structure Good (s : QS) : Prop where
  ints : Ints s.L
  rise : Rising s.L
  nums : ∀ j ∈ s.L, j.num ≤ s.pushed
  cnt : s.L.length ≤ s.pushed
  room : (lineL s.L).length ≤ s.most
theorem Ints.one {L : List J} (h : Ints L) : ∀ j ∈ L, j.x.oneCell' = true := fun j hj => by
  obtain ⟨x, e⟩ := h j hj
  rw [e]; rfl
def pushE (s : QS) (id : ByteArray) : Int := if s.closed then 19 else if hasL s.L id then 6 else if s.most ≤ (lineL s.L).length then 7 else 0
def pushS (s : QS) (id : ByteArray) (x : Int) (b : Nat) : QS := if pushE s id = 0 then { s with L := s.L ++ [⟨id, .int .i64 x, s.pushed + 1, false, false, b⟩], pushed := s.pushed + 1 } else s
theorem Good.push {s : QS} (h : Good s) (id : ByteArray) (x : Int) (b : Nat) : Good (pushS s id x b) := by
  unfold pushS
  split
  · rename_i he
    have hlt : (lineL s.L).length < s.most := by
      unfold pushE at he
      repeat' split at he
      all_goals first | omega | cases he
    refine ⟨fun j hj => ?_, ?_, fun j hj => ?_, ?_, ?_⟩
    · rcases List.mem_append.1 hj with hj | hj
      · exact h.ints j hj
      · simp at hj; subst hj; exact ⟨x, rfl⟩
    · refine List.pairwise_append.2 ⟨h.rise, List.pairwise_singleton _ _, fun a ha b' hb => ?_⟩
      simp at hb; subst hb
      have := h.nums a ha
      show a.num < s.pushed + 1
      omega
    · rcases List.mem_append.1 hj with hj | hj
      · have := h.nums j hj
        show j.num ≤ s.pushed + 1
        omega
      · simp at hj; subst hj; exact Nat.le_refl _
    · have := h.cnt
      simp; omega
    · rw [lineL_push rfl]
      simp; omega
  · exact h
theorem pushS_few (s : QS) (id : ByteArray) (x : Int) (b : Nat) : (pushS s id x b).pushed ≤ s.pushed + 1 ∧ (pushS s id x b).most = s.most ∧ (pushS s id x b).closed = s.closed := by
  unfold pushS; split <;> simp
theorem push_cQ {B : Nat} {w : World} {qb mb rb : Nat} {lv lr : Value} {s : QS} (h : Qi B w qb mb lv s) (hr : IsR B w rb lr s) (id : ByteArray) (x : Int) (hid : id.size ≤ maxLen) (hf : s.pushed < 1000000) :
    Calls Try.prog 8 #[.pointer (some ⟨qb, 0, none⟩), .string id, .int .i64 x] w fun e w' => e = .returned (.int .i64 (pushE s id)) ∧ Below B w w' ∧ Keeps w w' (OfT 47) ∧ ∃ lv' b, Qi B w' qb mb lv' (pushS s id x b) ∧ IsR B w' rb lr s := by
  cases hc : s.closed with
  | true =>
    refine (push_closed h id x hid hc).mono ?_
    rintro e w' ⟨rfl, rfl⟩
    have e1 : pushE s id = 19 := by simp [pushE, hc]
    exact ⟨by rw [e1], Below.refl _ _, Keeps.refl _ _, lv, 0, by unfold pushS; rw [e1]; exact h, hr⟩
  | false =>
    cases hh : hasL s.L id with
    | true =>
      refine (push_there h id x hid hc hh).mono ?_
      rintro e w' ⟨rfl, rfl⟩
      have e1 : pushE s id = 6 := by simp [pushE, hc, hh]
      exact ⟨by rw [e1], Below.refl _ _, Keeps.refl _ _, lv, 0, by unfold pushS; rw [e1]; exact h, hr⟩
    | false =>
      by_cases hl : (lineL s.L).length < s.most
      · refine (push_newR h id x hid hc hh hl hf).mono ?_
        rintro e w' ⟨rfl, d, lv', b, H, hK⟩
        have e1 : pushE s id = 0 := by unfold pushE; rw [hc, hh, if_neg (by simp), if_neg (by simp), if_neg (by omega)]
        exact ⟨by rw [e1], d, hK.imp act_ofR, lv', b, by unfold pushS; rw [if_pos e1]; exact H, hr.kept hK d.size⟩
      · refine (push_full9 h id x hid hc hh (by omega)).mono ?_
        rintro e w' ⟨rfl, nq, rfl⟩
        have e1 : pushE s id = 7 := by unfold pushE; rw [hc, hh, if_neg (by simp), if_neg (by simp), if_pos (by omega)]
        exact ⟨by rw [e1], below_drewN _ _ _, (Keeps.refl _ _).drewN _, lv, 0, by unfold pushS; rw [e1]; exact h.drewN nq, hr.kept ((Keeps.refl _ _).drewN _) (by rw [drewN_heap]; exact Nat.le_refl _)⟩
theorem push_cR {B : Nat} {w : World} {qb mb rb : Nat} {lv lr : Value} {s s1 : QS} (h : Qi B w qb mb lv s1) (hr : IsR B w rb lr s) (hA : Apart s.L) (hG : Good s) (id : ByteArray) (x : Int) (b : Nat) (hf : s.pushed < 1000000) :
    Calls Try.prog 28 #[.pointer (some ⟨rb, 0, none⟩), .string id, .int .i64 x] w fun e w' => e = .returned (.int .i64 (pushE s id)) ∧ Below B w w' ∧ Keeps w w' (OfT 47) ∧ ∃ lr', Qi B w' qb mb lv s1 ∧ IsR B w' rb lr' (pushS s id x b) := by
  cases hc : s.closed with
  | true =>
    refine (pushR_closed hr id x hc).mono ?_
    rintro e w' ⟨rfl, rfl⟩
    have e1 : pushE s id = 19 := by simp [pushE, hc]
    exact ⟨by rw [e1], Below.refl _ _, Keeps.refl _ _, lr, h, by unfold pushS; rw [e1]; exact hr⟩
  | false =>
    cases hh : hasL s.L id with
    | true =>
      refine (pushR_there hr hA x hc hh).mono ?_
      rintro e w' ⟨rfl, rfl⟩
      have e1 : pushE s id = 6 := by simp [pushE, hc, hh]
      exact ⟨by rw [e1], Below.refl _ _, Keeps.refl _ _, lr, h, by unfold pushS; rw [e1]; exact hr⟩
    | false =>
      have hroom := hG.room
      have hcnt := hG.cnt
      by_cases hl : (lineL s.L).length = s.most
      · refine (pushR_full hr x hc hh hl).mono ?_
        rintro e w' ⟨rfl, nq, rfl⟩
        have e1 : pushE s id = 7 := by unfold pushE; rw [hc, hh, if_neg (by simp), if_neg (by simp), if_pos (by omega)]
        exact ⟨by rw [e1], below_drewN _ _ _, (Keeps.refl _ _).drewN _, lr, h.drewN nq, by unfold pushS; rw [e1]; exact hr.kept ((Keeps.refl _ _).drewN _) (by rw [drewN_heap]; exact Nat.le_refl _)⟩
      · refine (pushR_new hr x hc hh hl (by omega)).mono ?_
        rintro e w' ⟨rfl, lr', H, hK, d⟩
        have e1 : pushE s id = 0 := by unfold pushE; rw [hc, hh, if_neg (by simp), if_neg (by simp), if_neg (by omega)]
        exact ⟨by rw [e1], d, hK.imp act_notR, lr', h.keptR hK d.size, by unfold pushS; rw [if_pos e1]; exact H _ _ _⟩

def markS (s : QS) (id : ByteArray) : QS := { s with L := turn s.L id fun j => { j with marked := true } }
theorem Rising.turn {L : List J} (h : Rising L) (id : ByteArray) {f : J → J} (hf : ∀ j, (f j).num = j.num) : Rising (turn L id f) := by
  unfold Rising Ytkejopmohnfpgaa.turn at *
  rw [List.pairwise_map]
  refine h.imp fun {a b} hab => ?_
  repeat' split
  all_goals first | exact hab | (simp only [hf]; exact hab)
theorem mem_turn {L : List J} {id : ByteArray} {f : J → J} {i : J} (h : i ∈ turn L id f) : ∃ j ∈ L, i = f j ∨ i = j := by
  obtain ⟨j, hj, e⟩ := List.mem_map.1 h
  split at e
  · exact ⟨j, hj, .inl e.symm⟩
  · exact ⟨j, hj, .inr e.symm⟩
theorem Good.turn {s : QS} (h : Good s) (id : ByteArray) {f : J → J} (hx : ∀ j, (f j).x = j.x) (hn : ∀ j, (f j).num = j.num) (hl : (lineL (turn s.L id f)).length ≤ (lineL s.L).length) : Good { s with L := turn s.L id f } := by
  refine ⟨h.ints.turn id hx, h.rise.turn id hn, fun i hi => ?_, ?_, Nat.le_trans hl h.room⟩
  · obtain ⟨j, hj, e⟩ := mem_turn hi
    have := h.nums j hj
    rcases e with rfl | rfl
    · rw [hn]; exact this
    · exact this
  · have := h.cnt
    simpa [Ytkejopmohnfpgaa.turn] using this
theorem Good.mark {s : QS} (h : Good s) (id : ByteArray) : Good (markS s id) :=
  h.turn id (fun _ => rfl) (fun _ => rfl) (by rw [lineL_turn (f := fun j : J => { j with marked := true }) (fun _ => rfl) (fun _ => rfl)]; exact Nat.le_refl _)
theorem markS_no {s : QS} {id : ByteArray} (h : hasL s.L id = false) : markS s id = s := by
  unfold markS
  rw [turn_none (hasL_false h)]
theorem cancel_cQ {B : Nat} {w : World} {qb mb rb : Nat} {lv lr : Value} {s : QS} (h : Qi B w qb mb lv s) (hr : IsR B w rb lr s) (id : ByteArray) (hid : id.size ≤ maxLen) :
    Calls Try.prog 9 #[.pointer (some ⟨qb, 0, none⟩), .string id] w fun e w' => e = .returned (.bool (hasL s.L id)) ∧ Below B w w' ∧ Keeps w w' (OfT 47) ∧ Qi B w' qb mb lv (markS s id) ∧ IsR B w' rb lr s := by
  cases hh : hasL s.L id with
  | true =>
    refine (cancel_yesR h id hid hh).mono ?_
    rintro e w' ⟨rfl, d, H, hK⟩
    exact ⟨rfl, d, hK.imp act_ofR, H, hr.kept hK d.size⟩
  | false =>
    refine (cancel_no h id hid hh).mono ?_
    rintro e w' ⟨rfl, rfl⟩
    exact ⟨rfl, Below.refl _ _, Keeps.refl _ _, by rw [markS_no hh]; exact h, hr⟩
theorem cancel_cR {B : Nat} {w : World} {qb mb rb : Nat} {lv lr : Value} {s s1 : QS} (h : Qi B w qb mb lv s1) (hr : IsR B w rb lr s) (hA : Apart s.L) (id : ByteArray) :
    Calls Try.prog 30 #[.pointer (some ⟨rb, 0, none⟩), .string id] w fun e w' => e = .returned (.bool (hasL s.L id)) ∧ Below B w w' ∧ Keeps w w' (OfT 47) ∧ Qi B w' qb mb lv s1 ∧ IsR B w' rb lr (markS s id) := by
  cases hh : hasL s.L id with
  | true =>
    refine (cancelR_yes hr hA hh).mono ?_
    rintro e w' ⟨rfl, H, hK, d⟩
    exact ⟨rfl, d, hK.imp act_notR, h.keptR hK d.size, H⟩
  | false =>
    refine (cancelR_no hr hh).mono ?_
    rintro e w' ⟨rfl, rfl⟩
    exact ⟨rfl, Below.refl _ _, Keeps.refl _ _, h, by rw [markS_no hh]; exact hr⟩

def doneM (L : List J) (id : ByteArray) : Bool := L.any fun j => decide (j.id = id) && j.taken && j.marked
def doneE (L : List J) (id : ByteArray) : Int := if L.any (fun j => decide (j.id = id) && j.taken) then 0 else 5
def doneS (s : QS) (id : ByteArray) : QS := { s with L := s.L.filter fun j => !(decide (j.id = id) && j.taken) }
theorem done_none {s : QS} {id : ByteArray} (h : ∀ j ∈ s.L, j.id = id → j.taken = false) : doneM s.L id = false ∧ doneE s.L id = 5 ∧ doneS s id = s := by
  have e1 : ∀ j ∈ s.L, (decide (j.id = id) && j.taken) = false := fun j hj => by
    by_cases e : j.id = id
    · simp [h j hj e]
    · simp [e]
  refine ⟨List.any_eq_false.2 fun j hj => by rw [e1 j hj]; simp, ?_, ?_⟩
  · unfold doneE
    rw [List.any_eq_false.2 fun j hj => by rw [e1 j hj]; simp]
    rfl
  · unfold doneS
    rw [List.filter_eq_self.2 fun j hj => by rw [e1 j hj]; rfl]
theorem done_some {s : QS} {j : J} (hA : Apart s.L) (hj : j ∈ s.L) (ht : j.taken = true) : doneM s.L j.id = j.marked ∧ doneE s.L j.id = 0 ∧ doneS s j.id = { s with L := s.L.filter fun i => decide (i.id ≠ j.id) } := by
  refine ⟨?_, ?_, ?_⟩
  · cases hm : j.marked
    · refine List.any_eq_false.2 fun i hi => ?_
      by_cases e : i.id = j.id
      · rw [hA.uniq hi hj e]; simp [hm]
      · simp [e]
    · exact List.any_eq_true.2 ⟨j, hj, by simp [ht, hm]⟩
  · unfold doneE
    rw [if_pos (List.any_eq_true.2 ⟨j, hj, by simp [ht]⟩)]
  · unfold doneS
    congr 1
    refine List.filter_congr fun i hi => ?_
    by_cases e : i.id = j.id
    · rw [hA.uniq hi hj e]; simp [ht]
    · simp [e]
theorem lineL_done (s : QS) (id : ByteArray) : lineL (doneS s id).L = lineL s.L := by
  unfold lineL doneS
  rw [List.filter_filter]
  congr 1
  refine List.filter_congr fun j hj => ?_
  cases j.taken <;> simp
theorem Good.done {s : QS} (h : Good s) (id : ByteArray) : Good (doneS s id) := by
  refine ⟨fun j hj => h.ints j (List.mem_filter.1 hj).1, h.rise.filter _, fun j hj => h.nums j (List.mem_filter.1 hj).1, Nat.le_trans (List.length_filter_le _ _) h.cnt, ?_⟩
  rw [lineL_done]
  exact h.room
theorem done_cQ {B : Nat} {w : World} {qb mb rb : Nat} {lv lr : Value} {s : QS} (h : Qi B w qb mb lv s) (hr : IsR B w rb lr s) (id : ByteArray) (hid : id.size ≤ maxLen) :
    Calls Try.prog 11 #[.pointer (some ⟨qb, 0, none⟩), .string id] w fun e w' => e = .returned (.tuple #[.bool (doneM s.L id), .int .i64 (doneE s.L id)]) ∧ Below B w w' ∧ Keeps w w' (OfT 47) ∧ Qi B w' qb mb lv (doneS s id) ∧ IsR B w' rb lr s := by
  cases hh : hasL s.L id with
  | true =>
    obtain ⟨j, hj, rfl⟩ := hasL_true hh
    cases ht : j.taken with
    | true =>
      obtain ⟨e1, e2, e3⟩ := done_some h.apart hj ht
      refine (done_yesR h j hj hid ht).mono ?_
      rintro e w' ⟨rfl, d, H, hK⟩
      exact ⟨by rw [e1, e2], d, hK.imp act_ofR, by rw [e3]; exact H, hr.kept hK d.size⟩
    | false =>
      obtain ⟨e1, e2, e3⟩ := done_none (s := s) (id := j.id) (fun i hi e => by rw [h.apart.uniq hi hj e]; exact ht)
      refine (done_wait h j hj hid ht).mono ?_
      rintro e w' ⟨rfl, rfl⟩
      exact ⟨by rw [e1, e2], Below.refl _ _, Keeps.refl _ _, by rw [e3]; exact h, hr⟩
  | false =>
    obtain ⟨e1, e2, e3⟩ := done_none (s := s) (id := id) (fun i hi e => absurd e (hasL_false hh i hi))
    refine (done_no h id hid hh).mono ?_
    rintro e w' ⟨rfl, rfl⟩
    exact ⟨by rw [e1, e2], Below.refl _ _, Keeps.refl _ _, by rw [e3]; exact h, hr⟩
theorem done_cR {B : Nat} {w : World} {qb mb rb : Nat} {lv lr : Value} {s s1 : QS} (h : Qi B w qb mb lv s1) (hr : IsR B w rb lr s) (hA : Apart s.L) (hG : Good s) (id : ByteArray) :
    Calls Try.prog 31 #[.pointer (some ⟨rb, 0, none⟩), .string id] w fun e w' => e = .returned (.tuple #[.bool (doneM s.L id), .int .i64 (doneE s.L id)]) ∧ Below B w w' ∧ Keeps w w' (OfT 47) ∧ ∃ lr', Qi B w' qb mb lv s1 ∧ IsR B w' rb lr' (doneS s id) := by
  cases hh : hasL s.L id with
  | true =>
    obtain ⟨j, hj, rfl⟩ := hasL_true hh
    obtain ⟨k, hk1, hk2⟩ := List.mem_iff_getElem.1 hj
    have hk : s.L[k]? = some j := by rw [List.getElem?_eq_getElem hk1, hk2]
    cases ht : j.taken with
    | true =>
      obtain ⟨e1, e2, e3⟩ := done_some hA hj ht
      refine (doneR_yes hr hA hG.ints.one hk ht).mono ?_
      rintro e w' ⟨rfl, lr', H, hK, d⟩
      exact ⟨by rw [e1, e2], d, hK.imp act_notR, lr', h.keptR hK d.size, by rw [e3]; exact H⟩
    | false =>
      obtain ⟨e1, e2, e3⟩ := done_none (s := s) (id := j.id) (fun i hi e => by rw [hA.uniq hi hj e]; exact ht)
      refine (doneR_wait hr hA hk ht).mono ?_
      rintro e w' ⟨rfl, rfl⟩
      exact ⟨by rw [e1, e2], Below.refl _ _, Keeps.refl _ _, lr, h, by rw [e3]; exact hr⟩
  | false =>
    obtain ⟨e1, e2, e3⟩ := done_none (s := s) (id := id) (fun i hi e => absurd e (hasL_false hh i hi))
    refine (doneR_no hr hh).mono ?_
    rintro e w' ⟨rfl, rfl⟩
    exact ⟨by rw [e1, e2], Below.refl _ _, Keeps.refl _ _, lr, h, by rw [e3]; exact hr⟩

def takeS (s : QS) (id : ByteArray) : QS := { s with L := turn s.L id fun j => { j with taken := true } }
theorem Good.take {s : QS} (h : Good s) (hA : Apart s.L) {id : ByteArray} {rest : List ByteArray} (hl : lineL s.L = id :: rest) : Good (takeS s id) :=
  h.turn id (fun _ => rfl) (fun _ => rfl) (by rw [lineL_take hA hl, hl]; simp)
theorem pop_cQ {B : Nat} {w : World} {qb mb rb : Nat} {lv lr : Value} {s : QS} (h : Qi B w qb mb lv s) (hr : IsR B w rb lr s) {id : ByteArray} {rest : List ByteArray} (hl : lineL s.L = id :: rest) (j : J) (hj : j ∈ s.L) (he : j.id = id) (x : Int) (hx : j.x = .int .i64 x) :
    Calls Try.prog 10 #[.pointer (some ⟨qb, 0, none⟩)] w fun e w' => e = .returned (.tuple #[.string id, .int .i64 x, .int .i64 0]) ∧ Below B w w' ∧ Keeps w w' (OfT 47) ∧ ∃ lv', Qi B w' qb mb lv' (takeS s id) ∧ IsR B w' rb lr s := by
  refine (pop_someR h hl j hj he x hx).mono ?_
  rintro e w' ⟨rfl, d, lv', H, hK⟩
  exact ⟨rfl, d, hK.imp act_ofR, lv', H, hr.kept hK d.size⟩
theorem pop_cR {B : Nat} {w : World} {qb mb rb : Nat} {lv lr : Value} {s s1 : QS} (h : Qi B w qb mb lv s1) (hr : IsR B w rb lr s) (hA : Apart s.L) {id : ByteArray} {rest : List ByteArray} (hl : lineL s.L = id :: rest) (j : J) (hj : j ∈ s.L) (he : j.id = id) (x : Int) (hx : j.x = .int .i64 x) :
    Calls Try.prog 29 #[.pointer (some ⟨rb, 0, none⟩)] w fun e w' => e = .returned (.tuple #[.string id, .int .i64 x, .int .i64 0]) ∧ Below B w w' ∧ Keeps w w' (OfT 47) ∧ Qi B w' qb mb lv s1 ∧ IsR B w' rb lr (takeS s id) := by
  refine (popR_some hr hA hl hj he hx).mono ?_
  rintro e w' ⟨rfl, H, hK, d⟩
  exact ⟨rfl, d, hK.imp act_notR, h.keptR hK d.size, H⟩
theorem close_cQ {B : Nat} {w : World} {qb mb rb : Nat} {lv lr : Value} {s s1 : QS} (h : Qi B w qb mb lv s) (hr : IsR B w rb lr s1) :
    Calls Try.prog 14 #[.pointer (some ⟨qb, 0, none⟩)] w fun e w' => e = .returned (.int .i64 0) ∧ Below B w w' ∧ Keeps w w' (OfT 47) ∧ Qi B w' qb mb lv { s with closed := true } ∧ IsR B w' rb lr s1 := by
  refine (close_qR h).mono ?_
  rintro e w' ⟨rfl, d, H, hK⟩
  exact ⟨rfl, d, hK.imp act_ofR, H, hr.kept hK d.size⟩
end Go.Proofs.Ytkejopmohnfpgaa
