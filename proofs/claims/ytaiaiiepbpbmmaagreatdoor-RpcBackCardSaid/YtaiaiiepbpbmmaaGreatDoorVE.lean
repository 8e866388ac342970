/- Merged texts: V26, V28. -/
import Derived.Test.YtaiaiiepbpbmmaaGreatDoorV13
/- V26: Values of JSON, plain: which are the same; a key's item. No program in sight. -/
namespace Go.Proofs.Jt
open Go.Lib Go.Proofs.Utf

mutual
/-- are two values that may be the same? -/
def sameV : JV → JV → Bool
  | .mk k s ks it, b => decide (k = b.kind) && decide (s = b.str) && decide (it.length = b.items.length) && sameL (decide (k = 6)) it ks 0 b
def sameL (o : Bool) : List JV → List (List UInt8) → Nat → JV → Bool
  | [], _, _, _ => true
  | x :: t, ks, i, b => (if o then decide (ks.headD [] ∈ b.keys) && sameV x (b.items.getD (b.keys.idxOf (ks.headD [])) (jn 0)) else sameV x (b.items.getD i (jn 0))) && sameL o t ks.tail (i + 1) b
end
def sameB (a b : JV) : Bool := decide (a.chk = 0) && decide (b.chk = 0) && sameV a b
/-- the keys of an object that may be stand once -/
theorem fndL_nodup : ∀ (it : List JV) (ks met : List (List UInt8)), fndL true it ks met = 0 → ks.length = it.length → ks.Nodup ∧ ∀ u ∈ ks, u ∉ met
  | [], ks, _, _, hl => by
    obtain rfl : ks = [] := List.length_eq_zero_iff.1 hl
    exact ⟨List.nodup_nil, fun u h => by cases h⟩
  | x :: t, ks, met, h, hl => by
    cases ks with
    | nil => cases hl
    | cons k r =>
      obtain ⟨h1, _, h3⟩ := fndL_cons h
      have h4 := fndL_nodup t r _ h3 (by simpa using hl)
      refine ⟨List.nodup_cons.2 ⟨fun hk => h4.2 k hk List.mem_cons_self, h4.1⟩, fun u hu => ?_⟩
      rcases List.mem_cons.1 hu with rfl | hu
      · exact (h1 rfl).2
      · exact fun hm => h4.2 u hu (List.mem_cons_of_mem _ hm)
theorem fnd_keys {k : Int} {s : List UInt8} {ks : List (List UInt8)} {it : List JV} (h : (JV.mk k s ks it).fnd = 0) (hk : k = 6) : ks.length = it.length ∧ ks.Nodup := by
  obtain ⟨h1, _, h3⟩ := fnd_zero h
  have hl : ks.length = it.length := by
    rcases shaped_cases h1 with ⟨e, _⟩ | ⟨e, _⟩ | ⟨e, _⟩ | ⟨e, _⟩ | ⟨_, _, e⟩
    all_goals omega
  rw [decide_eq_true hk] at h3
  exact ⟨hl, (fndL_nodup it ks [] h3 hl).1⟩
theorem fnd_items {x : JV} (h : x.fnd = 0) {i : Nat} {y : JV} (hy : x.items[i]? = some y) : y.fnd = 0 := by
  cases x with
  | mk k s ks it => exact (fndL_item (fnd_zero h).2.2 i y hy).1
theorem idx_get {ks : List (List UInt8)} (hn : ks.Nodup) {i : Nat} {u : List UInt8} (h : ks[i]? = some u) : ks.idxOf u = i := by
  obtain ⟨h1, rfl⟩ := List.getElem?_eq_some_iff.1 h
  exact hn.idxOf_getElem i h1
/-- each item has its like at its key's place -/
theorem sameL_obj : ∀ (t : List JV) (r : List (List UInt8)) (i : Nat) (b : JV), (∀ (j : Nat) (y : JV), t[j]? = some y → ∃ (u : List UInt8) (m : Nat) (y' : JV), r[j]? = some u ∧ b.keys[m]? = some u ∧ b.items[m]? = some y' ∧ sameV y y' = true) → b.keys.Nodup → sameL true t r i b = true
  | [], _, _, _, _, _ => by rw [sameL]
  | x :: t, r, i, b, h, hn => by
    obtain ⟨u, m, y', h1, h2, h3, h4⟩ := h 0 x rfl
    cases r with
    | nil => cases h1
    | cons k r =>
      obtain rfl : k = u := Option.some.inj h1
      rw [sameL, if_pos rfl, List.headD_cons, decide_eq_true (List.mem_of_getElem? h2), idx_get hn h2, List.getD_eq_getElem?_getD, h3, Option.getD_some, h4, Bool.true_and, Bool.true_and, List.tail_cons]
      exact sameL_obj t r (i + 1) b (fun j y hy => h (j + 1) y (by simpa using hy)) hn
theorem sameL_arr : ∀ (t : List JV) (r : List (List UInt8)) (i : Nat) (b : JV), (∀ (j : Nat) (y : JV), t[j]? = some y → ∃ y', b.items[i + j]? = some y' ∧ sameV y y' = true) → sameL false t r i b = true
  | [], _, _, _, _ => by rw [sameL]
  | x :: t, r, i, b, h => by
    obtain ⟨y', h3, h4⟩ := h 0 x rfl
    rw [sameL, if_neg (by simp), List.getD_eq_getElem?_getD, show b.items[i]? = some y' from h3, Option.getD_some, h4, Bool.true_and]
    exact sameL_arr t r.tail (i + 1) b (fun j y hy => by
      obtain ⟨y', h5, h6⟩ := h (j + 1) y (by simpa using hy)
      exact ⟨y', by rw [← h5]; congr 1; omega, h6⟩)
theorem sameV_mk (k : Int) (s : List UInt8) (ks : List (List UInt8)) (it : List JV) (b : JV) : sameV (.mk k s ks it) b = (decide (k = b.kind) && decide (s = b.str) && decide (it.length = b.items.length) && sameL (decide (k = 6)) it ks 0 b) := by rw [sameV]
theorem sameV_mk2 (k k' : Int) (s s' : List UInt8) (ks ks' : List (List UInt8)) (it it' : List JV) : sameV (.mk k s ks it) (.mk k' s' ks' it') = (decide (k = k') && decide (s = s') && decide (it.length = it'.length) && sameL (decide (k = 6)) it ks 0 (.mk k' s' ks' it')) := by rw [sameV]; rfl
theorem jv_wt_pos (x : JV) : 1 ≤ x.wt := by
  cases x; rw [JV.wt]; omega
theorem wt_items {x : JV} {i : Nat} {y : JV} (h : x.items[i]? = some y) : y.wt < x.wt := by
  cases x with
  | mk k s ks it =>
    have := wt_item (show it[i]? = some y from h)
    rw [JV.wt]
    omega
/-- a value is the same as itself -/
theorem sameV_refl : ∀ (n : Nat) (x : JV), x.wt ≤ n → x.fnd = 0 → sameV x x = true
  | 0, x, h, _ => by have := jv_wt_pos x; omega
  | n + 1, .mk k s ks it, hn, h => by
    have hi : ∀ (j : Nat) (y : JV), it[j]? = some y → sameV y y = true := fun j y hy => sameV_refl n y (by have := wt_items (x := .mk k s ks it) hy; omega) (fnd_items h hy)
    rw [sameV_mk2]
    simp only [decide_true, Bool.true_and]
    by_cases hk : k = 6
    · obtain ⟨h1, h2⟩ := fnd_keys h hk
      rw [decide_eq_true hk]
      refine sameL_obj it ks 0 _ (fun j y hy => ?_) h2
      have hj := (List.getElem?_eq_some_iff.1 hy).1
      exact ⟨ks[j]'(by omega), j, y, List.getElem?_eq_getElem _, List.getElem?_eq_getElem _, hy, hi j y hy⟩
    · rw [decide_eq_false hk]
      exact sameL_arr it ks 0 _ fun j y hy => ⟨y, by rw [Nat.zero_add]; exact hy, hi j y hy⟩
/-- an object is the same as itself with its keys in another order -/
theorem sameV_turn {s : List UInt8} {ks ks' : List (List UInt8)} {it it' : List JV} (h : (JV.mk 6 s ks it).fnd = 0) (h' : (JV.mk 6 s ks' it').fnd = 0) (hl : it.length = it'.length)
    (hp : ∀ (j : Nat) (u : List UInt8) (y : JV), ks[j]? = some u → it[j]? = some y → ∃ m : Nat, ks'[m]? = some u ∧ it'[m]? = some y) : sameV (.mk 6 s ks it) (.mk 6 s ks' it') = true := by
  obtain ⟨h1, h2⟩ := fnd_keys h rfl
  obtain ⟨_, h4⟩ := fnd_keys h' rfl
  rw [sameV_mk2, decide_eq_true hl]
  simp only [decide_true, Bool.true_and]
  refine sameL_obj it ks 0 (.mk 6 s ks' it') (fun j y hy => ?_) h4
  have hj := (List.getElem?_eq_some_iff.1 hy).1
  obtain ⟨m, h5, h6⟩ := hp j _ y (List.getElem?_eq_getElem (by omega)) hy
  exact ⟨_, m, y, List.getElem?_eq_getElem (by omega), h5, h6, sameV_refl _ y (Nat.le_refl _) (fnd_items h hy)⟩
theorem sameL_at : ∀ (t : List JV) (r : List (List UInt8)) (i : Nat) (b : JV) (o : Bool), sameL o t r i b = true → ∀ (j : Nat) (y : JV), t[j]? = some y → (o = false → sameV y (b.items.getD (i + j) (jn 0)) = true) ∧ (o = true → ∀ u, r[j]? = some u → sameV y (b.items.getD (b.keys.idxOf u) (jn 0)) = true)
  | [], _, _, _, _, _, j, y, hy => by cases hy
  | x :: t, r, i, b, o, h, j, y, hy => by
    rw [sameL, Bool.and_eq_true] at h
    cases j with
    | zero =>
      obtain rfl := Option.some.inj hy
      refine ⟨fun ho => ?_, fun ho u hu => ?_⟩
      · rw [if_neg (by rw [ho]; simp)] at h; exact h.1
      · rw [if_pos ho, Bool.and_eq_true] at h
        cases r with
        | nil => cases hu
        | cons k r => obtain rfl := Option.some.inj hu; exact h.1.2
    | succ j =>
      have := sameL_at t r.tail (i + 1) b o h.2 j y (by simpa using hy)
      refine ⟨fun ho => ?_, fun ho u hu => ?_⟩
      · have h1 := this.1 ho
        rwa [show i + 1 + j = i + (j + 1) by omega] at h1
      · exact this.2 ho u (by
          cases r with
          | nil => cases hu
          | cons k r => simpa using hu)
theorem one_item {it : List JV} (h : it.length = 1) : ∃ y, it = [y] := by
  match it, h with
  | [y], _ => exact ⟨y, rfl⟩
/-- a value is not the same as the list of itself -/
theorem sameV_up : ∀ (n : Nat) (x : JV) (ks : List (List UInt8)), x.wt ≤ n → sameV x (.mk 5 [] ks [x]) = false
  | 0, x, _, h => by have := jv_wt_pos x; omega
  | n + 1, .mk k s kx it, ks, hn => by
    rw [Bool.eq_false_iff]
    intro h
    rw [sameV_mk2] at h
    simp only [Bool.and_eq_true] at h
    obtain ⟨⟨⟨e1, e2⟩, h3⟩, h4⟩ := h
    replace e1 := of_decide_eq_true e1
    replace e2 := of_decide_eq_true e2
    replace h3 := of_decide_eq_true h3
    subst e1 e2
    obtain ⟨y, rfl⟩ := one_item h3
    rw [decide_eq_false (by omega)] at h4
    have h5 := (sameL_at _ _ _ _ _ h4 0 y rfl).1 rfl
    have h6 := sameV_up n y kx (by have := wt_items (x := .mk 5 [] kx [y]) (i := 0) (y := y) rfl; omega)
    rw [show sameV y (.mk 5 [] kx [y]) = true from h5] at h6
    cases h6
theorem sameV_down : ∀ (n : Nat) (x : JV) (ks : List (List UInt8)), x.wt ≤ n → sameV (.mk 5 [] ks [x]) x = false
  | 0, x, _, h => by have := jv_wt_pos x; omega
  | n + 1, .mk k s kx it, ks, hn => by
    rw [Bool.eq_false_iff]
    intro h
    rw [sameV_mk2] at h
    simp only [Bool.and_eq_true] at h
    obtain ⟨⟨⟨e1, e2⟩, h3⟩, h4⟩ := h
    replace e1 := of_decide_eq_true e1
    replace e2 := of_decide_eq_true e2
    replace h3 := of_decide_eq_true h3
    subst e1 e2
    obtain ⟨y, rfl⟩ := one_item h3.symm
    rw [decide_eq_false (by omega)] at h4
    have h5 := (sameL_at _ _ _ _ _ h4 0 (.mk 5 [] kx [y]) rfl).1 rfl
    have h6 := sameV_down n y kx (by have := wt_items (x := .mk 5 [] kx [y]) (i := 0) (y := y) rfl; omega)
    rw [show sameV (.mk 5 [] kx [y]) y = true from h5] at h6
    cases h6
end Go.Proofs.Jt
/- V28: JsonOrder, plain: an object with its keys in another order. No program in sight. -/
namespace Go.Proofs.Jt
open Go.Lib Go.Proofs.Utf

theorem fndL_make : ∀ (it : List JV) (ks met : List (List UInt8)), ks.length = it.length → (∀ x ∈ it, x.fnd = 0) → (∀ u ∈ ks, validD u = true ∧ u ∉ met) → ks.Nodup → fndL true it ks met = 0
  | [], _, _, _, _, _, _ => by rw [fndL]
  | x :: t, ks, met, hl, hx, hk, hn => by
    cases ks with
    | nil => cases hl
    | cons k r =>
      obtain ⟨h1, h2⟩ := hk k List.mem_cons_self
      obtain ⟨h3, h4⟩ := List.nodup_cons.1 hn
      rw [fndL, List.headD_cons, if_neg (by rw [h1]; simp), if_neg (by simp [h2]), if_pos (hx x List.mem_cons_self), List.tail_cons]
      refine fndL_make t r _ (by simpa using hl) (fun y hy => hx y (List.mem_cons_of_mem _ hy)) (fun u hu => ⟨(hk u (List.mem_cons_of_mem _ hu)).1, fun hm => ?_⟩) h4
      rcases List.mem_cons.1 hm with rfl | hm
      · exact h3 hu
      · exact (hk u (List.mem_cons_of_mem _ hu)).2 hm
theorem obj_fnd {ks : List (List UInt8)} {it : List JV} (hl : ks.length = it.length) (hx : ∀ x ∈ it, x.fnd = 0) (hk : ∀ u ∈ ks, validD u = true) (hn : ks.Nodup) : (JV.mk 6 [] ks it).fnd = 0 := by
  have h1 := fndL_make it ks [] hl hx (fun u hu => ⟨hk u hu, by simp⟩) hn
  rw [JV.fnd, if_neg (by simp [JV.shaped, hl]), if_neg (by simp)]
  exact h1
theorem obj_parts {ks : List (List UInt8)} {it : List JV} (h : (JV.mk 6 [] ks it).fnd = 0) : ks.length = it.length ∧ (∀ x ∈ it, x.fnd = 0) ∧ (∀ u ∈ ks, validD u = true) ∧ ks.Nodup := by
  obtain ⟨h1, h2⟩ := fnd_keys h rfl
  obtain ⟨_, _, h3⟩ := fnd_zero h
  refine ⟨h1, fun x hx => ?_, fun u hu => ?_, h2⟩
  · obtain ⟨i, hi⟩ := List.getElem?_of_mem hx
    exact fnd_items h hi
  · obtain ⟨i, hi⟩ := List.getElem?_of_mem hu
    have hil := (List.getElem?_eq_some_iff.1 hi).1
    exact (fndL_item h3 i (it[i]'(by omega)) (List.getElem?_eq_getElem _)).2 rfl u hi
theorem depL_le {it : List JV} {d : Nat} : depL it ≤ d ↔ ∀ x ∈ it, x.dep ≤ d := by
  induction it with
  | nil => simp [depL]
  | cons x t ih => rw [depL]; simp only [List.mem_cons, forall_eq_or_imp, ← ih]; omega
theorem obj_dep (k : Int) (hk : k = 5 ∨ k = 6) (s : List UInt8) (ks : List (List UInt8)) (it : List JV) : (JV.mk k s ks it).dep = depL it + 1 := by rw [JV.dep, if_pos hk]
theorem chk_of {v : JV} (h1 : v.dep ≤ 64) (h2 : v.fnd = 0) : v.chk = 0 := by
  unfold JV.chk
  rw [if_neg (by omega), h2]
/-- the first i of a list that is turned about t places -/
def turnL {α : Type} (l : List α) (d : α) (t i : Nat) : List α := (List.range i).map fun j => l.getD ((j + t) % l.length) d
theorem turnL_len {α : Type} (l : List α) (d : α) (t i : Nat) : (turnL l d t i).length = i := by simp [turnL]
theorem turnL_succ {α : Type} (l : List α) (d : α) (t i : Nat) : turnL l d t (i + 1) = turnL l d t i ++ [l.getD ((i + t) % l.length) d] := by simp [turnL, List.range_succ]
theorem turnL_get {α : Type} (l : List α) (d : α) (t i j : Nat) (h : j < i) (hl : 0 < l.length) : (turnL l d t i)[j]? = l[(j + t) % l.length]? := by
  have hm := Nat.mod_lt (j + t) hl
  rw [turnL, List.getElem?_map, List.getElem?_range h, Option.map_some, List.getD_eq_getElem?_getD, List.getElem?_eq_getElem hm]
  rfl
theorem turnL_mem {α : Type} {l : List α} {d : α} {t i : Nat} {x : α} (h : x ∈ turnL l d t i) (hl : 0 < l.length) : x ∈ l := by
  obtain ⟨j, hj⟩ := List.getElem?_of_mem h
  have hji := (List.getElem?_eq_some_iff.1 hj).1
  rw [turnL_len] at hji
  rw [turnL_get l d t i j hji hl] at hj
  exact List.mem_of_getElem? hj
theorem turnL_map {α β : Type} (f : α → β) (l : List α) (d : α) (t i : Nat) : (turnL l d t i).map f = turnL (l.map f) (f d) t i := by
  unfold turnL
  rw [List.map_map]
  refine List.map_congr_left fun j _ => ?_
  simp [List.getD_eq_getElem?_getD, Option.getD_map]
theorem mod_inj {n t i j : Nat} (hi : i < n) (hj : j < n) (h : (i + t) % n = (j + t) % n) : i = j := by
  have h1 := Nat.div_add_mod (i + t) n
  have h2 := Nat.div_add_mod (j + t) n
  rw [h] at h1
  have h3 : ∀ a b : Nat, n * a + (j + t) % n = i + t → n * b + (j + t) % n = j + t → a = b := fun a b ha hb => by
    rcases Nat.lt_trichotomy a b with hlt | heq | hgt
    · have := Nat.mul_le_mul_left n (show a + 1 ≤ b from hlt)
      rw [Nat.mul_add, Nat.mul_one] at this
      omega
    · exact heq
    · have := Nat.mul_le_mul_left n (show b + 1 ≤ a from hgt)
      rw [Nat.mul_add, Nat.mul_one] at this
      omega
  have := h3 _ _ h1 h2
  rw [this] at h1
  omega
theorem nodup_of {α : Type} {l : List α} (h : ∀ (i j : Nat) (x : α), l[i]? = some x → l[j]? = some x → i = j) : l.Nodup := by
  unfold List.Nodup
  rw [List.pairwise_iff_getElem]
  intro i j hi hj hij e
  have := h i j l[j] (by rw [List.getElem?_eq_getElem hi, e]) (List.getElem?_eq_getElem hj)
  omega
theorem mod_back {n t j : Nat} (hj : j < n) : ∃ i, i < n ∧ (i + t) % n = j := by
  refine ⟨(j + (n - t % n)) % n, Nat.mod_lt _ (by omega), ?_⟩
  have ht := Nat.mod_lt t (show 0 < n by omega)
  rw [Nat.mod_add_mod, show j + (n - t % n) + t = j + n * (t / n + 1) by
    have := Nat.div_add_mod t n
    rw [Nat.mul_add, Nat.mul_one]
    omega, Nat.add_mul_mod_self_left, Nat.mod_eq_of_lt hj]
theorem nodup_idx {ks : List (List UInt8)} (hn : ks.Nodup) {i j : Nat} {u : List UInt8} (h1 : ks[i]? = some u) (h2 : ks[j]? = some u) : i = j := (idx_get hn h1).symm.trans (idx_get hn h2)
section
variable {ks : List (List UInt8)} {it : List JV} (t : Nat) (h : (JV.mk 6 [] ks it).chk = 0) (h0 : 0 < ks.length)
include h h0
/-- the object with its keys turned about may be -/
theorem turn_chk : (JV.mk 6 [] (turnL ks [] t ks.length) (turnL it (jn 0) t ks.length)).chk = 0 := by
  obtain ⟨h1, h2⟩ := chk_zero h
  obtain ⟨h3, h4, h5, h6⟩ := obj_parts h2
  rw [obj_dep _ (.inr rfl)] at h1
  refine chk_of ?_ (obj_fnd (by rw [turnL_len, turnL_len]) (fun x hx => h4 x (turnL_mem hx (by omega))) (fun u hu => h5 u (turnL_mem hu h0)) (nodup_of fun i j x hi hj => ?_))
  · rw [obj_dep _ (.inr rfl)]
    have : depL (turnL it (jn 0) t ks.length) ≤ depL it := depL_le.2 fun x hx => depL_le.1 (Nat.le_refl _) x (turnL_mem hx (by omega))
    omega
  · have hil := (List.getElem?_eq_some_iff.1 hi).1
    have hjl := (List.getElem?_eq_some_iff.1 hj).1
    rw [turnL_len] at hil hjl
    rw [turnL_get _ _ _ _ _ hil h0] at hi
    rw [turnL_get _ _ _ _ _ hjl h0] at hj
    exact mod_inj hil hjl (nodup_idx h6 hi hj)
theorem turn_same : sameB (.mk 6 [] ks it) (.mk 6 [] (turnL ks [] t ks.length) (turnL it (jn 0) t ks.length)) = true ∧ sameB (.mk 6 [] (turnL ks [] t ks.length) (turnL it (jn 0) t ks.length)) (.mk 6 [] ks it) = true := by
  have hc := turn_chk t h h0
  obtain ⟨_, h2⟩ := chk_zero h
  obtain ⟨_, h2'⟩ := chk_zero hc
  obtain ⟨h3, h4, h5, h6⟩ := obj_parts h2
  have hlen : it.length = (turnL it (jn 0) t ks.length).length := by rw [turnL_len]; omega
  unfold sameB
  rw [h, hc]
  simp only [decide_true, Bool.true_and]
  refine ⟨sameV_turn h2 h2' hlen fun j u y hu hy => ?_, sameV_turn h2' h2 hlen.symm fun j u y hu hy => ?_⟩
  · obtain ⟨i, hi, he⟩ := mod_back (t := t) (List.getElem?_eq_some_iff.1 hu).1
    refine ⟨i, by rw [turnL_get _ _ _ _ _ hi h0, he]; exact hu, ?_⟩
    rw [turnL_get _ _ _ _ _ hi (by omega), ← h3, he]
    exact hy
  · have hj := (List.getElem?_eq_some_iff.1 hu).1
    rw [turnL_len] at hj
    rw [turnL_get _ _ _ _ _ hj h0] at hu
    rw [turnL_get _ _ _ _ _ hj (by omega), ← h3] at hy
    exact ⟨_, hu, hy⟩
end
/-- what a key has -/
def fieldV (x : JV) (key : List UInt8) : Option JV := if x.kind = 6 ∧ key ∈ x.keys then x.items[x.keys.idxOf key]? else none
section
variable {ks : List (List UInt8)} {it : List JV} (t : Nat) (h : (JV.mk 6 [] ks it).chk = 0) (h0 : 0 < ks.length)
include h h0
theorem turn_field {i : Nat} {u : List UInt8} {y : JV} (hu : ks[i]? = some u) (hy : it[i]? = some y) : fieldV (.mk 6 [] (turnL ks [] t ks.length) (turnL it (jn 0) t ks.length)) u = some y := by
  have hc := turn_chk t h h0
  obtain ⟨_, h2⟩ := chk_zero h
  obtain ⟨_, h2'⟩ := chk_zero hc
  obtain ⟨h3, _⟩ := obj_parts h2
  obtain ⟨_, _, _, h6⟩ := obj_parts h2'
  obtain ⟨m, hm, he⟩ := mod_back (t := t) (List.getElem?_eq_some_iff.1 hu).1
  have e1 : (turnL ks [] t ks.length)[m]? = some u := by rw [turnL_get _ _ _ _ _ hm h0, he]; exact hu
  unfold fieldV
  rw [show (JV.mk 6 [] (turnL ks [] t ks.length) (turnL it (jn 0) t ks.length)).keys = turnL ks [] t ks.length from rfl, show (JV.mk 6 [] (turnL ks [] t ks.length) (turnL it (jn 0) t ks.length)).items = turnL it (jn 0) t ks.length from rfl, if_pos ⟨rfl, List.mem_of_getElem? e1⟩, idx_get h6 e1, turnL_get _ _ _ _ _ hm (by omega), ← h3, he]
  exact hy
/-- with an item that is another one it is not the same -/
theorem turn_other {y : JV} {r : List JV} (hr : turnL it (jn 0) t ks.length = y :: r) : sameB (.mk 6 [] ks it) (.mk 6 [] (turnL ks [] t ks.length) (.mk 5 [] [] [y] :: r)) = false ∧ sameB (.mk 6 [] (turnL ks [] t ks.length) (.mk 5 [] [] [y] :: r)) (.mk 6 [] ks it) = false := by
  obtain ⟨_, h2⟩ := chk_zero h
  obtain ⟨h3, _, _, h6⟩ := obj_parts h2
  have hm := Nat.mod_lt t h0
  obtain ⟨u, hu⟩ : ∃ u, ks[t % ks.length]? = some u := ⟨_, List.getElem?_eq_getElem hm⟩
  have e1 : (turnL ks [] t ks.length)[0]? = some u := by rw [turnL_get _ _ _ _ _ h0 h0, Nat.zero_add]; exact hu
  have e2 : it[t % ks.length]? = some y := by
    have := turnL_get it (jn 0) t ks.length 0 h0 (by omega)
    rw [hr, Nat.zero_add, ← h3] at this
    exact this.symm
  have e3 : ∃ q, turnL ks [] t ks.length = u :: q := by
    cases hq : turnL ks [] t ks.length with
    | nil => rw [hq] at e1; cases e1
    | cons a q => rw [hq] at e1; exact ⟨q, by rw [Option.some.inj e1]⟩
  obtain ⟨q, e3⟩ := e3
  rw [e3]
  refine ⟨?_, ?_⟩
  · rw [Bool.eq_false_iff]
    intro hs
    unfold sameB at hs
    rw [Bool.and_eq_true, sameV_mk2] at hs
    have hs2 := (Bool.and_eq_true_iff.1 hs.2).2
    rw [decide_eq_true (show (6 : Int) = 6 from rfl)] at hs2
    have h7 := (sameL_at _ _ _ _ _ hs2 _ y e2).2 rfl u hu
    rw [show (JV.mk 6 [] (u :: q) (.mk 5 [] [] [y] :: r)).keys = u :: q from rfl, List.idxOf_cons_self] at h7
    have h8 : sameV y (.mk 5 [] [] [y]) = true := h7
    rw [sameV_up _ y [] (Nat.le_refl _)] at h8
    cases h8
  · rw [Bool.eq_false_iff]
    intro hs
    unfold sameB at hs
    rw [Bool.and_eq_true, sameV_mk2] at hs
    have hs2 := (Bool.and_eq_true_iff.1 hs.2).2
    rw [decide_eq_true (show (6 : Int) = 6 from rfl)] at hs2
    have h7 := (sameL_at _ _ _ _ _ hs2 0 (.mk 5 [] [] [y]) rfl).2 rfl u rfl
    rw [show (JV.mk 6 [] ks it).keys = ks from rfl, idx_get h6 hu, List.getD_eq_getElem?_getD] at h7
    have h8 : sameV (.mk 5 [] [] [y]) y = true := by
      rw [show (JV.mk 6 [] ks it).items[t % ks.length]? = some y from e2] at h7
      exact h7
    rw [sameV_down _ y [] (Nat.le_refl _)] at h8
    cases h8
end
end Go.Proofs.Jt
