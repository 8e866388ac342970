/- Frames: what the library's words mean for lines, names, numbers. No program in sight. -/
import Derived.Test.YtebppgokcmeedaaDoorFp
import Derived.Lib.SlTrimSet
import Derived.Lib.TrimByte
import Derived.Lib.CountLaws
import Derived.Lib.CutLaws
namespace Go.Proofs.Fr
open Go.Lib

theorem forall_u8 {p : UInt8 → Prop} (h : ∀ n : Fin 256, p (UInt8.ofNat n.val)) : ∀ c, p c := fun c => by
  have := h ⟨c.toNat, c.toNat_lt⟩
  simpa using this
theorem splitK_fuel : ∀ (n m : Nat) (s : List UInt8), s.length ≤ n → s.length ≤ m → splitK crlf 0 n s = splitK crlf 0 m s := by
  have zero : ∀ (m : Nat) (s : List UInt8), s.length ≤ 0 → splitK crlf 0 m s = [s] := fun m s h => by
    have : s = [] := List.eq_nil_of_length_eq_zero (by omega)
    subst this
    cases m with
    | zero => rfl
    | succ m => rfl
  intro n
  induction n with
  | zero => intro m s h1 h2; rw [zero m s h1]; rfl
  | succ n ih =>
    intro m s h1 h2
    cases m with
    | zero => rw [zero (n + 1) s h2]; rfl
    | succ m =>
      unfold splitK
      split
      · rfl
      · rename_i h
        have hr := index_room s crlf (by have := index_ge s crlf; have : index s crlf ≠ -1 := fun e => h (beq_iff_eq.2 e); omega)
        have e2 : crlf.length = 2 := rfl
        rw [ih m _ (by rw [List.length_drop]; omega) (by rw [List.length_drop]; omega)]
theorem lns_none {s : List UInt8} (h : index s crlf = -1) : lns s = [s] := by
  unfold lns
  cases hl : s.length with
  | zero => rfl
  | succ n => unfold splitK; rw [if_pos (beq_iff_eq.2 h)]
theorem lns_some {s : List UInt8} {i : Nat} (h : index s crlf = i) : lns s = s.take i :: lns (s.drop (i + 2)) := by
  have hr := index_room s crlf (by omega)
  have e2 : crlf.length = 2 := rfl
  unfold lns
  obtain ⟨n, hn⟩ : ∃ n, s.length = n + 1 := ⟨s.length - 1, by omega⟩
  rw [hn]
  conv => lhs; unfold splitK
  rw [if_neg (fun e => by have := beq_iff_eq.1 e; omega), h]
  simp only [Int.toNat_natCast, Nat.add_zero, e2]
  rw [splitK_fuel n (s.drop (i + 2)).length _ (by rw [List.length_drop]; omega) (Nat.le_refl _)]
def crlfB : ByteArray := ⟨#[13, 10]⟩
theorem split_lns : ∀ (k : Nat) (s : ByteArray), s.size ≤ k → (splitB crlfB 0 (countB s crlfB) s).map (·.data.toList) = lns s.data.toList := by
  intro k
  induction k with
  | zero =>
    intro s hk
    rcases indexB_cases s crlfB with h | ⟨i, h, hr⟩
    · rw [countB_miss s crlfB h, splitB_zero]
      exact (lns_none h).symm
    · have : crlfB.size = 2 := rfl
      omega
  | succ k ih =>
    intro s hk
    rcases indexB_cases s crlfB with h | ⟨i, h, hr⟩
    · rw [countB_miss s crlfB h, splitB_zero]
      exact (lns_none h).symm
    · have e2 : crlfB.size = 2 := rfl
      rw [countB_hit s crlfB i (by decide) h, Nat.add_comm 1, splitB_hit crlfB 0 _ s i h, List.map_cons, ih _ (by rw [ByteArray.size_extract]; omega), lns_some (i := i) h, extract_to_end, extract_data]
      simp [e2]
theorem lns_pos (s : List UInt8) : 0 < (lns s).length := by
  have hg := index_ge s crlf
  by_cases h : index s crlf = -1
  · rw [lns_none h]; exact Nat.succ_pos _
  · obtain ⟨i, hi⟩ : ∃ i : Nat, index s crlf = i := ⟨(index s crlf).toNat, by omega⟩
    rw [lns_some hi]
    exact Nat.succ_pos _
theorem take_occ {s : List UInt8} {c : UInt8} {i : Nat} : occAt s [c] i = true ↔ s[i]? = some c := by
  rw [occ_at]
  constructor
  · rintro ⟨h1, _⟩
    have := congrArg (·[0]?) h1
    simpa [List.getElem?_take, List.getElem?_drop] using this
  · intro h
    obtain ⟨hl, he⟩ := List.getElem?_eq_some_iff.1 h
    rw [List.drop_eq_getElem_cons hl, he]
    simp
theorem index_colon (s : List UInt8) : (index s [58] = -1 ∧ ∀ j : Nat, s[j]? ≠ some 58) ∨ ∃ i : Nat, index s [58] = i ∧ s[i]? = some 58 ∧ ∀ j : Nat, j < i → s[j]? ≠ some 58 := by
  rcases index_spec s [58] with ⟨h1, h2⟩ | ⟨i, h1, h2, h3, h4⟩
  · refine .inl ⟨h1, fun j hj => ?_⟩
    have := h2 j (by have := (List.getElem?_eq_some_iff.1 hj).1; omega)
    rw [take_occ.2 hj] at this
    cases this
  · refine .inr ⟨i, h1, take_occ.1 h3, fun j hj he => ?_⟩
    have := h4 j hj
    rw [take_occ.2 he] at this
    cases this
theorem low_colon : ∀ c : UInt8, lowB c = 58 ↔ c = 58 := forall_u8 (by decide +kernel)
/-- a line's name and value by its first colon -/
theorem named_none {l name : List UInt8} (h : index l [58] = -1) : named l name = none := by
  unfold named
  rw [if_neg]
  rintro ⟨_, h2⟩
  rcases index_colon l with ⟨_, h3⟩ | ⟨i, h3, _⟩
  · exact h3 _ h2
  · omega
theorem named_some {l name : List UInt8} {i : Nat} (h : index l [58] = i) (hn : ∀ c ∈ name, c ≠ 58) : named l name = if (l.take i).map lowB = name then some (l.drop (i + 1)) else none := by
  rcases index_colon l with ⟨h1, _⟩ | ⟨k, h1, h2, h3⟩
  · omega
  obtain rfl : k = i := by omega
  have hl := (List.getElem?_eq_some_iff.1 h2).1
  unfold named
  by_cases hm : (l.take k).map lowB = name
  · have hk : name.length = k := by rw [← hm, List.length_map, List.length_take]; omega
    rw [if_pos hm, hk, if_pos ⟨hm, h2⟩]
  · rw [if_neg hm, if_neg]
    rintro ⟨g1, g2⟩
    have hk : k = name.length := by
      rcases Nat.lt_trichotomy k name.length with h | h | h
      · exfalso
        have e : ((l.take name.length).map lowB)[k]? = some 58 := by
          rw [List.getElem?_map, List.getElem?_take_of_lt h, h2]; rfl
        rw [g1] at e
        exact hn 58 (List.mem_of_getElem? e) rfl
      · exact h
      · exact absurd g2 (h3 _ h)
    exact hm (by rw [hk]; exact g1)
theorem nameLen_ok : ∀ c ∈ nameLen, c ≠ 58 := by decide
theorem nameTyp_ok : ∀ c ∈ nameTyp, c ≠ 58 := by decide
theorem skip_trim (v : List UInt8) : trimLeftB v 32 = skip v := rfl
def digT : List UInt8 := [48, 49, 50, 51, 52, 53, 54, 55, 56, 57]
theorem dig_in : ∀ c : UInt8, digT.contains c = isDig c := forall_u8 (by decide +kernel)
theorem drop_nil {p : UInt8 → Bool} : ∀ {l : List UInt8}, l.dropWhile p = [] ↔ ∀ x ∈ l, p x = true
  | [] => by simp
  | c :: t => by
    rw [List.dropWhile_cons]
    cases h : p c with
    | true => rw [if_pos rfl, drop_nil]; simp [h]
    | false => simp [h]
theorem trim_digits (l : List UInt8) : trimS l digT = [] ↔ l.all isDig = true := by
  have e : (fun c => digT.contains c) = isDig := funext dig_in
  unfold trimS trimLeftS trimRightS
  rw [show (fun x => digT.contains x) = isDig from e]
  constructor
  · intro h
    rw [drop_nil] at h
    rw [List.all_eq_true]
    have hall : ∀ x ∈ l.reverse, isDig x = true := by
      intro x hx
      rw [← List.takeWhile_append_dropWhile (p := isDig) (l := l.reverse)] at hx
      rcases List.mem_append.1 hx with h1 | h1
      · exact List.all_eq_true.1 (List.all_takeWhile (l := l.reverse) (p := isDig)) x h1
      · exact h x (List.mem_reverse.2 h1)
    exact fun x hx => hall x (List.mem_reverse.2 hx)
  · intro h
    rw [List.all_eq_true] at h
    have : l.reverse.dropWhile isDig = [] := drop_nil.2 fun x hx => h x (List.mem_reverse.1 hx)
    rw [this]
    rfl
theorem dec_from : ∀ (l : List UInt8) (n : Nat), l.all isDig = true → decFrom n l = some (decV l n)
  | [], n, _ => rfl
  | c :: t, n, h => by
    rw [List.all_cons, Bool.and_eq_true] at h
    have hc := of_decide_eq_true h.1
    unfold decFrom decV digitVal
    rw [if_pos hc]
    simp only
    rw [dec_from t _ h.2, Nat.mul_comm]
theorem atoi_dec {l : List UInt8} (h0 : l ≠ []) (h : l.all isDig = true) : atoi l = some ((decV l 0 : Nat) : Int) := by
  match l, h0 with
  | b :: r, _ =>
    have hb := h
    rw [List.all_cons, Bool.and_eq_true] at hb
    have hc := of_decide_eq_true hb.1
    show (if b == 45 then (decNat r).map fun (m : Nat) => -(m : Int) else if b == 43 then (decNat r).map fun (m : Nat) => (m : Int) else (decNat (b :: r)).map fun (m : Nat) => (m : Int)) = _
    rw [if_neg (fun e => by rw [beq_iff_eq.1 e] at hc; revert hc; decide), if_neg (fun e => by rw [beq_iff_eq.1 e] at hc; revert hc; decide)]
    unfold decNat
    rw [List.isEmpty_cons, if_neg (by decide), dec_from _ 0 h]
    rfl
theorem decV_lt : ∀ (l : List UInt8) (n : Nat), l.all isDig = true → decV l n < (n + 1) * 10 ^ l.length
  | [], n, _ => by simp [decV]
  | c :: t, n, h => by
    rw [List.all_cons, Bool.and_eq_true] at h
    have hc := of_decide_eq_true h.1
    have ih := decV_lt t (10 * n + (c.toNat - 48)) h.2
    unfold decV
    rw [List.length_cons, Nat.pow_succ]
    refine Nat.lt_of_lt_of_le ih ?_
    have : (10 * n + (c.toNat - 48) + 1) ≤ (n + 1) * 10 := by omega
    calc (10 * n + (c.toNat - 48) + 1) * 10 ^ t.length ≤ ((n + 1) * 10) * 10 ^ t.length := Nat.mul_le_mul_right _ this
      _ = (n + 1) * (10 ^ t.length * 10) := by rw [Nat.mul_assoc, Nat.mul_comm 10]
theorem numV_lt (v : List UInt8) : numV v < 1000000000000000000 := by
  unfold numV
  split
  · omega
  · rename_i h
    have h2 : (skip v).all isDig = true := by
      cases hh : (skip v).all isDig with
      | true => rfl
      | false => exact absurd (.inr (.inr hh)) h
    have h3 : (skip v).length ≤ 18 := by
      rcases Nat.lt_or_ge 18 (skip v).length with g | g
      · exact absurd (.inr (.inl g)) h
      · exact g
    have := decV_lt (skip v) 0 h2
    have h4 : 10 ^ (skip v).length ≤ 10 ^ 18 := Nat.pow_le_pow_right (by omega) h3
    omega
theorem headGo_lt : ∀ (ls : List (List UInt8)) (n : Int) (k : Nat), n < 1000000000000000000 → headGo ls n k < 1000000000000000000
  | [], n, k, h => h
  | l :: t, n, k, h => by
    unfold headGo
    split
    · split
      · exact headGo_lt t _ k (numV_lt _)
      · omega
    · split
      · split
        · exact headGo_lt t n _ h
        · omega
      · omega
end Go.Proofs.Fr
