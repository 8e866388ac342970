/- Open documents as a list, in the order of a map's keys. No program in sight. -/
import Derived.Test.YtcenfckjkboabaaDoorDp
import Derived.Maps.OwnSet
import Derived.MapViews
namespace Go.Proofs.Dc
open Go.Lib

structure Doc where
  uri : List UInt8
  text : List UInt8
  ver : Int
deriving DecidableEq
def docD (d : Doc) : DataW Unit := .agg [.lit (.string d.uri), .lit (.string d.text), .lit (.int .i64 d.ver)]
/-- how an element of the map reads -/
def docEl (v : Value) : Option (DataW Unit × List MemPlace) :=
  match v with
  | .agg a => match a.toList with
    | [.string u, .string t, .int .i64 n] => some (docD ⟨u.data.toList, t.data.toList, n⟩, [])
    | _ => none
  | _ => none
def docVal (d : Doc) : Value := .agg #[.string ⟨d.uri.toArray⟩, .string ⟨d.text.toArray⟩, .int .i64 d.ver]
theorem docEl_mk (u t : ByteArray) (n : Int) : docEl (.agg #[.string u, .string t, .int .i64 n]) = some (docD ⟨u.data.toList, t.data.toList, n⟩, []) := rfl
theorem docEl_inv {v : Value} {d : Doc} {ps : List MemPlace} (h : docEl v = some (docD d, ps)) : v = docVal d := by
  unfold docEl at h
  split at h
  · rename_i a
    split at h
    · rename_i u t n he
      simp only [docD, Option.some.injEq, Prod.mk.injEq, DataW.agg.injEq, List.cons.injEq, DataW.lit.injEq, Lit.string.injEq, Lit.int.injEq, true_and, and_true] at h
      obtain ⟨⟨h1, h2, h3⟩, _⟩ := h
      have ha : a = #[.string u, .string t, .int .i64 n] := Array.toList_inj.1 he
      rw [ha, docVal, ← h1, ← h2, ← h3]
    · cases h
  · cases h
def insD (x : Doc) : List Doc → List Doc
  | [] => [x]
  | y :: r => if bytesBefore x.uri y.uri then x :: y :: r else y :: insD x r
def without (u : List UInt8) (L : List Doc) : List Doc := L.filter fun p => !(p.uri == u)
def putD (d : Doc) (L : List Doc) : List Doc := insD d (without d.uri L)
def getD? (L : List Doc) (u : List UInt8) : Option Doc := L.find? fun p => p.uri == u
def entry (d : Doc) : Lit × DataW Unit := (.string d.uri, docD d)
/-- the list as a map's datum -/
def DD (L : List Doc) : DataW Unit := .map (L.map entry)
theorem ins_entry (x : Doc) : ∀ L : List Doc, DataW.insert (entry x) (L.map entry) = (insD x L).map entry
  | [] => rfl
  | y :: r => by
    rw [List.map_cons, DataW.insert, insD]
    show (if bytesBefore x.uri y.uri = true then _ else _) = _
    split
    · rfl
    · rw [ins_entry x r]; rfl
theorem without_entry (u : List UInt8) (L : List Doc) : (L.map entry).filter (fun p => !p.1.sameKey (.string u)) = (without u L).map entry := by
  unfold without
  rw [List.filter_map]
  rfl
theorem DD_put (L : List Doc) (d : Doc) : (DD L).put (.string d.uri) (docD d) = DD (putD d L) := by
  show DataW.map (DataW.insert (entry d) ((L.map entry).filter _)) = _
  rw [without_entry, ins_entry]
  rfl
theorem DD_del (L : List Doc) (u : List UInt8) : (DD L).del (.string u) = DD (without u L) := by
  show DataW.map ((L.map entry).filter _) = _
  rw [without_entry]
  rfl
theorem any_find {α : Type} (p : α → Bool) : ∀ l : List α, l.any p = (l.find? p).isSome
  | [] => rfl
  | a :: t => by
    rw [List.any_cons, List.find?_cons]
    cases h : p a with
    | true => rfl
    | false => rw [Bool.false_or]; exact any_find p t
theorem DD_has (L : List Doc) (u : List UInt8) : Maps.has (DD L) (.string u) = (getD? L u).isSome := by
  show (L.map entry).any _ = _
  rw [List.any_map]
  exact any_find _ L
theorem DD_at (L : List Doc) (u : List UInt8) (z : DataW Unit) : (DD L).atKey (.string u) z = match getD? L u with | some d => docD d | none => z := by
  unfold DD DataW.atKey
  simp only
  rw [List.find?_map]
  unfold getD?
  have e : ((fun p : Lit × DataW Unit => p.1.sameKey (.string u)) ∘ entry) = fun p : Doc => p.uri == u := rfl
  rw [e]
  cases L.find? fun p => p.uri == u <;> rfl
theorem DD_size (L : List Doc) : Maps.size (DD L) = L.length := by
  show (L.map entry).length = _
  rw [List.length_map]
theorem find_ins {x : Doc} {u : List UInt8} : ∀ {L : List Doc}, (x.uri == u) = false → (insD x L).find? (fun p => p.uri == u) = L.find? fun p => p.uri == u
  | [], h => by rw [insD, List.find?_cons, h]
  | y :: r, h => by
    rw [insD]
    split
    · rw [List.find?_cons, h]
    · rw [List.find?_cons, List.find?_cons, find_ins h]
theorem find_ins_same {x : Doc} : ∀ {L : List Doc}, (∀ p ∈ L, (p.uri == x.uri) = false) → (insD x L).find? (fun p => p.uri == x.uri) = some x
  | [], _ => by rw [insD, List.find?_cons]; simp
  | y :: r, h => by
    rw [insD]
    split
    · rw [List.find?_cons]; simp
    · rw [List.find?_cons, h y List.mem_cons_self, find_ins_same fun p hp => h p (List.mem_cons_of_mem _ hp)]
theorem get_put (L : List Doc) (d : Doc) : getD? (putD d L) d.uri = some d := by
  unfold getD? putD
  refine find_ins_same fun p hp => ?_
  have := (List.mem_filter.1 hp).2
  simpa using this
theorem get_put_other (L : List Doc) (d : Doc) {u : List UInt8} (h : u ≠ d.uri) : getD? (putD d L) u = getD? L u := by
  unfold getD? putD without
  rw [find_ins (by simpa using fun e => h e.symm)]
  induction L with
  | nil => rfl
  | cons y r ih =>
    rw [List.filter_cons]
    by_cases hy : y.uri = d.uri
    · rw [if_neg (by simpa using hy), ih, List.find?_cons]
      have : (y.uri == u) = false := by rw [hy]; simpa using fun e => h e.symm
      rw [this]
    · rw [if_pos (by simpa using hy), List.find?_cons, List.find?_cons, ih]
theorem length_ins (x : Doc) : ∀ L : List Doc, (insD x L).length = L.length + 1
  | [] => rfl
  | y :: r => by
    rw [insD]
    split
    · rfl
    · rw [List.length_cons, length_ins x r, List.length_cons]
theorem mem_ins {x y : Doc} : ∀ {L : List Doc}, y ∈ insD x L → y = x ∨ y ∈ L
  | [], h => by rw [insD, List.mem_singleton] at h; exact .inl h
  | z :: r, h => by
    rw [insD] at h
    split at h
    · rcases List.mem_cons.1 h with h | h
      · exact .inl h
      · exact .inr h
    · rcases List.mem_cons.1 h with h | h
      · exact .inr (h ▸ List.mem_cons_self)
      · rcases mem_ins h with h | h
        · exact .inl h
        · exact .inr (List.mem_cons_of_mem _ h)
theorem mem_put {x y : Doc} {L : List Doc} (h : y ∈ putD x L) : y = x ∨ y ∈ L := by
  rcases mem_ins h with h | h
  · exact .inl h
  · exact .inr (List.mem_filter.1 h).1
theorem get_mem {L : List Doc} {u : List UInt8} {d : Doc} (h : getD? L u = some d) : d ∈ L ∧ d.uri = u := by
  unfold getD? at h
  exact ⟨List.mem_of_find?_eq_some h, by simpa using List.find?_some h⟩
end Go.Proofs.Dc
