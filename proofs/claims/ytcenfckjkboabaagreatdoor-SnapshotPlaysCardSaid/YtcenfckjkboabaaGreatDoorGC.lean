/- Merged texts: Dp, Dq, D13, D1, D2, D3, D4, D5, D6. -/
import Derived.Lib.IndexMore
import Derived.Lib.IndexLaws
import Derived.Lib.Strings
import Derived.Lib.Fields
import Derived.Lib.Hide
import Derived.Maps.OwnSet
import Derived.MapViews
import Derived.Sort.KeysCollected
import Derived.Test.YtcenfckjkboabaaGreatDoorShelf
import Derived.WalkKit
import Derived.WalkSpells
import Derived.WalkLawsBesides
import Derived.Deep.QuietTactic
import Derived.BigQuiet
import Derived.Deep.RegionHeld3
import Derived.IntWalk
import Derived.Deep.CutBlock
import Derived.Lib.SmallJoins
import Derived.Maps.AppendAt
import Derived.OwnWalk
import Derived.Maps.Own
import Derived.Shelf.SlMaps.Clone
import Derived.StringKeys
import Derived.Shelf.Unicode.DecodeSlow
/- Dp: URIs of documents, by plain functions on bytes. No program in sight. -/
namespace Go.Proofs.Dc
open Go.Lib

def letB (c : UInt8) : Bool := decide ((65 ≤ c.toNat ∧ c.toNat ≤ 90) ∨ (97 ≤ c.toNat ∧ c.toNat ≤ 122) ∨ c.toNat = 95)
def digB (c : UInt8) : Bool := decide (48 ≤ c.toNat ∧ c.toNat ≤ 57)
/-- may this byte stand there in a name? -/
def okAt (i : Nat) (c : UInt8) : Bool := letB c || (i != 0 && digB c)
def allOk (s : List UInt8) : Bool := (List.range s.length).all fun i => okAt i (s.getD i 0)
def nameB (s : List UInt8) : Bool := decide (s ≠ [] ∧ s ≠ [95] ∧ s.length ≤ 40) && allOk s
theorem allOk_iff {s : List UInt8} : allOk s = true ↔ ∀ i c, s[i]? = some c → okAt i c = true := by
  unfold allOk
  rw [List.all_eq_true]
  constructor
  · intro h i c hc
    have hl := (List.getElem?_eq_some_iff.1 hc).1
    have := h i (List.mem_range.2 hl)
    rw [List.getD_eq_getElem?_getD, hc] at this
    exact this
  · intro h i hi
    have hl := List.mem_range.1 hi
    rw [List.getD_eq_getElem?_getD, List.getElem?_eq_getElem hl]
    exact h i _ (List.getElem?_eq_getElem hl)
theorem name_no47 {s : List UInt8} (h : nameB s = true) : ∀ c ∈ s, c ≠ 47 := by
  intro c hc e
  subst e
  obtain ⟨i, hi⟩ := List.getElem?_of_mem hc
  unfold nameB at h
  rw [Bool.and_eq_true] at h
  have := allOk_iff.1 h.2 i 47 hi
  unfold okAt letB digB at this
  simp at this
def ahead : List UInt8 := [102, 105, 108, 101, 58, 47, 47, 47]
def dotgo : List UInt8 := [46, 103, 111]
def wordsT : List UInt8 := [98, 111, 111, 108, 32, 98, 114, 101, 97, 107, 32, 99, 111, 110, 116, 105, 110, 117, 101, 32, 101, 108, 115, 101, 32, 102, 97, 108, 115, 101, 32, 102, 108, 111, 97, 116, 54, 52, 32, 102, 111, 114, 32, 102, 117, 110, 99, 32, 105, 102, 32, 105, 109, 112, 111, 114, 116, 32, 105, 110, 116, 32, 108, 101, 110, 32, 112, 97, 99, 107, 97, 103, 101, 32, 112, 97, 110, 105, 99, 32, 112, 114, 105, 110, 116, 32, 114, 101, 116, 117, 114, 110, 32, 115, 116, 114, 105, 110, 103, 32, 115, 116, 114, 117, 99, 116, 32, 116, 114, 117, 101, 32, 116, 121, 112, 101, 32, 118, 97, 114]
def words : List (List UInt8) := fields wordsT
def resB (s : List UInt8) : Bool := words.contains s
/-- is this the directory of that text? -/
def IsDir (u d : List UInt8) : Prop := ∃ b, u = ahead ++ d ++ [47] ++ b ++ dotgo ∧ nameB d = true ∧ resB d = false ∧ nameB b = true
/-- the directory that a text names -/
def dirV (u : List UInt8) : Option (List UInt8) :=
  let r := trimPrefix u ahead
  let c := cut r [47]
  let b := trimSuffix c.2.1 dotgo
  if hasPrefix u ahead = true ∧ c.2.2 = true ∧ hasSuffix c.2.1 dotgo = true ∧ nameB c.1 = true ∧ resB c.1 = false ∧ nameB b = true then some c.1 else none
theorem occ_one {s : List UInt8} {c : UInt8} {i : Nat} : occAt s [c] i = true ↔ s[i]? = some c := by
  unfold occAt
  rw [List.isPrefixOf_iff_prefix]
  constructor
  · rintro ⟨t, ht⟩
    have := congrArg (·[0]?) ht
    simpa [List.getElem?_drop] using this.symm
  · intro h
    obtain ⟨hl, he⟩ := List.getElem?_eq_some_iff.1 h
    rw [List.drop_eq_getElem_cons hl, he]
    exact ⟨_, rfl⟩
theorem index_first47 {d t : List UInt8} (h : ∀ c ∈ d, c ≠ 47) : index (d ++ 47 :: t) [47] = (d.length : Nat) := by
  refine index_first (by simp) (occ_one.2 (by simp)) fun j hj => ?_
  cases ho : occAt (d ++ 47 :: t) [47] j with
  | false => rfl
  | true =>
    have := occ_one.1 ho
    rw [List.getElem?_append_left hj] at this
    exact absurd rfl (h 47 (List.mem_of_getElem? this))
theorem isDir_dirV {u d : List UInt8} (h : IsDir u d) : dirV u = some d := by
  obtain ⟨b, hu, h1, h2, h3⟩ := h
  have hu2 : u = ahead ++ (d ++ 47 :: (b ++ dotgo)) := by rw [hu]; simp
  have hp : hasPrefix u ahead = true := by
    unfold hasPrefix
    rw [List.isPrefixOf_iff_prefix]
    exact ⟨_, hu2.symm⟩
  have ht : trimPrefix u ahead = d ++ 47 :: (b ++ dotgo) := by
    unfold trimPrefix
    rw [if_pos hp, hu2, List.drop_left]
  have hc : cut (d ++ 47 :: (b ++ dotgo)) [47] = (d, b ++ dotgo, true) := by
    unfold cut
    rw [index_first47 (name_no47 h1), if_pos (by omega)]
    simp only [Int.toNat_natCast, List.length_singleton, List.take_left]
    have : d ++ 47 :: (b ++ dotgo) = (d ++ [47]) ++ (b ++ dotgo) := by simp
    rw [this, show d.length + 1 = (d ++ [47]).length by simp, List.drop_left]
  have hs : hasSuffix (b ++ dotgo) dotgo = true := by
    unfold hasSuffix
    rw [List.isSuffixOf_iff_suffix]
    exact ⟨_, rfl⟩
  have hb : trimSuffix (b ++ dotgo) dotgo = b := by
    unfold trimSuffix
    rw [if_pos hs, List.length_append, Nat.add_sub_cancel, List.take_left]
  unfold dirV
  simp only
  rw [ht, hc]
  simp only [hb]
  rw [if_pos ⟨hp, trivial, hs, h1, h2, h3⟩]
theorem dirV_isDir {u d : List UInt8} (h : dirV u = some d) : IsDir u d := by
  unfold dirV at h
  simp only at h
  split at h
  · rename_i hh
    obtain ⟨hp, hc, hs, h1, h2, h3⟩ := hh
    obtain rfl := Option.some.inj h
    refine ⟨_, ?_, h1, h2, h3⟩
    unfold hasPrefix at hp
    rw [List.isPrefixOf_iff_prefix] at hp
    obtain ⟨t, rfl⟩ := hp
    have ht : trimPrefix (ahead ++ t) ahead = t := by
      unfold trimPrefix
      rw [if_pos (by unfold hasPrefix; rw [List.isPrefixOf_iff_prefix]; exact ⟨t, rfl⟩), List.drop_left]
    rw [ht] at hc hs ⊢
    unfold cut at hc hs ⊢
    split at hc
    · rename_i hi
      rw [if_pos hi] at hs
      rw [if_pos hi]
      simp only at hs ⊢
      obtain ⟨i, hi2⟩ : ∃ i : Nat, index t [47] = i := ⟨(index t [47]).toNat, by omega⟩
      rw [hi2] at hs ⊢
      simp only [Int.toNat_natCast, List.length_singleton] at hs ⊢
      have h47 : t[i]? = some 47 := by
        rcases index_spec t [47] with ⟨g, _⟩ | ⟨j, g1, _, g3, _⟩
        · omega
        · obtain rfl : j = i := by omega
          exact occ_one.1 g3
      have hsplit : t = t.take i ++ [47] ++ t.drop (i + 1) := by
        obtain ⟨hl, he⟩ := List.getElem?_eq_some_iff.1 h47
        conv => lhs; rw [← List.take_append_drop i t, List.drop_eq_getElem_cons hl, he]
        simp
      have hb : t.drop (i + 1) = trimSuffix (t.drop (i + 1)) dotgo ++ dotgo := by
        unfold trimSuffix
        rw [if_pos hs]
        unfold hasSuffix at hs
        rw [List.isSuffixOf_iff_suffix] at hs
        obtain ⟨q, hq⟩ := hs
        rw [← hq, List.length_append, Nat.add_sub_cancel, List.take_left]
      conv => lhs; rw [hsplit, hb]
      simp [List.append_assoc]
    · cases hc
  · cases h
theorem dirV_none {u : List UInt8} (h : ∀ d, ¬ IsDir u d) : dirV u = none := by
  cases hd : dirV u with
  | none => rfl
  | some d => exact absurd (dirV_isDir hd) (h d)
/-- the place that the document looks for -/
theorem dir_at {u : List UInt8} {s : List UInt8} (hu : u = ahead ++ s ++ dotgo) (i : Nat) (hi : s[i]? = some 47) (h1 : nameB (s.take i) = true) (h2 : resB (s.take i) = false) (h3 : nameB (s.drop (i + 1)) = true) : dirV u = some (s.take i) := by
  refine isDir_dirV ⟨s.drop (i + 1), ?_, h1, h2, h3⟩
  obtain ⟨hl, he⟩ := List.getElem?_eq_some_iff.1 hi
  have hsplit : s = s.take i ++ [47] ++ s.drop (i + 1) := by
    conv => lhs; rw [← List.take_append_drop i s, List.drop_eq_getElem_cons hl, he]
    simp
  rw [hu]
  conv => lhs; rw [hsplit]
  simp [List.append_assoc]
theorem dir_no {u : List UInt8} {s : List UInt8} (hu : u = ahead ++ s ++ dotgo) (h : ∀ i, s[i]? = some 47 → ¬ (nameB (s.take i) = true ∧ resB (s.take i) = false ∧ nameB (s.drop (i + 1)) = true)) : dirV u = none := by
  refine dirV_none fun d hd => ?_
  obtain ⟨b, hu2, h1, h2, h3⟩ := hd
  have hs : s = d ++ [47] ++ b := by
    have e : ahead ++ s ++ dotgo = ahead ++ (d ++ [47] ++ b) ++ dotgo := by rw [← hu, hu2]; simp [List.append_assoc]
    exact List.append_cancel_left (List.append_cancel_right e)
  refine h d.length (by rw [hs]; simp) ⟨?_, ?_, ?_⟩
  · rw [hs, List.append_assoc, List.take_left]; exact h1
  · rw [hs, List.append_assoc, List.take_left]; exact h2
  · have : (d ++ [47] ++ b).drop (d.length + 1) = b := by
      rw [show d.length + 1 = (d ++ [47]).length by simp, List.drop_left]
    rw [hs, this]; exact h3
end Go.Proofs.Dc
/- Dq: Open documents as a list, in the order of a map's keys. No program in sight. -/
namespace Go.Proofs.Dc
open Go.Lib

structure Doc where
  uri : List UInt8
  text : List UInt8
  ver : Int
deriving DecidableEq
def docD (d : Doc) : DataW Unit := .agg [.lit (.string d.uri), .lit (.string d.text), .lit (.int .i64 d.ver)]
/-- how an element of the map reads -/
def docEl (v : Value) : Option (DataW Unit × List MemPlace) :=
  match v with
  | .agg a => match a.toList with
    | [.string u, .string t, .int .i64 n] => some (docD ⟨u.data.toList, t.data.toList, n⟩, [])
    | _ => none
  | _ => none
def docVal (d : Doc) : Value := .agg #[.string ⟨d.uri.toArray⟩, .string ⟨d.text.toArray⟩, .int .i64 d.ver]
theorem docEl_mk (u t : ByteArray) (n : Int) : docEl (.agg #[.string u, .string t, .int .i64 n]) = some (docD ⟨u.data.toList, t.data.toList, n⟩, []) := rfl
theorem docEl_inv {v : Value} {d : Doc} {ps : List MemPlace} (h : docEl v = some (docD d, ps)) : v = docVal d := by
  unfold docEl at h
  split at h
  · rename_i a
    split at h
    · rename_i u t n he
      simp only [docD, Option.some.injEq, Prod.mk.injEq, DataW.agg.injEq, List.cons.injEq, DataW.lit.injEq, Lit.string.injEq, Lit.int.injEq, true_and, and_true] at h
      obtain ⟨⟨h1, h2, h3⟩, _⟩ := h
      have ha : a = #[.string u, .string t, .int .i64 n] := Array.toList_inj.1 he
      rw [ha, docVal, ← h1, ← h2, ← h3]
    · cases h
  · cases h
def insD (x : Doc) : List Doc → List Doc
  | [] => [x]
  | y :: r => if bytesBefore x.uri y.uri then x :: y :: r else y :: insD x r
def without (u : List UInt8) (L : List Doc) : List Doc := L.filter fun p => !(p.uri == u)
def putD (d : Doc) (L : List Doc) : List Doc := insD d (without d.uri L)
def getD? (L : List Doc) (u : List UInt8) : Option Doc := L.find? fun p => p.uri == u
def entry (d : Doc) : Lit × DataW Unit := (.string d.uri, docD d)
/-- the list as a map's datum -/
def DD (L : List Doc) : DataW Unit := .map (L.map entry)
theorem ins_entry (x : Doc) : ∀ L : List Doc, DataW.insert (entry x) (L.map entry) = (insD x L).map entry
  | [] => rfl
  | y :: r => by
    rw [List.map_cons, DataW.insert, insD]
    show (if bytesBefore x.uri y.uri = true then _ else _) = _
    split
    · rfl
    · rw [ins_entry x r]; rfl
theorem without_entry (u : List UInt8) (L : List Doc) : (L.map entry).filter (fun p => !p.1.sameKey (.string u)) = (without u L).map entry := by
  unfold without
  rw [List.filter_map]
  rfl
theorem DD_put (L : List Doc) (d : Doc) : (DD L).put (.string d.uri) (docD d) = DD (putD d L) := by
  show DataW.map (DataW.insert (entry d) ((L.map entry).filter _)) = _
  rw [without_entry, ins_entry]
  rfl
theorem DD_del (L : List Doc) (u : List UInt8) : (DD L).del (.string u) = DD (without u L) := by
  show DataW.map ((L.map entry).filter _) = _
  rw [without_entry]
  rfl
theorem any_find {α : Type} (p : α → Bool) : ∀ l : List α, l.any p = (l.find? p).isSome
  | [] => rfl
  | a :: t => by
    rw [List.any_cons, List.find?_cons]
    cases h : p a with
    | true => rfl
    | false => rw [Bool.false_or]; exact any_find p t
theorem DD_has (L : List Doc) (u : List UInt8) : Maps.has (DD L) (.string u) = (getD? L u).isSome := by
  show (L.map entry).any _ = _
  rw [List.any_map]
  exact any_find _ L
theorem DD_at (L : List Doc) (u : List UInt8) (z : DataW Unit) : (DD L).atKey (.string u) z = match getD? L u with | some d => docD d | none => z := by
  unfold DD DataW.atKey
  simp only
  rw [List.find?_map]
  unfold getD?
  have e : ((fun p : Lit × DataW Unit => p.1.sameKey (.string u)) ∘ entry) = fun p : Doc => p.uri == u := rfl
  rw [e]
  cases L.find? fun p => p.uri == u <;> rfl
theorem DD_size (L : List Doc) : Maps.size (DD L) = L.length := by
  show (L.map entry).length = _
  rw [List.length_map]
theorem find_ins {x : Doc} {u : List UInt8} : ∀ {L : List Doc}, (x.uri == u) = false → (insD x L).find? (fun p => p.uri == u) = L.find? fun p => p.uri == u
  | [], h => by rw [insD, List.find?_cons, h]
  | y :: r, h => by
    rw [insD]
    split
    · rw [List.find?_cons, h]
    · rw [List.find?_cons, List.find?_cons, find_ins h]
theorem find_ins_same {x : Doc} : ∀ {L : List Doc}, (∀ p ∈ L, (p.uri == x.uri) = false) → (insD x L).find? (fun p => p.uri == x.uri) = some x
  | [], _ => by rw [insD, List.find?_cons]; simp
  | y :: r, h => by
    rw [insD]
    split
    · rw [List.find?_cons]; simp
    · rw [List.find?_cons, h y List.mem_cons_self, find_ins_same fun p hp => h p (List.mem_cons_of_mem _ hp)]
theorem get_put (L : List Doc) (d : Doc) : getD? (putD d L) d.uri = some d := by
  unfold getD? putD
  refine find_ins_same fun p hp => ?_
  have := (List.mem_filter.1 hp).2
  simpa using this
theorem get_put_other (L : List Doc) (d : Doc) {u : List UInt8} (h : u ≠ d.uri) : getD? (putD d L) u = getD? L u := by
  unfold getD? putD without
  rw [find_ins (by simpa using fun e => h e.symm)]
  induction L with
  | nil => rfl
  | cons y r ih =>
    rw [List.filter_cons]
    by_cases hy : y.uri = d.uri
    · rw [if_neg (by simpa using hy), ih, List.find?_cons]
      have : (y.uri == u) = false := by rw [hy]; simpa using fun e => h e.symm
      rw [this]
    · rw [if_pos (by simpa using hy), List.find?_cons, List.find?_cons, ih]
theorem length_ins (x : Doc) : ∀ L : List Doc, (insD x L).length = L.length + 1
  | [] => rfl
  | y :: r => by
    rw [insD]
    split
    · rfl
    · rw [List.length_cons, length_ins x r, List.length_cons]
theorem mem_ins {x y : Doc} : ∀ {L : List Doc}, y ∈ insD x L → y = x ∨ y ∈ L
  | [], h => by rw [insD, List.mem_singleton] at h; exact .inl h
  | z :: r, h => by
    rw [insD] at h
    split at h
    · rcases List.mem_cons.1 h with h | h
      · exact .inl h
      · exact .inr h
    · rcases List.mem_cons.1 h with h | h
      · exact .inr (h ▸ List.mem_cons_self)
      · rcases mem_ins h with h | h
        · exact .inl h
        · exact .inr (List.mem_cons_of_mem _ h)
theorem mem_put {x y : Doc} {L : List Doc} (h : y ∈ putD x L) : y = x ∨ y ∈ L := by
  rcases mem_ins h with h | h
  · exact .inl h
  · exact .inr (List.mem_filter.1 h).1
theorem get_mem {L : List Doc} {u : List UInt8} {d : Doc} (h : getD? L u = some d) : d ∈ L ∧ d.uri = u := by
  unfold getD? at h
  exact ⟨List.mem_of_find?_eq_some h, by simpa using List.find?_some h⟩
end Go.Proofs.Dc
/- D13: Documents in the order of their URIs, by plain functions. No program in sight. -/
namespace Go.Proofs.Dc
open Go.Lib

theorem bb_irrefl : ∀ a : List UInt8, bytesBefore a a = false
  | [] => rfl
  | a :: r => by rw [bytesBefore, bb_irrefl r]; simp
theorem bb_cons {a b : UInt8} {r s : List UInt8} : bytesBefore (a :: r) (b :: s) = true ↔ a < b ∨ (a = b ∧ bytesBefore r s = true) := by
  rw [bytesBefore]; simp
theorem bb_trans : ∀ {a b c : List UInt8}, bytesBefore a b = true → bytesBefore b c = true → bytesBefore a c = true
  | [], [], _, h, _ => by cases h
  | [], _ :: _, [], _, h => by cases h
  | [], _ :: _, _ :: _, _, _ => rfl
  | _ :: _, [], _, h, _ => by cases h
  | _ :: _, _ :: _, [], _, h => by cases h
  | a :: r, b :: s, c :: t, h1, h2 => by
    rw [bb_cons] at h1 h2 ⊢
    rcases h1 with h1 | ⟨rfl, h1⟩
    · rcases h2 with h2 | ⟨rfl, h2⟩
      · exact .inl (UInt8.lt_trans h1 h2)
      · exact .inl h1
    · rcases h2 with h2 | ⟨rfl, h2⟩
      · exact .inl h2
      · exact .inr ⟨rfl, bb_trans h1 h2⟩
theorem bb_total : ∀ {a b : List UInt8}, bytesBefore a b = false → bytesBefore b a = false → a = b
  | [], [], _, _ => rfl
  | [], _ :: _, h, _ => by cases h
  | _ :: _, [], _, h => by cases h
  | a :: r, b :: s, h1, h2 => by
    have k1 : ¬ (a < b ∨ (a = b ∧ bytesBefore r s = true)) := fun h => by rw [bb_cons.2 h] at h1; cases h1
    have k2 : ¬ (b < a ∨ (b = a ∧ bytesBefore s r = true)) := fun h => by rw [bb_cons.2 h] at h2; cases h2
    have hab : a = b := by
      have n1 : ¬ a < b := fun h => k1 (.inl h)
      have n2 : ¬ b < a := fun h => k2 (.inl h)
      exact UInt8.le_antisymm (UInt8.not_lt.1 n2) (UInt8.not_lt.1 n1)
    subst hab
    have e1 : bytesBefore r s = false := by
      cases h : bytesBefore r s with
      | false => rfl
      | true => exact absurd (.inr ⟨rfl, h⟩) k1
    have e2 : bytesBefore s r = false := by
      cases h : bytesBefore s r with
      | false => rfl
      | true => exact absurd (.inr ⟨rfl, h⟩) k2
    rw [bb_total e1 e2]
theorem bb_asymm {a b : List UInt8} (h : bytesBefore a b = true) : bytesBefore b a = false := by
  cases h2 : bytesBefore b a with
  | false => rfl
  | true => have := bb_trans h h2; rw [bb_irrefl] at this; cases this
/-- in the order of their URIs, no URI twice -/
def Ord (L : List Doc) : Prop := L.Pairwise fun x y => bytesBefore x.uri y.uri = true
theorem Ord.nil : Ord [] := List.Pairwise.nil
theorem Ord.without {L : List Doc} (h : Ord L) (u : List UInt8) : Ord (without u L) := List.Pairwise.filter _ h
theorem mem_ins_iff {x y : Doc} : ∀ {L : List Doc}, y ∈ insD x L ↔ y = x ∨ y ∈ L
  | [] => by simp [insD]
  | z :: r => by
    rw [insD]
    split
    · simp
    · rw [List.mem_cons, mem_ins_iff, List.mem_cons]
      constructor
      · rintro (h | h | h)
        · exact .inr (.inl h)
        · exact .inl h
        · exact .inr (.inr h)
      · rintro (h | h | h)
        · exact .inr (.inl h)
        · exact .inl h
        · exact .inr (.inr h)
theorem Ord.ins {x : Doc} : ∀ {L : List Doc}, Ord L → (∀ y ∈ L, y.uri ≠ x.uri) → Ord (insD x L)
  | [], _, _ => List.pairwise_singleton _ _
  | y :: r, h, hn => by
    obtain ⟨h1, h2⟩ := List.pairwise_cons.1 h
    rw [insD]
    split
    · rename_i hb
      refine List.pairwise_cons.2 ⟨fun z hz => ?_, h⟩
      rcases List.mem_cons.1 hz with rfl | hz
      · exact hb
      · exact bb_trans hb (h1 z hz)
    · rename_i hb
      refine List.pairwise_cons.2 ⟨fun z hz => ?_, Ord.ins h2 fun z hz => hn z (List.mem_cons_of_mem _ hz)⟩
      rcases mem_ins_iff.1 hz with rfl | hz
      · cases hc : bytesBefore y.uri z.uri with
        | true => rfl
        | false => exact absurd (bb_total hc (by simpa using hb)) (hn y List.mem_cons_self)
      · exact h1 z hz
theorem Ord.put {L : List Doc} (h : Ord L) (d : Doc) : Ord (putD d L) :=
  Ord.ins (h.without d.uri) fun y hy => by simpa using (List.mem_filter.1 hy).2
theorem Ord.inj {L : List Doc} (h : Ord L) : ∀ {a b : Doc}, a ∈ L → b ∈ L → a.uri = b.uri → a = b := by
  induction L with
  | nil => intro a b ha; cases ha
  | cons x r ih =>
    obtain ⟨h1, h2⟩ := List.pairwise_cons.1 h
    intro a b ha hb e
    rcases List.mem_cons.1 ha with ha | ha
    · rcases List.mem_cons.1 hb with hb | hb
      · rw [ha, hb]
      · have := h1 b hb
        rw [← ha, e, bb_irrefl] at this
        cases this
    · rcases List.mem_cons.1 hb with hb | hb
      · have := h1 a ha
        rw [← hb, e, bb_irrefl] at this
        cases this
      · exact ih h2 ha hb e
theorem Ord.get {L : List Doc} (h : Ord L) {d : Doc} (hd : d ∈ L) : getD? L d.uri = some d := by
  cases hg : getD? L d.uri with
  | none => exact absurd hg (by unfold getD?; rw [List.find?_eq_none]; exact fun hh => by have := hh d hd; simp at this)
  | some e => obtain ⟨h1, h2⟩ := get_mem hg; rw [h.inj h1 hd h2]
theorem strKeys_DD (L : List Doc) : strKeys (DD L) = L.map (·.uri) := by
  show (L.map entry).map _ = _
  rw [List.map_map]
  rfl
/-- documents that have come, by their keys -/
theorem perm_of_keys {ds L : List Doc} (hO : Ord L) (hm : ∀ d ∈ ds, d ∈ L) (hp : (ds.map (·.uri)).Perm (strKeys (DD L))) : ds.Perm L := by
  rw [strKeys_DD] at hp
  have nodupL : (L.map (·.uri)).Nodup := List.pairwise_map.2 (hO.imp fun {a b} h e => by rw [e, bb_irrefl] at h; cases h)
  have nodupD : (ds.map (·.uri)).Nodup := (hp.nodup_iff).2 nodupL
  have n1 : ds.Nodup := (List.pairwise_map.1 nodupD).imp fun {a b} h e => h (by rw [e])
  have n2 : L.Nodup := (List.pairwise_map.1 nodupL).imp fun {a b} h e => h (by rw [e])
  refine (List.perm_ext_iff_of_nodup n1 n2).2 fun d => ⟨hm d, fun hd => ?_⟩
  have hu : d.uri ∈ ds.map (·.uri) := hp.mem_iff.2 (List.mem_map.2 ⟨d, hd, rfl⟩)
  obtain ⟨e, he, heu⟩ := List.mem_map.1 hu
  rw [← hO.inj (hm e he) hd heu]
  exact he
theorem sorted_eq {ds L : List Doc} (hO : Ord L) (hp : ds.Perm L) (hs : ds.Pairwise fun x y => bytesBefore y.uri x.uri = false) : ds = L := by
  refine List.Perm.eq_of_pairwise (le := fun x y => bytesBefore y.uri x.uri = false) (fun a b ha hb h1 h2 => ?_) hs (hO.imp fun {a b} h => bb_asymm h) hp
  exact hO.inj (hp.mem_iff.1 ha) hb (bb_total h2 h1)
end Go.Proofs.Dc
/- D1: The walks of docs.letter, name, reserved, Dir. Printed by gen_d1.py. -/
namespace Go.Proofs.Dc
open Go.RowKit Go.Proofs Go.Lib

theorem gb_below {w w' : World} {row : Option Nat} (h : Below w.heap.size w w') : w.grownBy w' row := ⟨h.os, h.tape, h.output, h.size, fun k hk _ => h.block k hk⟩
theorem ret_bool {a b : Bool} (h : a = b) : Ending.returned (.bool a) = .returned (.bool b) := by rw [h]
theorem below_draws {w wr : World} (hB : Below w.heap.size w wr) (n : Nat) : Below w.heap.size w (wr.drewN n) := ⟨hB.os, hB.tape, hB.output, hB.size, hB.block⟩

set_option maxRecDepth 100000 in
theorem letter_any (c : UInt8) (w : World) : Calls Tryz.prog 85 #[.int .u8 (c.toNat : Int)] w fun e w' => e = .returned (.bool (letB c)) ∧ w = w' := by
  have hc : (c.toNat < 65) ∨ (65 ≤ c.toNat ∧ c.toNat ≤ 90) ∨ (91 ≤ c.toNat ∧ c.toNat ≤ 96 ∧ c.toNat ≠ 95) ∨ (c.toNat = 95) ∨ (97 ≤ c.toNat ∧ c.toNat ≤ 122) ∨ (123 ≤ c.toNat) := by have := c.toNat_lt; omega
  rcases hc with h | h | h | h | h | h
  · have hv : letB c = false := by unfold letB; exact decide_eq_false (by omega)
    have u1 : decide ((65 : Int) ≤ (c.toNat : Int)) = false := decide_eq_false (by omega)
    have u2 : decide ((c.toNat : Int) ≤ 90) = true := decide_eq_true (by omega)
    have u3 : decide ((97 : Int) ≤ (c.toNat : Int)) = false := decide_eq_false (by omega)
    have u4 : decide ((c.toNat : Int) ≤ 122) = true := decide_eq_true (by omega)
    have u5 : ((c.toNat : Int) == 95) = false := beq_eq_false_iff_ne.2 (by omega)
    rw [hv]
    clear h hv
    go_enter Tryz.func85, Tryz.ntmps85
    go_wp2
    go_ret
    exact ⟨rfl, rfl⟩
  · have hv : letB c = true := by unfold letB; exact decide_eq_true (by omega)
    have u1 : decide ((65 : Int) ≤ (c.toNat : Int)) = true := decide_eq_true (by omega)
    have u2 : decide ((c.toNat : Int) ≤ 90) = true := decide_eq_true (by omega)
    have u3 : decide ((97 : Int) ≤ (c.toNat : Int)) = false := decide_eq_false (by omega)
    have u4 : decide ((c.toNat : Int) ≤ 122) = true := decide_eq_true (by omega)
    have u5 : ((c.toNat : Int) == 95) = false := beq_eq_false_iff_ne.2 (by omega)
    rw [hv]
    clear h hv
    go_enter Tryz.func85, Tryz.ntmps85
    go_wp2
    go_ret
    exact ⟨rfl, rfl⟩
  · have hv : letB c = false := by unfold letB; exact decide_eq_false (by omega)
    have u1 : decide ((65 : Int) ≤ (c.toNat : Int)) = true := decide_eq_true (by omega)
    have u2 : decide ((c.toNat : Int) ≤ 90) = false := decide_eq_false (by omega)
    have u3 : decide ((97 : Int) ≤ (c.toNat : Int)) = false := decide_eq_false (by omega)
    have u4 : decide ((c.toNat : Int) ≤ 122) = true := decide_eq_true (by omega)
    have u5 : ((c.toNat : Int) == 95) = false := beq_eq_false_iff_ne.2 (by omega)
    rw [hv]
    clear h hv
    go_enter Tryz.func85, Tryz.ntmps85
    go_wp2
    go_ret
    exact ⟨rfl, rfl⟩
  · have hv : letB c = true := by unfold letB; exact decide_eq_true (by omega)
    have u1 : decide ((65 : Int) ≤ (c.toNat : Int)) = true := decide_eq_true (by omega)
    have u2 : decide ((c.toNat : Int) ≤ 90) = false := decide_eq_false (by omega)
    have u3 : decide ((97 : Int) ≤ (c.toNat : Int)) = false := decide_eq_false (by omega)
    have u4 : decide ((c.toNat : Int) ≤ 122) = true := decide_eq_true (by omega)
    have u5 : ((c.toNat : Int) == 95) = true := beq_iff_eq.2 (by omega)
    rw [hv]
    clear h hv
    go_enter Tryz.func85, Tryz.ntmps85
    go_wp2
    go_ret
    exact ⟨rfl, rfl⟩
  · have hv : letB c = true := by unfold letB; exact decide_eq_true (by omega)
    have u1 : decide ((65 : Int) ≤ (c.toNat : Int)) = true := decide_eq_true (by omega)
    have u2 : decide ((c.toNat : Int) ≤ 90) = false := decide_eq_false (by omega)
    have u3 : decide ((97 : Int) ≤ (c.toNat : Int)) = true := decide_eq_true (by omega)
    have u4 : decide ((c.toNat : Int) ≤ 122) = true := decide_eq_true (by omega)
    have u5 : ((c.toNat : Int) == 95) = false := beq_eq_false_iff_ne.2 (by omega)
    rw [hv]
    clear h hv
    go_enter Tryz.func85, Tryz.ntmps85
    go_wp2
    go_ret
    exact ⟨rfl, rfl⟩
  · have hv : letB c = false := by unfold letB; exact decide_eq_false (by omega)
    have u1 : decide ((65 : Int) ≤ (c.toNat : Int)) = true := decide_eq_true (by omega)
    have u2 : decide ((c.toNat : Int) ≤ 90) = false := decide_eq_false (by omega)
    have u3 : decide ((97 : Int) ≤ (c.toNat : Int)) = true := decide_eq_true (by omega)
    have u4 : decide ((c.toNat : Int) ≤ 122) = false := decide_eq_false (by omega)
    have u5 : ((c.toNat : Int) == 95) = false := beq_eq_false_iff_ne.2 (by omega)
    rw [hv]
    clear h hv
    go_enter Tryz.func85, Tryz.ntmps85
    go_wp2
    go_ret
    exact ⟨rfl, rfl⟩
theorem list_get (s : ByteArray) (i : Nat) (h : i < s.size) : s.data.toList[i]? = some s[i] := by
  rw [List.getElem?_eq_getElem (by rw [← Lib.size_eq]; exact h)]
  rfl
theorem empty_iff (s : ByteArray) : s.toList.isEmpty = decide (s.data.toList = []) := by
  rw [ByteArray.toList_eq]
  cases s.data.toList <;> simp
set_option maxRecDepth 100000 in
set_option maxHeartbeats 2000000 in
theorem name_any (s : ByteArray) (w : World) (hs : s.size ≤ 140737488355328) : Calls Tryz.prog 48 #[.string s] w fun e w' => e = .returned (.bool (nameB s.data.toList)) ∧ w = w' := by
  obtain ⟨N, hN⟩ : ∃ N, nameB s.data.toList = N := ⟨_, rfl⟩
  rw [hN]
  unfold nameB at hN
  have hsl := Lib.size_eq s
  by_cases h0 : s.data.toList = []
  · have u0 : s.toList.isEmpty = true := by rw [empty_iff]; exact decide_eq_true h0
    have hn : N = false := by rw [← hN, decide_eq_false (by rintro ⟨h, _⟩; exact h h0)]; rfl
    subst hn
    clear hN h0 hsl
    go_enter Tryz.func48, Tryz.ntmps48
    go_wp2
    go_ret
    exact ⟨rfl, rfl⟩
  have u0 : s.toList.isEmpty = false := by rw [empty_iff]; exact decide_eq_false h0
  by_cases h1 : s.data.toList = [95]
  · have u1 : (s.toList == [95]) = true := by rw [ByteArray.toList_eq, h1]; rfl
    have hn : N = false := by rw [← hN, decide_eq_false (by rintro ⟨_, h, _⟩; exact h h1)]; rfl
    subst hn
    clear hN h0 h1 hsl
    go_enter Tryz.func48, Tryz.ntmps48
    go_wp2
    go_ret
    exact ⟨rfl, rfl⟩
  have u1 : (s.toList == [95]) = false := by rw [ByteArray.toList_eq]; simpa using h1
  by_cases h2 : (40 : Int) < (s.size : Int)
  · have hn : N = false := by rw [← hN, decide_eq_false (by rintro ⟨_, _, h⟩; omega)]; rfl
    subst hn
    clear hN h0 h1 hsl
    go_enter Tryz.func48, Tryz.ntmps48
    go_wp2
    go_ret
    exact ⟨rfl, rfl⟩
  rw [decide_eq_true ⟨h0, h1, by omega⟩, Bool.true_and] at hN
  have bad : ∀ (k : Nat) (hk : k < s.size), okAt k s[k] = false → N = false := fun k hk h => by
    rw [← hN]
    cases ha : allOk s.data.toList with
    | false => rfl
    | true =>
      have := allOk_iff.1 ha k _ (list_get s k hk)
      rw [h] at this
      cases this
  have good : (∀ j c, j < s.size → s.data.toList[j]? = some c → okAt j c = true) → N = true := fun h => by
    rw [← hN]
    exact allOk_iff.2 fun i c hc => h i c (by rw [hsl]; exact (List.getElem?_eq_some_iff.1 hc).1) hc
  have BAD := Lib.hid bad
  have GOOD := Lib.hid good
  clear bad good hN h0 h1 hsl
  go_enter Tryz.func48, Tryz.ntmps48
  go_wp2
  go_loop [17] (fun v => ∃ k : Nat, v = .int .i64 k ∧ k ≤ s.size ∧ ∀ j c, j < k → s.data.toList[j]? = some c → okAt j c = true) (fun v => s.size - (RowKit.intOf v).toNat)
  case atStart => exact ⟨0, rfl, Nat.zero_le _, fun j c h => by omega⟩
  case round =>
    obtain ⟨k, rfl, hk, hg⟩ := hrel
    have HG := Lib.hid hg
    clear hg
    by_cases hkn : (k : Int) < (s.size : Int)
    · have hks : k < s.size := by omega
      have hl := letter_any s[k] w
      have hnext : okAt k s[k] = true → ∀ j c, j < k + 1 → s.data.toList[j]? = some c → okAt j c = true := fun h j c hj hc => by
        by_cases e : j = k
        · subst e
          rw [list_get s j hks] at hc
          rw [← Option.some.inj hc]; exact h
        · exact HG.out j c (by omega) hc
      have hbad := BAD.out k hks
      unfold okAt at hnext hbad
      obtain ⟨L, hL⟩ : ∃ L, letB s[k] = L := ⟨_, rfl⟩
      rw [hL] at hl hnext hbad
      clear hL
      cases L with
      | true =>
        have HN := Lib.hid (hnext rfl)
        clear hnext hbad
        go_wp2_with (first | (go_at_call 85; refine hl.mono ?_; rintro e w1 ⟨rfl, hw⟩; subst w1))
        go_round
        case rel => exact ⟨k + 1, by go_num, by omega, HN.out⟩
        case measure => simp [RowKit.intOf]; omega
      | false =>
        by_cases hk0 : k = 0
        · have hn := hbad (by simp [hk0])
          have u2 : ((k : Int) == 0) = true := by rw [hk0]; rfl
          subst hn
          clear hnext hbad hk0
          go_wp2_with (first | (go_at_call 85; refine hl.mono ?_; rintro e w1 ⟨rfl, hw⟩; subst w1))
          go_ret
          exact ⟨rfl, rfl⟩
        · have u2 : ((k : Int) == 0) = false := by simpa using hk0
          have hk1 : (k != 0) = true := by simpa using hk0
          rw [hk1] at hnext hbad
          by_cases h48 : s[k].toNat < 48
          · have u3 : decide ((s[k].toNat : Int) < 48) = true := decide_eq_true (by omega)
            have hn := hbad (by unfold digB; rw [decide_eq_false (by omega)]; rfl)
            subst hn
            clear hnext hbad hk0 h48
            go_wp2_with (first | (go_at_call 85; refine hl.mono ?_; rintro e w1 ⟨rfl, hw⟩; subst w1))
            go_ret
            exact ⟨rfl, rfl⟩
          · have u3 : decide ((s[k].toNat : Int) < 48) = false := decide_eq_false (by omega)
            by_cases h57 : 57 < s[k].toNat
            · have u4 : decide ((57 : Int) < (s[k].toNat : Int)) = true := decide_eq_true (by omega)
              have hn := hbad (by unfold digB; rw [decide_eq_false (by omega)]; rfl)
              subst hn
              clear hnext hbad hk0 h48 h57
              go_wp2_with (first | (go_at_call 85; refine hl.mono ?_; rintro e w1 ⟨rfl, hw⟩; subst w1))
              go_ret
              exact ⟨rfl, rfl⟩
            · have u4 : decide ((57 : Int) < (s[k].toNat : Int)) = false := decide_eq_false (by omega)
              have HN := Lib.hid (hnext (by unfold digB; rw [decide_eq_true ⟨by omega, by omega⟩]; rfl))
              clear hnext hbad hk0 h48 h57
              go_wp2_with (first | (go_at_call 85; refine hl.mono ?_; rintro e w1 ⟨rfl, hw⟩; subst w1))
              go_round
              case rel => exact ⟨k + 1, by go_num, by omega, HN.out⟩
              case measure => simp [RowKit.intOf]; omega
    · have hn := GOOD.out fun j c hj hc => HG.out j c (by omega) hc
      subst hn
      go_wp2
      go_ret
      exact ⟨rfl, rfl⟩
/-- what the library's tables hold -/
def MaxV (w : World) : Prop := ∃ m : Int, w.cell? ⟨1, 0, none⟩ = some (.int .i64 m)
def SpaceV (w : World) : Prop := Lib.TabIs Tryz.prog w "strings.asciiSpace" .u8 Lib.asciiSpaceTab
structure Tabs (w : World) : Prop where
  mx : MaxV w
  sp : SpaceV w
  u8 : Lib.Utf8Tabs 3 4 w
  lo : 5 < w.heap.size
theorem wordsB_ascii : ∀ (j : Nat) b, wordsT[j]? = some b → b.toNat < 128 := by
  have h : ∀ b ∈ wordsT, b.toNat < 128 := by decide
  exact fun j b hb => h b (List.mem_of_getElem? hb)
theorem words_len : words.length = 21 := by decide +kernel
theorem containsS_words (x : ByteArray) : Lib.containsS (words.map fun l => (⟨l.toArray⟩ : ByteArray)) x = resB x.data.toList := by
  unfold resB
  generalize words = W
  rw [Bool.eq_iff_iff, Lib.containsS_iff, List.contains_iff_mem, List.mem_map]
  constructor
  · rintro ⟨l, hl, rfl⟩; exact hl
  · exact fun h => ⟨_, h, rfl⟩
def wordsB : ByteArray := ⟨#[98, 111, 111, 108, 32, 98, 114, 101, 97, 107, 32, 99, 111, 110, 116, 105, 110, 117, 101, 32, 101, 108, 115, 101, 32, 102, 97, 108, 115, 101, 32, 102, 108, 111, 97, 116, 54, 52, 32, 102, 111, 114, 32, 102, 117, 110, 99, 32, 105, 102, 32, 105, 109, 112, 111, 114, 116, 32, 105, 110, 116, 32, 108, 101, 110, 32, 112, 97, 99, 107, 97, 103, 101, 32, 112, 97, 110, 105, 99, 32, 112, 114, 105, 110, 116, 32, 114, 101, 116, 117, 114, 110, 32, 115, 116, 114, 105, 110, 103, 32, 115, 116, 114, 117, 99, 116, 32, 116, 114, 117, 101, 32, 116, 121, 112, 101, 32, 118, 97, 114]⟩
def wordCells : Array Value := (words.map fun l => Value.string ⟨l.toArray⟩).toArray
theorem alloc_new (w : World) (o : Obj) (k : Nat) (h : k = w.heap.size) : (w.alloc o).heap[k]? = some o := by rw [h]; exact heap_alloc_new w o
theorem cell_of_row (w : World) (b i : Nat) (c : Array Value) (t : TypeId) (z : Nat × Nat) (h : w.heap[b]? = some (.cells c t z)) : w.cell? ⟨b, i, none⟩ = c[i]? := by
  simp [World.cell?, h]
theorem fields_words (w : World) (hT : SpaceV w) : Calls Tryz.prog 87 #[.string wordsB] w fun e w' => e = .returned (.slice (some ⟨w.heap.size, 0, none⟩) 21 21) ∧ w' = w.alloc (.cells wordCells 9) := by
  have h := Tryz.strings_Fields wordsB w (by decide +kernel) wordsB_ascii hT
  have e : (Lib.fields wordsB.data.toList).length = 21 := words_len
  rw [e] at h
  exact h
theorem contains_words (w : World) (g : Nat) (x : ByteArray) (h : w.heap[g]? = some (.cells wordCells 9 (0, 0))) : Calls Tryz.prog 86 #[.slice (some ⟨g, 0, none⟩) 21 21, .string x] w fun e w' => e = .returned (.bool (resB x.data.toList)) ∧ w' = w := by
  have hlen : (words.map fun l => (⟨l.toArray⟩ : ByteArray)).length = 21 := by rw [List.length_map, words_len]
  have hc := Tryz.slices_Contains_string g 0 21 21 (words.map fun l => (⟨l.toArray⟩ : ByteArray)) x w (by omega) (by decide) fun j hj => by
    rw [cell_of_row w g (0 + j) _ _ _ h, Nat.zero_add]
    unfold wordCells
    rw [List.getElem?_toArray, List.getElem?_map, List.getD_eq_getElem?_getD, List.getElem?_map]
    rw [hlen] at hj
    rw [List.getElem?_eq_getElem (by rw [words_len]; exact hj)]
    rfl
  rw [List.take_of_length_le (by omega), containsS_words] at hc
  exact hc
set_option maxRecDepth 100000 in
set_option maxHeartbeats 1000000 in
theorem reserved_any (x : ByteArray) (w : World) (hT : SpaceV w) : Calls Tryz.prog 49 #[.string x] w fun e w' => e = .returned (.bool (resB x.data.toList)) ∧ Below w.heap.size w w' := by
  have hf := fields_words w hT
  have hc := contains_words (w.alloc (.cells wordCells 9)) w.heap.size x (alloc_new _ _ _ rfl)
  have hb : Below w.heap.size w (w.alloc (.cells wordCells 9)) := (Below.refl _ _).alloc (Nat.le_refl _) _
  generalize w.alloc (.cells wordCells 9) = V at hf hc hb
  unfold wordsB at hf
  go_enter Tryz.func49, Tryz.ntmps49
  go_wp2_with (first
    | (go_at_call 87; refine hf.mono ?_; rintro e w1 ⟨rfl, hw⟩; subst w1)
    | (go_at_call 86; refine hc.mono ?_; rintro e w2 ⟨rfl, hw⟩; subst w2))
  go_ret
  exact ⟨rfl, hb⟩
theorem MaxV.below {w w' : World} (h : MaxV w) (hb : Below w.heap.size w w') : MaxV w' := by
  obtain ⟨m, h⟩ := h
  exact ⟨m, (hb.cell (p := ⟨1, 0, none⟩) (World.block_lt_of_cell? w _ h)).trans h⟩
def dirVal (o : Option (List UInt8)) : Value :=
  match o with
  | some d => .tuple #[.string ⟨d.toArray⟩, .bool true]
  | none => .tuple #[.string ⟨#[]⟩, .bool false]
theorem size_mk (l : List UInt8) : (⟨l.toArray⟩ : ByteArray).size = l.length := by simp [ByteArray.size]
theorem trimPre_len (s p : List UInt8) : (trimPrefix s p).length ≤ s.length := by
  unfold trimPrefix
  split
  · rw [List.length_drop]; omega
  · exact Nat.le_refl _
theorem trimSuf_len (s p : List UInt8) : (trimSuffix s p).length ≤ s.length := by
  unfold trimSuffix
  split
  · rw [List.length_take]; omega
  · exact Nat.le_refl _
theorem cut_len (s p : List UInt8) : (cut s p).1.length ≤ s.length ∧ (cut s p).2.1.length ≤ s.length := by
  unfold cut
  split
  · exact ⟨by simp only [List.length_take]; omega, by simp only [List.length_drop]; omega⟩
  · exact ⟨Nat.le_refl _, Nat.zero_le _⟩
set_option maxRecDepth 100000 in
set_option maxHeartbeats 4000000 in
theorem dir_any (u : ByteArray) (w : World) (hu : u.size ≤ 1000000) (hM : MaxV w) (hS : ∀ w', Below w.heap.size w w' → SpaceV w') : Calls Tryz.prog 12 #[.string u] w fun e w' => e = .returned (dirVal (dirV u.data.toList)) ∧ Below w.heap.size w w' := by
  have h1 := fun w => Tryz.strings_CutPrefix u ⟨#[102, 105, 108, 101, 58, 47, 47, 47]⟩ w
  rw [show (⟨#[102, 105, 108, 101, 58, 47, 47, 47]⟩ : ByteArray).data.toList = ahead from rfl] at h1
  have hl1 := trimPre_len u.data.toList ahead
  have e1 : dirV u.data.toList = dirV u.data.toList := rfl
  conv at e1 => rhs; unfold dirV
  simp only at e1
  generalize dirV u.data.toList = O at e1 ⊢
  obtain ⟨R, hR⟩ : ∃ R : ByteArray, (⟨(trimPrefix u.data.toList ahead).toArray⟩ : ByteArray) = R := ⟨_, rfl⟩
  have hRl : trimPrefix u.data.toList ahead = R.data.toList := by rw [← hR]
  obtain ⟨ok1, hok1⟩ : ∃ b, hasPrefix u.data.toList ahead = b := ⟨_, rfl⟩
  rw [hRl] at hl1
  rw [hRl, hok1] at e1
  simp only [hR, hok1] at h1
  rw [← Lib.size_eq, ← Lib.size_eq] at hl1
  obtain ⟨m, hm⟩ := hM
  have h2 := Tryz.strings_Cut R ⟨#[47]⟩ m w (by omega) hm
  rw [show (⟨#[47]⟩ : ByteArray).data.toList = [47] from rfl] at h2
  have hl2 := cut_len R.data.toList [47]
  generalize cut R.data.toList [47] = C at e1 h2 hl2
  obtain ⟨d, f, ok2⟩ := C
  simp only at e1 h2 hl2
  rw [← Lib.size_eq] at hl2
  have h3 := fun w => Tryz.strings_CutSuffix ⟨f.toArray⟩ ⟨#[46, 103, 111]⟩ w (by rw [size_mk]; omega)
  rw [show (⟨#[46, 103, 111]⟩ : ByteArray).data.toList = dotgo from rfl, show (⟨f.toArray⟩ : ByteArray).data.toList = f from rfl] at h3
  have hl3 := trimSuf_len f dotgo
  obtain ⟨ok3, hok3⟩ : ∃ b, hasSuffix f dotgo = b := ⟨_, rfl⟩
  generalize trimSuffix f dotgo = b at e1 h3 hl3
  simp only [hok3] at e1 h3
  have n1 := fun w => name_any ⟨d.toArray⟩ w (by rw [size_mk]; omega)
  have n2 := fun w => name_any ⟨b.toArray⟩ w (by rw [size_mk]; omega)
  have n3 := fun w hw => reserved_any ⟨d.toArray⟩ w hw
  rw [show (⟨d.toArray⟩ : ByteArray).data.toList = d from rfl] at n1 n3
  rw [show (⟨b.toArray⟩ : ByteArray).data.toList = b from rfl] at n2
  obtain ⟨x1, hx1⟩ : ∃ x, nameB d = x := ⟨_, rfl⟩
  obtain ⟨x2, hx2⟩ : ∃ x, nameB b = x := ⟨_, rfl⟩
  obtain ⟨x3, hx3⟩ : ∃ x, resB d = x := ⟨_, rfl⟩
  simp only [hx1, hx2, hx3] at e1 n1 n2 n3
  obtain ⟨D, hD⟩ : ∃ D : ByteArray, (⟨d.toArray⟩ : ByteArray) = D := ⟨_, rfl⟩
  obtain ⟨F, hF⟩ : ∃ F : ByteArray, (⟨f.toArray⟩ : ByteArray) = F := ⟨_, rfl⟩
  obtain ⟨B, hB⟩ : ∃ B : ByteArray, (⟨b.toArray⟩ : ByteArray) = B := ⟨_, rfl⟩
  have hout : dirVal O = if ok1 = true ∧ ok2 = true ∧ ok3 = true ∧ x1 = true ∧ x3 = false ∧ x2 = true then .tuple #[.string D, .bool true] else .tuple #[.string ⟨#[]⟩, .bool false] := by
    rw [e1]
    split
    · rw [dirVal, hD]
    · rfl
  simp only [hD, hF, hB] at h2 h3 n1 n2 n3
  generalize dirVal O = V at hout ⊢
  clear e1 hR hRl hok1 hl1 hl2 hl3 hok3 hx1 hx2 hx3 hD hF hB hm
  have HB := Lib.hid hS
  clear hS
  cases ok1 with
  | false =>
    rw [if_neg (by simp)] at hout
    subst hout
    go_enter Tryz.func12, Tryz.ntmps12
    go_wp2_with (first
      | (go_at_call 45; refine (h1 _).mono ?_; rintro e w1 ⟨rfl, hw⟩; subst w1)
      | (go_at_call 46; refine h2.mono ?_; rintro e w1 ⟨rfl, n, rfl⟩)
      | (go_at_call 47; refine (h3 _).mono ?_; rintro e w1 ⟨rfl, hw⟩; subst w1))
    go_ret2
    exact ⟨rfl, below_draws (Below.refl _ _) _⟩
  | true =>
  cases ok2 with
  | false =>
    rw [if_neg (by simp)] at hout
    subst hout
    go_enter Tryz.func12, Tryz.ntmps12
    go_wp2_with (first
      | (go_at_call 45; refine (h1 _).mono ?_; rintro e w1 ⟨rfl, hw⟩; subst w1)
      | (go_at_call 46; refine h2.mono ?_; rintro e w1 ⟨rfl, n, rfl⟩)
      | (go_at_call 47; refine (h3 _).mono ?_; rintro e w1 ⟨rfl, hw⟩; subst w1))
    go_ret2
    exact ⟨rfl, below_draws (Below.refl _ _) _⟩
  | true =>
  cases ok3 with
  | false =>
    rw [if_neg (by simp)] at hout
    subst hout
    go_enter Tryz.func12, Tryz.ntmps12
    go_wp2_with (first
      | (go_at_call 45; refine (h1 _).mono ?_; rintro e w1 ⟨rfl, hw⟩; subst w1)
      | (go_at_call 46; refine h2.mono ?_; rintro e w1 ⟨rfl, n, rfl⟩)
      | (go_at_call 47; refine (h3 _).mono ?_; rintro e w1 ⟨rfl, hw⟩; subst w1))
    go_ret2
    exact ⟨rfl, below_draws (Below.refl _ _) _⟩
  | true =>
  cases x1 with
  | false =>
    rw [if_neg (by simp)] at hout
    subst hout
    go_enter Tryz.func12, Tryz.ntmps12
    go_wp2_with (first
      | (go_at_call 45; refine (h1 _).mono ?_; rintro e w1 ⟨rfl, hw⟩; subst w1)
      | (go_at_call 46; refine h2.mono ?_; rintro e w1 ⟨rfl, n, rfl⟩)
      | (go_at_call 47; refine (h3 _).mono ?_; rintro e w1 ⟨rfl, hw⟩; subst w1)
      | (go_at_call 48; refine (n1 _).mono ?_; rintro e w1 ⟨rfl, hw⟩; subst w1))
    go_ret2
    exact ⟨rfl, below_draws (Below.refl _ _) _⟩
  | true =>
  cases x3 with
  | true =>
    rw [if_neg (by simp)] at hout
    subst hout
    go_enter Tryz.func12, Tryz.ntmps12
    go_wp2_with (first
      | (go_at_call 45; refine (h1 _).mono ?_; rintro e w1 ⟨rfl, hw⟩; subst w1)
      | (go_at_call 46; refine h2.mono ?_; rintro e w1 ⟨rfl, n, rfl⟩; have b1 : Below w.heap.size w (w.drewN n) := below_draws (Below.refl _ _) n)
      | (go_at_call 47; refine (h3 _).mono ?_; rintro e w1 ⟨rfl, hw⟩; subst w1)
      | (go_at_call 48; refine (n1 _).mono ?_; rintro e w1 ⟨rfl, hw⟩; subst w1)
      | (go_at_call 49; refine (n3 _ (HB.out _ b1)).mono ?_; rintro e w3 ⟨rfl, hb3⟩))
    go_ret2
    exact ⟨rfl, b1.trans (hb3.mono b1.size)⟩
  | false =>
  cases x2 with
  | false =>
    rw [if_neg (by simp)] at hout
    subst hout
    go_enter Tryz.func12, Tryz.ntmps12
    go_wp2_with (first
      | (go_at_call 45; refine (h1 _).mono ?_; rintro e w1 ⟨rfl, hw⟩; subst w1)
      | (go_at_call 46; refine h2.mono ?_; rintro e w1 ⟨rfl, n, rfl⟩; have b1 : Below w.heap.size w (w.drewN n) := below_draws (Below.refl _ _) n)
      | (go_at_call 47; refine (h3 _).mono ?_; rintro e w1 ⟨rfl, hw⟩; subst w1)
      | (have GU := hb3; clear GU; go_at_call 48; refine (n2 _).mono ?_; rintro e w1 ⟨rfl, hw⟩; subst w1)
      | (go_at_call 48; refine (n1 _).mono ?_; rintro e w1 ⟨rfl, hw⟩; subst w1)
      | (go_at_call 49; refine (n3 _ (HB.out _ b1)).mono ?_; rintro e w3 ⟨rfl, hb3⟩))
    go_ret2
    exact ⟨rfl, b1.trans (hb3.mono b1.size)⟩
  | true =>
    rw [if_pos (by simp)] at hout
    subst hout
    go_enter Tryz.func12, Tryz.ntmps12
    go_wp2_with (first
      | (go_at_call 45; refine (h1 _).mono ?_; rintro e w1 ⟨rfl, hw⟩; subst w1)
      | (go_at_call 46; refine h2.mono ?_; rintro e w1 ⟨rfl, n, rfl⟩; have b1 : Below w.heap.size w (w.drewN n) := below_draws (Below.refl _ _) n)
      | (go_at_call 47; refine (h3 _).mono ?_; rintro e w1 ⟨rfl, hw⟩; subst w1)
      | (have GU := hb3; clear GU; go_at_call 48; refine (n2 _).mono ?_; rintro e w1 ⟨rfl, hw⟩; subst w1)
      | (go_at_call 48; refine (n1 _).mono ?_; rintro e w1 ⟨rfl, hw⟩; subst w1)
      | (go_at_call 49; refine (n3 _ (HB.out _ b1)).mono ?_; rintro e w3 ⟨rfl, hb3⟩))
    go_ret2
    exact ⟨rfl, b1.trans (hb3.mono b1.size)⟩
end Go.Proofs.Dc
/- D2: The reference's Name, Words, Reserved, Dir. Printed by gen_d2.py. -/
namespace Go.Proofs.Dc
open Go.RowKit Go.Proofs Go.Lib

set_option maxRecDepth 100000 in
set_option maxHeartbeats 4000000 in
theorem rname_any (s : ByteArray) (w : World) (hs : s.size ≤ 140737488355328) : Calls Tryz.prog 50 #[.string s] w fun e w' => e = .returned (.bool (nameB s.data.toList)) ∧ w = w' := by
  obtain ⟨N, hN⟩ : ∃ N, nameB s.data.toList = N := ⟨_, rfl⟩
  rw [hN]
  unfold nameB at hN
  have hsl := Lib.size_eq s
  by_cases h0 : s.data.toList = []
  · have hz : s.size = 0 := by rw [hsl, h0]; rfl
    have u0 : ((s.size : Int) == 0) = true := by rw [hz]; rfl
    have hn : N = false := by rw [← hN, decide_eq_false (by rintro ⟨h, _⟩; exact h h0)]; rfl
    subst hn
    clear hN h0 hsl hz
    go_enter Tryz.func50, Tryz.ntmps50
    go_wp2
    go_ret
    exact ⟨rfl, rfl⟩
  have hpos : 0 < s.size := by
    rw [hsl]
    exact List.length_pos_iff.2 h0
  have u0 : ((s.size : Int) == 0) = false := beq_eq_false_iff_ne.2 (by omega)
  by_cases h2 : (40 : Int) < (s.size : Int)
  · have hn : N = false := by rw [← hN, decide_eq_false (by rintro ⟨_, _, h⟩; omega)]; rfl
    subst hn
    clear hN h0 hsl hpos
    go_enter Tryz.func50, Tryz.ntmps50
    go_wp2
    go_ret
    exact ⟨rfl, rfl⟩
  by_cases h1 : s.data.toList = [95]
  · have u1 : (s.toList == [95]) = true := by rw [ByteArray.toList_eq, h1]; rfl
    have hn : N = false := by rw [← hN, decide_eq_false (by rintro ⟨_, h, _⟩; exact h h1)]; rfl
    subst hn
    clear hN h0 h1 hsl hpos
    go_enter Tryz.func50, Tryz.ntmps50
    go_wp2
    go_ret
    exact ⟨rfl, rfl⟩
  have u1 : (s.toList == [95]) = false := by rw [ByteArray.toList_eq]; simpa using h1
  rw [decide_eq_true ⟨h0, h1, by omega⟩, Bool.true_and] at hN
  have bad : ∀ (k : Nat) (hk : k < s.size), okAt k s[k] = false → N = false := fun k hk h => by
    rw [← hN]
    cases ha : allOk s.data.toList with
    | false => rfl
    | true =>
      have := allOk_iff.1 ha k _ (list_get s k hk)
      rw [h] at this
      cases this
  have good : (∀ j c, j < s.size → s.data.toList[j]? = some c → okAt j c = true) → N = true := fun h => by
    rw [← hN]
    exact allOk_iff.2 fun i c hc => h i c (by rw [hsl]; exact (List.getElem?_eq_some_iff.1 hc).1) hc
  have BAD := Lib.hid bad
  have GOOD := Lib.hid good
  clear bad good hN h0 h1 hsl hpos
  go_enter Tryz.func50, Tryz.ntmps50
  go_wp2
  go_loop [3] (fun v => ∃ k : Nat, v = .int .i64 k ∧ k ≤ s.size ∧ ∀ j c, j < k → s.data.toList[j]? = some c → okAt j c = true) (fun v => s.size - (RowKit.intOf v).toNat)
  case atStart => exact ⟨0, rfl, Nat.zero_le _, fun j c h => by omega⟩
  case round =>
    obtain ⟨k, rfl, hk, hg⟩ := hrel
    have HG := Lib.hid hg
    clear hg
    by_cases hkn : (k : Int) < (s.size : Int)
    · have hks : k < s.size := by omega
      have hnext : okAt k s[k] = true → ∀ j c, j < k + 1 → s.data.toList[j]? = some c → okAt j c = true := fun h j c hj hc => by
        by_cases e : j = k
        · subst e
          rw [list_get s j hks] at hc
          rw [← Option.some.inj hc]; exact h
        · exact HG.out j c (by omega) hc
      have hbad := BAD.out k hks
      have hcl : (65 ≤ s[k].toNat ∧ s[k].toNat ≤ 90) ∨ (s[k].toNat = 95) ∨ (97 ≤ s[k].toNat ∧ s[k].toNat ≤ 122) ∨ (s[k].toNat < 48) ∨ (48 ≤ s[k].toNat ∧ s[k].toNat ≤ 57) ∨ (58 ≤ s[k].toNat ∧ s[k].toNat ≤ 64) ∨ (91 ≤ s[k].toNat ∧ s[k].toNat ≤ 96 ∧ s[k].toNat ≠ 95) ∨ (123 ≤ s[k].toNat) := by omega
      rcases hcl with h | h | h | h | h | h | h | h
      · have hL : letB s[k] = true := by unfold letB; exact decide_eq_true (by omega)
        have u3 : decide ((65 : Int) ≤ (s[k].toNat : Int)) = true := decide_eq_true (by omega)
        have u4 : decide ((s[k].toNat : Int) ≤ 90) = true := decide_eq_true (by omega)
        have u5 : decide ((97 : Int) ≤ (s[k].toNat : Int)) = false := decide_eq_false (by omega)
        have u6 : decide ((s[k].toNat : Int) ≤ 122) = true := decide_eq_true (by omega)
        have u7 : ((s[k].toNat : Int) == 95) = false := beq_eq_false_iff_ne.2 (by omega)
        have u8 : decide ((s[k].toNat : Int) < 48) = false := decide_eq_false (by omega)
        have u9 : decide ((57 : Int) < (s[k].toNat : Int)) = true := decide_eq_true (by omega)
        have HN := Lib.hid (hnext (by unfold okAt; rw [hL]; rfl))
        clear hnext hbad hL h
        go_wp2
        go_round
        case rel => exact ⟨k + 1, by go_num, by omega, HN.out⟩
        case measure => simp [RowKit.intOf]; omega
      · have hL : letB s[k] = true := by unfold letB; exact decide_eq_true (by omega)
        have u3 : decide ((65 : Int) ≤ (s[k].toNat : Int)) = true := decide_eq_true (by omega)
        have u4 : decide ((s[k].toNat : Int) ≤ 90) = false := decide_eq_false (by omega)
        have u5 : decide ((97 : Int) ≤ (s[k].toNat : Int)) = false := decide_eq_false (by omega)
        have u6 : decide ((s[k].toNat : Int) ≤ 122) = true := decide_eq_true (by omega)
        have u7 : ((s[k].toNat : Int) == 95) = true := beq_iff_eq.2 (by omega)
        have u8 : decide ((s[k].toNat : Int) < 48) = false := decide_eq_false (by omega)
        have u9 : decide ((57 : Int) < (s[k].toNat : Int)) = true := decide_eq_true (by omega)
        have HN := Lib.hid (hnext (by unfold okAt; rw [hL]; rfl))
        clear hnext hbad hL h
        go_wp2
        go_round
        case rel => exact ⟨k + 1, by go_num, by omega, HN.out⟩
        case measure => simp [RowKit.intOf]; omega
      · have hL : letB s[k] = true := by unfold letB; exact decide_eq_true (by omega)
        have u3 : decide ((65 : Int) ≤ (s[k].toNat : Int)) = true := decide_eq_true (by omega)
        have u4 : decide ((s[k].toNat : Int) ≤ 90) = false := decide_eq_false (by omega)
        have u5 : decide ((97 : Int) ≤ (s[k].toNat : Int)) = true := decide_eq_true (by omega)
        have u6 : decide ((s[k].toNat : Int) ≤ 122) = true := decide_eq_true (by omega)
        have u7 : ((s[k].toNat : Int) == 95) = false := beq_eq_false_iff_ne.2 (by omega)
        have u8 : decide ((s[k].toNat : Int) < 48) = false := decide_eq_false (by omega)
        have u9 : decide ((57 : Int) < (s[k].toNat : Int)) = true := decide_eq_true (by omega)
        have HN := Lib.hid (hnext (by unfold okAt; rw [hL]; rfl))
        clear hnext hbad hL h
        go_wp2
        go_round
        case rel => exact ⟨k + 1, by go_num, by omega, HN.out⟩
        case measure => simp [RowKit.intOf]; omega
      · have hL : letB s[k] = false := by unfold letB; exact decide_eq_false (by omega)
        have u3 : decide ((65 : Int) ≤ (s[k].toNat : Int)) = false := decide_eq_false (by omega)
        have u4 : decide ((s[k].toNat : Int) ≤ 90) = true := decide_eq_true (by omega)
        have u5 : decide ((97 : Int) ≤ (s[k].toNat : Int)) = false := decide_eq_false (by omega)
        have u6 : decide ((s[k].toNat : Int) ≤ 122) = true := decide_eq_true (by omega)
        have u7 : ((s[k].toNat : Int) == 95) = false := beq_eq_false_iff_ne.2 (by omega)
        have u8 : decide ((s[k].toNat : Int) < 48) = true := decide_eq_true (by omega)
        have u9 : decide ((57 : Int) < (s[k].toNat : Int)) = false := decide_eq_false (by omega)
        by_cases hk0 : k = 0
        · have hn := hbad (by unfold okAt; rw [hL]; simp [hk0])
          have u2 : ((k : Int) == 0) = true := beq_iff_eq.2 (by omega)
          subst hn
          clear hnext hbad hL h hk0
          go_wp2
          go_ret
          exact ⟨rfl, rfl⟩
        · have u2 : ((k : Int) == 0) = false := beq_eq_false_iff_ne.2 (by omega)
          have hk1 : (k != 0) = true := by simpa using hk0
          have hn := hbad (by unfold okAt digB; rw [hL, hk1, decide_eq_false (by omega)]; rfl)
          subst hn
          clear hnext hbad hL h hk0 hk1
          go_wp2
          go_ret
          exact ⟨rfl, rfl⟩
      · have hL : letB s[k] = false := by unfold letB; exact decide_eq_false (by omega)
        have u3 : decide ((65 : Int) ≤ (s[k].toNat : Int)) = false := decide_eq_false (by omega)
        have u4 : decide ((s[k].toNat : Int) ≤ 90) = true := decide_eq_true (by omega)
        have u5 : decide ((97 : Int) ≤ (s[k].toNat : Int)) = false := decide_eq_false (by omega)
        have u6 : decide ((s[k].toNat : Int) ≤ 122) = true := decide_eq_true (by omega)
        have u7 : ((s[k].toNat : Int) == 95) = false := beq_eq_false_iff_ne.2 (by omega)
        have u8 : decide ((s[k].toNat : Int) < 48) = false := decide_eq_false (by omega)
        have u9 : decide ((57 : Int) < (s[k].toNat : Int)) = false := decide_eq_false (by omega)
        by_cases hk0 : k = 0
        · have hn := hbad (by unfold okAt; rw [hL]; simp [hk0])
          have u2 : ((k : Int) == 0) = true := beq_iff_eq.2 (by omega)
          subst hn
          clear hnext hbad hL h hk0
          go_wp2
          go_ret
          exact ⟨rfl, rfl⟩
        · have u2 : ((k : Int) == 0) = false := beq_eq_false_iff_ne.2 (by omega)
          have hk1 : (k != 0) = true := by simpa using hk0
          have HN := Lib.hid (hnext (by unfold okAt digB; rw [hL, hk1, decide_eq_true ⟨by omega, by omega⟩]; rfl))
          clear hnext hbad hL h hk0 hk1
          go_wp2
          go_round
          case rel => exact ⟨k + 1, by go_num, by omega, HN.out⟩
          case measure => simp [RowKit.intOf]; omega
      · have hL : letB s[k] = false := by unfold letB; exact decide_eq_false (by omega)
        have u3 : decide ((65 : Int) ≤ (s[k].toNat : Int)) = false := decide_eq_false (by omega)
        have u4 : decide ((s[k].toNat : Int) ≤ 90) = true := decide_eq_true (by omega)
        have u5 : decide ((97 : Int) ≤ (s[k].toNat : Int)) = false := decide_eq_false (by omega)
        have u6 : decide ((s[k].toNat : Int) ≤ 122) = true := decide_eq_true (by omega)
        have u7 : ((s[k].toNat : Int) == 95) = false := beq_eq_false_iff_ne.2 (by omega)
        have u8 : decide ((s[k].toNat : Int) < 48) = false := decide_eq_false (by omega)
        have u9 : decide ((57 : Int) < (s[k].toNat : Int)) = true := decide_eq_true (by omega)
        by_cases hk0 : k = 0
        · have hn := hbad (by unfold okAt; rw [hL]; simp [hk0])
          have u2 : ((k : Int) == 0) = true := beq_iff_eq.2 (by omega)
          subst hn
          clear hnext hbad hL h hk0
          go_wp2
          go_ret
          exact ⟨rfl, rfl⟩
        · have u2 : ((k : Int) == 0) = false := beq_eq_false_iff_ne.2 (by omega)
          have hk1 : (k != 0) = true := by simpa using hk0
          have hn := hbad (by unfold okAt digB; rw [hL, hk1, decide_eq_false (by omega)]; rfl)
          subst hn
          clear hnext hbad hL h hk0 hk1
          go_wp2
          go_ret
          exact ⟨rfl, rfl⟩
      · have hL : letB s[k] = false := by unfold letB; exact decide_eq_false (by omega)
        have u3 : decide ((65 : Int) ≤ (s[k].toNat : Int)) = true := decide_eq_true (by omega)
        have u4 : decide ((s[k].toNat : Int) ≤ 90) = false := decide_eq_false (by omega)
        have u5 : decide ((97 : Int) ≤ (s[k].toNat : Int)) = false := decide_eq_false (by omega)
        have u6 : decide ((s[k].toNat : Int) ≤ 122) = true := decide_eq_true (by omega)
        have u7 : ((s[k].toNat : Int) == 95) = false := beq_eq_false_iff_ne.2 (by omega)
        have u8 : decide ((s[k].toNat : Int) < 48) = false := decide_eq_false (by omega)
        have u9 : decide ((57 : Int) < (s[k].toNat : Int)) = true := decide_eq_true (by omega)
        by_cases hk0 : k = 0
        · have hn := hbad (by unfold okAt; rw [hL]; simp [hk0])
          have u2 : ((k : Int) == 0) = true := beq_iff_eq.2 (by omega)
          subst hn
          clear hnext hbad hL h hk0
          go_wp2
          go_ret
          exact ⟨rfl, rfl⟩
        · have u2 : ((k : Int) == 0) = false := beq_eq_false_iff_ne.2 (by omega)
          have hk1 : (k != 0) = true := by simpa using hk0
          have hn := hbad (by unfold okAt digB; rw [hL, hk1, decide_eq_false (by omega)]; rfl)
          subst hn
          clear hnext hbad hL h hk0 hk1
          go_wp2
          go_ret
          exact ⟨rfl, rfl⟩
      · have hL : letB s[k] = false := by unfold letB; exact decide_eq_false (by omega)
        have u3 : decide ((65 : Int) ≤ (s[k].toNat : Int)) = true := decide_eq_true (by omega)
        have u4 : decide ((s[k].toNat : Int) ≤ 90) = false := decide_eq_false (by omega)
        have u5 : decide ((97 : Int) ≤ (s[k].toNat : Int)) = true := decide_eq_true (by omega)
        have u6 : decide ((s[k].toNat : Int) ≤ 122) = false := decide_eq_false (by omega)
        have u7 : ((s[k].toNat : Int) == 95) = false := beq_eq_false_iff_ne.2 (by omega)
        have u8 : decide ((s[k].toNat : Int) < 48) = false := decide_eq_false (by omega)
        have u9 : decide ((57 : Int) < (s[k].toNat : Int)) = true := decide_eq_true (by omega)
        by_cases hk0 : k = 0
        · have hn := hbad (by unfold okAt; rw [hL]; simp [hk0])
          have u2 : ((k : Int) == 0) = true := beq_iff_eq.2 (by omega)
          subst hn
          clear hnext hbad hL h hk0
          go_wp2
          go_ret
          exact ⟨rfl, rfl⟩
        · have u2 : ((k : Int) == 0) = false := beq_eq_false_iff_ne.2 (by omega)
          have hk1 : (k != 0) = true := by simpa using hk0
          have hn := hbad (by unfold okAt digB; rw [hL, hk1, decide_eq_false (by omega)]; rfl)
          subst hn
          clear hnext hbad hL h hk0 hk1
          go_wp2
          go_ret
          exact ⟨rfl, rfl⟩
    · have hn := GOOD.out fun j c hj hc => HG.out j c (by omega) hc
      subst hn
      go_wp2
      go_ret
      exact ⟨rfl, rfl⟩
end Go.Proofs.Dc
/- D3: The reference's Words, Reserved, Dir. -/
namespace Go.Proofs.Dc
open Go.RowKit Go.Proofs Go.Lib

theorem wordCells_eq : wordCells = #[Value.string ⟨#[98, 111, 111, 108]⟩, Value.string ⟨#[98, 114, 101, 97, 107]⟩, Value.string ⟨#[99, 111, 110, 116, 105, 110, 117, 101]⟩, Value.string ⟨#[101, 108, 115, 101]⟩, Value.string ⟨#[102, 97, 108, 115, 101]⟩, Value.string ⟨#[102, 108, 111, 97, 116, 54, 52]⟩, Value.string ⟨#[102, 111, 114]⟩, Value.string ⟨#[102, 117, 110, 99]⟩, Value.string ⟨#[105, 102]⟩, Value.string ⟨#[105, 109, 112, 111, 114, 116]⟩, Value.string ⟨#[105, 110, 116]⟩, Value.string ⟨#[108, 101, 110]⟩, Value.string ⟨#[112, 97, 99, 107, 97, 103, 101]⟩, Value.string ⟨#[112, 97, 110, 105, 99]⟩, Value.string ⟨#[112, 114, 105, 110, 116]⟩, Value.string ⟨#[114, 101, 116, 117, 114, 110]⟩, Value.string ⟨#[115, 116, 114, 105, 110, 103]⟩, Value.string ⟨#[115, 116, 114, 117, 99, 116]⟩, Value.string ⟨#[116, 114, 117, 101]⟩, Value.string ⟨#[116, 121, 112, 101]⟩, Value.string ⟨#[118, 97, 114]⟩] := by kernel_rfl
set_option maxRecDepth 100000 in
theorem words_any (w : World) : Calls Tryz.prog 88 #[] w fun e w' => e = .returned (.slice (some ⟨w.heap.size, 0, none⟩) 21 21) ∧ w' = w.alloc (.cells wordCells 9) := by
  rw [wordCells_eq]
  go_enter Tryz.func88, Tryz.ntmps88
  go_wp2
  go_ret
  exact ⟨rfl, rfl⟩
theorem word_cell (w : World) (g k : Nat) (l : List UInt8) (h : w.heap[g]? = some (.cells wordCells 9 (0, 0))) (hl : words[k]? = some l) : w.cell? ⟨g, k, none⟩ = some (.string ⟨l.toArray⟩) := by
  rw [cell_of_row w g k _ _ _ h]
  unfold wordCells
  rw [List.getElem?_toArray, List.getElem?_map, hl]
  rfl
theorem bytes_beq (x y : ByteArray) : (x.toList == y.toList) = decide (x.data.toList = y.data.toList) := by
  rw [ByteArray.toList_eq, ByteArray.toList_eq]
  by_cases h : x.data.toList = y.data.toList
  · rw [decide_eq_true h, h]; simp
  · rw [decide_eq_false h]; simpa using h
set_option maxRecDepth 100000 in
set_option maxHeartbeats 2000000 in
theorem rres_any (x : ByteArray) (w : World) : Calls Tryz.prog 51 #[.string x] w fun e w' => e = .returned (.bool (resB x.data.toList)) ∧ Below w.heap.size w w' := by
  obtain ⟨R, hR⟩ : ∃ R, resB x.data.toList = R := ⟨_, rfl⟩
  rw [hR]
  have hw := words_any w
  have hrow := alloc_new w (.cells wordCells 9) w.heap.size rfl
  have hb : Below w.heap.size w (w.alloc (.cells wordCells 9)) := (Below.refl _ _).alloc (Nat.le_refl _) _
  generalize w.alloc (.cells wordCells 9) = V at hw hrow hb
  have HR := Lib.hid hR
  have HROW := Lib.hid hrow
  clear hR hrow
  go_enter Tryz.func51, Tryz.ntmps51
  go_wp2_with (first
    | (go_at_call 88; refine hw.mono ?_; rintro e w1 ⟨rfl, hw1⟩; subst w1))
  go_loop [4] (fun v => ∃ k : Nat, v = .int .i64 k ∧ k ≤ 21 ∧ ∀ j, j < k → words[j]? ≠ some x.data.toList) (fun v => 21 - (RowKit.intOf v).toNat)
  case atStart => exact ⟨0, rfl, Nat.zero_le _, fun j h => by omega⟩
  case round =>
    obtain ⟨k, rfl, hk, hno⟩ := hrel
    have HN := Lib.hid hno
    clear hno
    by_cases hkn : (k : Int) < 21
    · obtain ⟨l, hl⟩ : ∃ l, words[k]? = some l := ⟨_, List.getElem?_eq_getElem (by rw [words_len]; omega)⟩
      have hc := word_cell V w.heap.size k l HROW.out hl
      obtain ⟨X, hX⟩ : ∃ X : ByteArray, (⟨l.toArray⟩ : ByteArray) = X := ⟨_, rfl⟩
      have hXl : X.data.toList = l := by rw [← hX]
      rw [hX] at hc
      have hbq := bytes_beq X x
      rw [hXl] at hbq
      by_cases he : l = x.data.toList
      · rw [decide_eq_true he] at hbq
        have hr : R = true := by
          rw [← HR.out]
          unfold resB
          rw [List.contains_iff_mem, ← he]
          exact List.mem_of_getElem? hl
        subst hr
        clear hl hX hXl he
        go_wp2
        go_ret
        exact ⟨rfl, hb⟩
      · rw [decide_eq_false he] at hbq
        have H1 : Hid (words[k]? ≠ some x.data.toList) := Lib.hid (by rw [hl]; exact fun h => he (Option.some.inj h))
        clear hl hX hXl he
        go_wp2
        go_round
        case rel => exact ⟨k + 1, by go_num, by omega, fun j hj => by
          by_cases e : j = k
          · subst e; exact H1.out
          · exact HN.out j (by omega)⟩
        case measure => simp [RowKit.intOf]; omega
    · have hr : R = false := by
        rw [← HR.out]
        unfold resB
        cases hc : words.contains x.data.toList with
        | false => rfl
        | true =>
          rw [List.contains_iff_mem] at hc
          obtain ⟨j, hj⟩ := List.getElem?_of_mem hc
          have hjl := (List.getElem?_eq_some_iff.1 hj).1
          rw [words_len] at hjl
          exact absurd hj (HN.out j (by omega))
      subst hr
      go_wp2
      go_ret
      exact ⟨rfl, hb⟩
theorem ext_list (s : ByteArray) (f i : Nat) : (s.extract f i).data.toList = (s.data.toList.drop f).take (i - f) := Lib.extract_data _ _ _
theorem dir_short {u : List UInt8} (h : u.length < 12) : dirV u = none := by
  refine dirV_none fun d hd => ?_
  obtain ⟨b, hu, h1, h2, h3⟩ := hd
  have := congrArg List.length hu
  have hd0 : d ≠ [] := fun e => by subst e; revert h1; decide
  have := List.length_pos_iff.2 hd0
  simp only [List.length_append, ahead, dotgo, List.length_cons, List.length_nil] at *
  omega
theorem dir_head {u : List UInt8} (h : u.take 8 ≠ ahead) : dirV u = none := by
  refine dirV_none fun d hd => ?_
  obtain ⟨b, hu, _⟩ := hd
  refine h ?_
  rw [hu]
  simp only [List.append_assoc]
  rfl
theorem dir_tail {u : List UInt8} (h : u.drop (u.length - 3) ≠ dotgo) : dirV u = none := by
  refine dirV_none fun d hd => ?_
  obtain ⟨b, hu, _⟩ := hd
  refine h ?_
  have e : u.length - 3 = (ahead ++ d ++ [47] ++ b).length := by
    rw [hu, List.length_append (bs := dotgo)]
    show _ + 3 - 3 = _
    omega
  rw [e, hu, List.drop_left]
theorem dir_parts {u : List UInt8} (h1 : u.take 8 = ahead) (h2 : u.drop (u.length - 3) = dotgo) (hl : 11 ≤ u.length) : u = ahead ++ (u.drop 8).take (u.length - 3 - 8) ++ dotgo := by
  have e : u.drop 8 = (u.drop 8).take (u.length - 3 - 8) ++ dotgo := by
    conv => lhs; rw [← List.take_append_drop (u.length - 3 - 8) (u.drop 8), List.drop_drop, show 8 + (u.length - 3 - 8) = u.length - 3 by omega, h2]
  conv => lhs; rw [← List.take_append_drop 8 u, h1, e]
  rw [List.append_assoc]
end Go.Proofs.Dc
/- D4: The reference's Dir. -/
namespace Go.Proofs.Dc
open Go.RowKit Go.Proofs Go.Lib

theorem bytes_lit (x : ByteArray) (l : List UInt8) : (x.toList == l) = decide (x.data.toList = l) := by
  rw [ByteArray.toList_eq]
  by_cases h : x.data.toList = l
  · rw [decide_eq_true h, h]; simp
  · rw [decide_eq_false h]; simpa using h
set_option maxRecDepth 100000 in
set_option maxHeartbeats 4000000 in
theorem rdir_any (u : ByteArray) (w : World) (hu : u.size ≤ 1000000) : Calls Tryz.prog 13 #[.string u] w fun e w' => e = .returned (dirVal (dirV u.data.toList)) ∧ Below w.heap.size w w' := by
  obtain ⟨O, hO⟩ : ∃ O, dirV u.data.toList = O := ⟨_, rfl⟩
  rw [hO]
  have hsl := Lib.size_eq u
  by_cases h8 : (u.size : Int) - 3 < 8
  · have hn : O = none := by rw [← hO]; exact dir_short (by rw [← hsl]; omega)
    subst hn
    clear hO hsl
    go_enter Tryz.func13, Tryz.ntmps13
    go_wp2
    go_ret2
    exact ⟨rfl, Below.refl _ _⟩
  have hz : (8 : Int) ≤ (u.size : Int) := by omega
  have hz3 : (3 : Int) ≤ (u.size : Int) := by omega
  by_cases hp : u.data.toList.take 8 = ahead
  · have hx := bytes_lit (u.extract 0 8) [102, 105, 108, 101, 58, 47, 47, 47]
    rw [ext_list, List.drop_zero, decide_eq_true (by exact hp)] at hx
    obtain ⟨E, hE⟩ : ∃ E, u.extract 0 8 = E := ⟨_, rfl⟩
    rw [hE] at hx
    have ht : ((u.size : Int) - 3).toNat = u.size - 3 := by omega
    by_cases hq : u.data.toList.drop (u.data.toList.length - 3) = dotgo
    · have hy := bytes_lit (u.extract (u.size - 3) u.size) [46, 103, 111]
      rw [Lib.extract_to_end, decide_eq_true (by rw [hsl]; exact hq)] at hy
      obtain ⟨F, hF⟩ : ∃ F, u.extract (u.size - 3) u.size = F := ⟨_, rfl⟩
      rw [hF] at hy
      have hparts := dir_parts hp hq (by rw [← hsl]; omega)
      obtain ⟨S, hS⟩ : ∃ S, u.extract 8 (u.size - 3) = S := ⟨_, rfl⟩
      have hSl : S.data.toList = (u.data.toList.drop 8).take (u.size - 3 - 8) := by rw [← hS, ext_list]
      rw [← hsl, ← hSl] at hparts
      have hSs : S.size ≤ 1000000 := by rw [← hS, ByteArray.size_extract]; omega
      have hat := fun i h47 h1 h2 h3 => (dir_at hparts i h47 h1 h2 h3).symm.trans hO
      have hno := fun h => (dir_no hparts h).symm.trans hO
      have HAT := Lib.hid hat
      have HNO := Lib.hid hno
      have HSL := Lib.hid (Lib.size_eq S)
      clear hat hno hparts hSl hO hsl hp hq
      have z1 : (0 : Int) ≤ (u.size : Int) - 3 := by omega
      have z2 : (8 : Int) ≤ (u.size : Int) - 3 := by omega
      go_enter Tryz.func13, Tryz.ntmps13
      go_wp2
      go_loopw [6] (fun v wr => ∃ k : Nat, v = .int .i64 k ∧ k ≤ S.size ∧ (∀ j, j < k → S.data.toList[j]? = some 47 → ¬ (nameB (S.data.toList.take j) = true ∧ resB (S.data.toList.take j) = false ∧ nameB (S.data.toList.drop (j + 1)) = true)) ∧ Below w.heap.size w wr) (fun v _ => S.size - (RowKit.intOf v).toNat)
      case atStart => exact ⟨0, rfl, Nat.zero_le _, fun j h => by omega, Below.refl _ _⟩
      case round =>
        obtain ⟨k, rfl, hk, hn, hB⟩ := hrel
        have HN := Lib.hid hn
        clear hn
        by_cases hkn : (k : Int) < (S.size : Int)
        · have hks : k < S.size := by omega
          have hnx : ¬ (S.data.toList[k]? = some 47 ∧ nameB (S.data.toList.take k) = true ∧ resB (S.data.toList.take k) = false ∧ nameB (S.data.toList.drop (k + 1)) = true) → ∀ j, j < k + 1 → S.data.toList[j]? = some 47 → ¬ (nameB (S.data.toList.take j) = true ∧ resB (S.data.toList.take j) = false ∧ nameB (S.data.toList.drop (j + 1)) = true) := fun h j hj h47 => by
            by_cases e : j = k
            · subst e
              exact fun hh => h ⟨h47, hh⟩
            · exact HN.out j (by omega) h47
          have HNX := Lib.hid hnx
          clear hnx
          by_cases h47 : S[k].toNat = 47
          · have hk47 : S.data.toList[k]? = some 47 := by rw [list_get S k hks]; exact congrArg some (UInt8.toNat_inj.1 h47)
            have u1 : ((S[k].toNat : Int) == 47) = true := beq_iff_eq.2 (by omega)
            have n1 := fun w => rname_any (S.extract 0 k) w (by rw [ByteArray.size_extract]; omega)
            have n2 := fun w => rname_any (S.extract (k + 1) S.size) w (by rw [ByteArray.size_extract]; omega)
            have n3 := fun w => rres_any (S.extract 0 k) w
            rw [ext_list, List.drop_zero, Nat.sub_zero] at n1 n3
            rw [Lib.extract_to_end] at n2
            have hat := HAT.out k hk47
            have k1 : (k : Int) + 1 ≤ (S.size : Int) := by omega
            have hfin : (⟨(S.data.toList.take k).toArray⟩ : ByteArray) = S.extract 0 k := by
              apply ByteArray.ext
              apply Array.toList_inj.1
              rw [ext_list, List.drop_zero, Nat.sub_zero]
            obtain ⟨x1, hx1⟩ : ∃ x, nameB (S.data.toList.take k) = x := ⟨_, rfl⟩
            obtain ⟨x2, hx2⟩ : ∃ x, nameB (S.data.toList.drop (k + 1)) = x := ⟨_, rfl⟩
            obtain ⟨x3, hx3⟩ : ∃ x, resB (S.data.toList.take k) = x := ⟨_, rfl⟩
            rw [hx1] at n1
            rw [hx2] at n2
            rw [hx3] at n3
            have HX := Lib.hid (And.intro hx1 (And.intro hx2 hx3))
            clear hx1 hx2 hx3 h47 hk47
            cases x1 with
            | false =>
              clear hat
              go_wp2_with (first
                | (go_at_call 50; refine (n1 _).mono ?_; rintro e w1 ⟨rfl, hw⟩; subst w1))
              go_roundw
              case rel => exact ⟨k + 1, by go_num, by omega, HNX.out (fun h => by have := h.2.1; rw [HX.out.1] at this; cases this), hB⟩
              case measure => simp [RowKit.intOf]; omega
            | true =>
            cases x3 with
            | true =>
              clear hat
              go_wp2_with (first
                | (go_at_call 50; refine (n1 _).mono ?_; rintro e w1 ⟨rfl, hw⟩; subst w1)
                | (go_at_call 51; refine (n3 _).mono ?_; rintro e w2 ⟨rfl, hb2⟩))
              go_roundw
              case rel => exact ⟨k + 1, by go_num, by omega, HNX.out (fun h => by have := h.2.2.1; rw [HX.out.2.2] at this; cases this), hB.trans (hb2.mono hB.size)⟩
              case measure => simp [RowKit.intOf]; omega
            | false =>
            cases x2 with
            | false =>
              clear hat
              go_wp2_with (first
                | (have GU := hb2; clear GU; go_at_call 50; refine (n2 _).mono ?_; rintro e w1 ⟨rfl, hw⟩; subst w1)
                | (go_at_call 50; refine (n1 _).mono ?_; rintro e w1 ⟨rfl, hw⟩; subst w1)
                | (go_at_call 51; refine (n3 _).mono ?_; rintro e w2 ⟨rfl, hb2⟩))
              go_roundw
              case rel => exact ⟨k + 1, by go_num, by omega, HNX.out (fun h => by have := h.2.2.2; rw [HX.out.2.1] at this; cases this), hB.trans (hb2.mono hB.size)⟩
              case measure => simp [RowKit.intOf]; omega
            | true =>
              have ho := hat HX.out.1 HX.out.2.2 HX.out.2.1
              subst ho
              have HF := Lib.hid hfin
              clear hat hfin
              go_wp2_with (first
                | (have GU := hb2; clear GU; go_at_call 50; refine (n2 _).mono ?_; rintro e w1 ⟨rfl, hw⟩; subst w1)
                | (go_at_call 50; refine (n1 _).mono ?_; rintro e w1 ⟨rfl, hw⟩; subst w1)
                | (go_at_call 51; refine (n3 _).mono ?_; rintro e w2 ⟨rfl, hb2⟩))
              go_ret2
              exact ⟨by rw [dirVal, HF.out]; rfl, hB.trans (hb2.mono hB.size)⟩
          · have u1 : ((S[k].toNat : Int) == 47) = false := beq_eq_false_iff_ne.2 (by omega)
            have HH : Hid (¬ (S.data.toList[k]? = some 47)) := Lib.hid (by rw [list_get S k hks]; exact fun e => h47 (by rw [Option.some.inj e]; rfl))
            clear h47
            go_wp2
            go_roundw
            case rel => exact ⟨k + 1, by go_num, by omega, HNX.out (fun h => HH.out h.1), hB⟩
            case measure => simp [RowKit.intOf]; omega
        · have hn := HNO.out fun i h47 => HN.out i (by have h1 := (List.getElem?_eq_some_iff.1 h47).1; have h2 := HSL.out; omega) h47
          subst hn
          go_wp2
          go_ret2
          exact ⟨rfl, hB⟩
    · have hn : O = none := by rw [← hO]; exact dir_tail hq
      have hy := bytes_lit (u.extract (u.size - 3) u.size) [46, 103, 111]
      rw [Lib.extract_to_end, decide_eq_false (by rw [hsl]; exact hq)] at hy
      obtain ⟨F, hF⟩ : ∃ F, u.extract (u.size - 3) u.size = F := ⟨_, rfl⟩
      rw [hF] at hy
      have z1 : (0 : Int) ≤ (u.size : Int) - 3 := by omega
      subst hn
      clear hO hsl hp hq
      go_enter Tryz.func13, Tryz.ntmps13
      go_wp2
      go_ret2
      exact ⟨rfl, Below.refl _ _⟩
  · have hn : O = none := by rw [← hO]; exact dir_head hp
    have hx := bytes_lit (u.extract 0 8) [102, 105, 108, 101, 58, 47, 47, 47]
    rw [ext_list, List.drop_zero, decide_eq_false (by exact hp)] at hx
    obtain ⟨E, hE⟩ : ∃ E, u.extract 0 8 = E := ⟨_, rfl⟩
    rw [hE] at hx
    subst hn
    clear hO hsl hp
    go_enter Tryz.func13, Tryz.ntmps13
    go_wp2
    go_ret2
    exact ⟨rfl, Below.refl _ _⟩
end Go.Proofs.Dc
/- D5: Open documents in memory; New, is, Valid, may, Get. -/
namespace Go.Proofs.Dc
open Go.RowKit Go.Proofs Go.Lib Go.Maps

theorem law9 : Keyed Tryz.prog 9 := string_keyed Tryz.underlying9
theorem zero38 (w : World) : (zeroValue 53).run Tryz.prog w = .ok (.agg #[.string ⟨#[]⟩, .string ⟨#[]⟩, .int .i64 0]) w := by kernel_rfl
def doc0 : Doc := ⟨[], [], 0⟩
theorem docEl0 : docEl (.agg #[.string ⟨#[]⟩, .string ⟨#[]⟩, .int .i64 0]) = some (docD doc0, []) := rfl
theorem own_tight {w : World} {M n : Nat} {L : List Doc} (h : w.ownsMap Tryz.prog 9 docEl M n (DD L)) : w.ownsMap Tryz.prog 9 docEl M L.length (DD L) := by
  obtain ⟨es, clock, h1, h2, _, h4⟩ := h
  refine ⟨es, clock, h1, h2, ?_, h4⟩
  have := congrArg Maps.size h4
  rw [DD_size] at this
  rw [this]
  simp [Maps.size, length_sorted]
/-- documents in memory -/
structure DV (w : World) (b M : Nat) (L : List Doc) : Prop where
  hd : w.heap[b]? = some (.cells #[.map (some M)] 83 (0, 0))
  mp : w.ownsMap Tryz.prog 9 docEl M L.length (DD L)
theorem DV.kept {w w' : World} {b M : Nat} {L : List Doc} (h : DV w b M L) {row : Option Nat} (hg : w.grownBy w' row) (h1 : some b ≠ row) (h2 : some M ≠ row) : DV w' b M L :=
  ⟨(hg.block b (Array.getElem?_eq_some_iff.1 h.hd).1 h1).trans h.hd, h.mp.kept hg h2⟩
theorem DV.below {w w' : World} {b M : Nat} {L : List Doc} (h : DV w b M L) (hb : Below w.heap.size w w') : DV w' b M L := h.kept (row := none) (gb_below hb) (by simp) (by simp)
theorem DV.lt {w : World} {b M : Nat} {L : List Doc} (h : DV w b M L) : b < w.heap.size ∧ M < w.heap.size := ⟨(Array.getElem?_eq_some_iff.1 h.hd).1, h.mp.lt⟩
theorem DV.ne {w : World} {b M : Nat} {L : List Doc} (h : DV w b M L) : b ≠ M := by
  rintro rfl
  obtain ⟨es, clock, h1, _⟩ := h.mp
  have := h.hd.symm.trans h1
  cases this
theorem DV.cell {w : World} {b M : Nat} {L : List Doc} (h : DV w b M L) : w.cell? ⟨b, 0, none⟩ = some (.map (some M)) := by
  have := h.hd
  simp [World.cell?, this]
theorem bytes_eta (x : ByteArray) : (⟨x.data.toList.toArray⟩ : ByteArray) = x := rfl
/-- what a lookup with ok gives -/
theorem DV.look {w : World} {b M : Nat} {L : List Doc} (h : DV w b M L) (u : ByteArray) (hu : u.size ≤ maxLen) :
    (Instr.lookup 81 (.map (some M)) (.string u) true).run Tryz.prog w = .ok (.tuple #[docVal ((getD? L u.data.toList).getD doc0), .bool (getD? L u.data.toList).isSome]) w := by
  obtain ⟨v, ps, hrun, hv⟩ := h.mp.look_ok law9 Tryz.underlying81 (zero38 w) docEl0 (Go.WideMaps.keyOf_string_mk Tryz.underlying9 hu)
  rw [DD_has] at hrun
  rw [DD_at] at hv
  have hv2 : docEl v = some (docD ((getD? L u.data.toList).getD doc0), ps) := by
    rw [hv]
    cases getD? L u.data.toList <;> rfl
  rw [docEl_inv hv2] at hrun
  exact hrun
theorem DV.put {w : World} {b M : Nat} {L : List Doc} (h : DV w b M L) (u t : ByteArray) (v : Int) (hu : u.size ≤ maxLen) (hL : L.length < maxLen) :
    ∃ w', (Instr.mapUpdate 81 (.map (some M)) (.string u) (.agg #[.string u, .string t, .int .i64 v])).run Tryz.prog w = .ok () w' ∧ DV w' b M (putD ⟨u.data.toList, t.data.toList, v⟩ L) ∧ w.grownBy w' (some M) := by
  obtain ⟨w', hrun, hown, hg⟩ := h.mp.update law9 Tryz.underlying81 hL (Go.WideMaps.keyOf_string_mk Tryz.underlying9 hu) (docEl_mk u t v)
  refine ⟨w', hrun, ⟨(hg.block b h.lt.1 (by intro e; exact h.ne (Option.some.inj e))).trans h.hd, ?_⟩, hg⟩
  have := DD_put L ⟨u.data.toList, t.data.toList, v⟩
  rw [this] at hown
  exact own_tight hown
theorem DV.size {w : World} {b M : Nat} {L : List Doc} (h : DV w b M L) (ty : TypeId) : (Builtin.len_ #[81] ty #[.map (some M)]).run Tryz.prog w = .ok (.int .i64 (L.length : Nat)) w := by
  have := h.mp.len Tryz.underlying81 ty
  rw [DD_size] at this
  exact this
theorem run_neq_map (p : Option Nat) (w : World) : (binOp .neq 81 (.map p) (.map none)).run Tryz.prog w = .ok (.bool (!p.isNone)) w := by
  simp only [binOp]
  simp [show Op.equal 81 (.map p) (.map none) = Op.equalIn (9999 + 1) 81 (.map p) (.map none) from rfl, run_equalIn_map_nil_sl w 9999 81 9 53 p Tryz.underlying81]
set_option maxRecDepth 100000 in
theorem is_any (w : World) (b M : Nat) (L : List Doc) (h : DV w b M L) : Calls Tryz.prog 63 #[.pointer (some ⟨b, 0, none⟩)] w fun e w' => e = .returned (.bool true) ∧ w = w' := by
  have c := h.cell
  have hr := run_neq_map (some M)
  clear h
  go_enter Tryz.func63, Tryz.ntmps63
  go_wp2
  go_ret
  exact ⟨rfl, rfl⟩
end Go.Proofs.Dc
/- D6: docs.New, may, Get, Open. -/
namespace Go.Proofs.Dc
open Go.RowKit Go.Proofs Go.Lib Go.Maps

theorem space_grown {w w' : World} {row : Option Nat} (h : SpaceV w) (hg : w.grownBy w' row) (hr : some 0 ≠ row) : SpaceV w' := by
  have hgn : Tryz.prog.globalNamed "strings.asciiSpace" = some 0 := by kernel_rfl
  unfold SpaceV Lib.TabIs World.var? at h ⊢
  rw [hgn] at h ⊢
  simp only [Option.bind_some] at h ⊢
  have hlt : 0 < w.heap.size := by
    rcases Nat.lt_or_ge 0 w.heap.size with h' | h'
    · exact h'
    · rw [Array.getElem?_eq_none h'] at h; cases h
  rw [hg.block 0 hlt hr]
  exact h
theorem below_gb {w w' : World} {b B : Nat} (hB : B ≤ b) (hz : B ≤ w.heap.size) (hg : w.grownBy w' (some b)) : Below B w w' := (Below.refl B w).grown hg hz (fun k hk => by cases hk; omega)
/-- the tables lie in the first six blocks -/
theorem Tabs.six {w w' : World} (h : Tabs w) (hb : Below 6 w w') : Tabs w' := by
  have hlo := h.lo
  refine ⟨?_, ?_, ?_, Nat.lt_of_lt_of_le h.lo hb.size⟩
  · obtain ⟨m, hm⟩ := h.mx
    exact ⟨m, (hb.cell (p := ⟨1, 0, none⟩) (by show 1 < 6; omega)).trans hm⟩
  · have hgn : Tryz.prog.globalNamed "strings.asciiSpace" = some 0 := by kernel_rfl
    have h2 := h.sp
    unfold SpaceV Lib.TabIs World.var? at h2 ⊢
    rw [hgn] at h2 ⊢
    simp only [Option.bind_some] at h2 ⊢
    rw [hb.block 0 (by omega)]
    exact h2
  · have h3 := h.u8
    exact ⟨fun c hc => (hb.cell (by show 3 < 6; omega)).trans (h3.1 c hc), fun i hi => ⟨(hb.cell (by show 4 < 6; omega)).trans (h3.2 i hi).1, (hb.cell (by show 4 < 6; omega)).trans (h3.2 i hi).2⟩⟩
theorem Tabs.below {w w' : World} (h : Tabs w) (hb : Below w.heap.size w w') : Tabs w' := h.six (hb.mono (by have := h.lo; omega))
theorem Tabs.grown {w w' : World} (h : Tabs w) {M : Nat} (hg : w.grownBy w' (some M)) (hM : 5 < M) : Tabs w' := h.six (below_gb (by omega) (by have := h.lo; omega) hg)
theorem valid_any (s : ByteArray) (w : World) (hs : s.size ≤ 9223372036854775807) (hT : Lib.Utf8Tabs 3 4 w) : Calls Tryz.prog 101 #[.string s] w fun e w' => e = .returned (.bool (Lib.validD s.data.toList)) ∧ Below w.heap.size w w' := by
  have h := Tryz.utf8_ValidString s w hs hT
  go_enter Tryz.func101, Tryz.ntmps101
  go_wp2_with (first | (go_at_call 115; refine h.mono ?_; rintro e w1 ⟨rfl, hb⟩))
  go_ret
  exact ⟨rfl, hb⟩
def mayE (t : List UInt8) : Int := if validD t = false then 8 else if 65536 < t.length then 3 else 0
set_option maxRecDepth 100000 in
theorem may_any (s : ByteArray) (w : World) (hs : s.size ≤ 9223372036854775807) (hT : Lib.Utf8Tabs 3 4 w) : Calls Tryz.prog 80 #[.string s] w fun e w' => e = .returned (.int .i64 (mayE s.data.toList)) ∧ Below w.heap.size w w' := by
  have h := valid_any s w hs hT
  obtain ⟨E, hE⟩ : ∃ E, mayE s.data.toList = E := ⟨_, rfl⟩
  rw [hE]
  unfold mayE at hE
  rw [← Lib.size_eq] at hE
  obtain ⟨v, hv⟩ : ∃ v, validD s.data.toList = v := ⟨_, rfl⟩
  rw [hv] at hE h
  clear hv
  cases v with
  | false =>
    rw [if_pos rfl] at hE
    subst hE
    go_enter Tryz.func80, Tryz.ntmps80
    go_wp2_with (first | (go_at_call 101; refine h.mono ?_; rintro e w1 ⟨rfl, hb⟩))
    go_ret
    exact ⟨rfl, hb⟩
  | true =>
    rw [if_neg (by decide)] at hE
    by_cases hl : (65536 : Int) < (s.size : Int)
    · rw [if_pos (by omega)] at hE
      subst hE
      go_enter Tryz.func80, Tryz.ntmps80
      go_wp2_with (first | (go_at_call 101; refine h.mono ?_; rintro e w1 ⟨rfl, hb⟩))
      go_ret
      exact ⟨rfl, hb⟩
    · rw [if_neg (by omega)] at hE
      subst hE
      go_enter Tryz.func80, Tryz.ntmps80
      go_wp2_with (first | (go_at_call 101; refine h.mono ?_; rintro e w1 ⟨rfl, hb⟩))
      go_ret
      exact ⟨rfl, hb⟩
set_option maxRecDepth 100000 in
theorem new_any (w : World) : Calls Tryz.prog 11 #[] w fun e w' => ∃ b M, e = .returned (.pointer (some ⟨b, 0, none⟩)) ∧ DV w' b M [] ∧ Below w.heap.size w w' ∧ w.heap.size ≤ b ∧ w.heap.size ≤ M := by
  have hmm := @run_makeMap Tryz.prog
  go_enter Tryz.func11, Tryz.ntmps11
  go_wp2
  go_ret
  refine ⟨w.heap.size + 1, w.heap.size, rfl, ⟨alloc_new _ _ _ (by simp), ?_⟩, ((Below.refl _ _).alloc (Nat.le_refl _) _).alloc (by simp) _, by omega, Nat.le_refl _⟩
  exact (World.ownsMap_made w Tryz.prog 9 docEl).alloc _
set_option maxRecDepth 100000 in
set_option maxHeartbeats 1000000 in
theorem get_any (w : World) (b M : Nat) (L : List Doc) (h : DV w b M L) (u : ByteArray) (hu : u.size ≤ maxLen) : Calls Tryz.prog 61 #[.pointer (some ⟨b, 0, none⟩), .string u] w fun e w' =>
    e = .returned (.tuple #[docVal ((getD? L u.data.toList).getD doc0), .bool (getD? L u.data.toList).isSome]) ∧ Below w.heap.size w w' := by
  have hi := fun w h => is_any w b M L h
  have hlook := fun w (h : DV w b M L) => h.look u hu
  have H := Lib.hid h
  have hlt := h.lt.1
  clear h
  generalize (getD? L u.data.toList).getD doc0 = D at hlook ⊢
  generalize (getD? L u.data.toList).isSome = B at hlook ⊢
  have hV := H.out.below ((Below.refl w.heap.size w).alloc (Nat.le_refl _) (.cells #[.string ⟨#[]⟩, .string ⟨#[]⟩, .int .i64 0] 53))
  have bV : Below w.heap.size w (w.alloc (.cells #[.string ⟨#[]⟩, .string ⟨#[]⟩, .int .i64 0] 53)) := (Below.refl w.heap.size w).alloc (Nat.le_refl _) _
  have hrun := hlook _ hV
  have hc := hV.cell
  have hi2 := hi _ hV
  unfold docVal at hrun ⊢
  obtain ⟨A, hA⟩ : ∃ A : ByteArray, (⟨D.uri.toArray⟩ : ByteArray) = A := ⟨_, rfl⟩
  obtain ⟨E, hE⟩ : ∃ A : ByteArray, (⟨D.text.toArray⟩ : ByteArray) = A := ⟨_, rfl⟩
  rw [hA, hE] at hrun ⊢
  clear hlook hi hA hE hV
  go_enter Tryz.func61, Tryz.ntmps61
  go_wp2_with (first | (go_at_call 63; refine hi2.mono ?_; rintro e w1 ⟨rfl, hw⟩; subst w1))
  exact bodyPost_ret (v := .tuple #[.agg #[.string A, .string E, .int .i64 D.ver], .bool B]) (by simp [results, Tryz.results61, go_sem]) rfl ⟨rfl, ((Below.refl _ _).alloc (Nat.le_refl _) _).alloc (by simp) _⟩
/-- what Open answers -/
def openE (L : List Doc) (u t : List UInt8) : Int := if (dirV u).isSome = false then 9 else if (getD? L u).isSome = true then 6 else if 32 ≤ L.length then 7 else mayE t
def openL (L : List Doc) (u t : List UInt8) (v : Int) : List Doc := if openE L u t = 0 then putD ⟨u, t, v⟩ L else L
theorem mayE_le (t : List UInt8) : 0 ≤ mayE t ∧ mayE t ≤ 8 := by
  unfold mayE
  split
  · omega
  · split <;> omega
theorem dirVal_ok (o : Option (List UInt8)) : ∃ x : ByteArray, dirVal o = .tuple #[.string x, .bool o.isSome] := by
  cases o with
  | none => exact ⟨_, rfl⟩
  | some d => exact ⟨_, rfl⟩
set_option maxRecDepth 100000 in
set_option maxHeartbeats 4000000 in
theorem open_any (w : World) (hT : Tabs w) (b M : Nat) (L : List Doc) (h : DV w b M L) (_hM : 5 < M) (u t : ByteArray) (v : Int) (hu : u.size ≤ 1000000) (ht : t.size ≤ 9223372036854775807) (hL : L.length ≤ 1000000) :
    Calls Tryz.prog 41 #[.pointer (some ⟨b, 0, none⟩), .string u, .string t, .int .i64 v] w fun e w' => e = .returned (.int .i64 (openE L u.data.toList t.data.toList)) ∧ DV w' b M (openL L u.data.toList t.data.toList v) ∧ w.grownBy w' (some M) := by
  have hi := is_any w b M L h
  have hdir := dir_any u w hu hT.mx (fun w' hb => (hT.below hb).sp)
  obtain ⟨dn, hdn⟩ := dirVal_ok (dirV u.data.toList)
  rw [hdn] at hdir
  obtain ⟨ok, hok⟩ : ∃ x, (dirV u.data.toList).isSome = x := ⟨_, rfl⟩
  obtain ⟨th, hth⟩ : ∃ x, (getD? L u.data.toList).isSome = x := ⟨_, rfl⟩
  have hlook := fun w (h : DV w b M L) => h.look u (by unfold maxLen; omega)
  have hsize := fun w (h : DV w b M L) ty => h.size ty
  have hput := fun w (h : DV w b M L) => h.put u t v (by unfold maxLen; omega) (by unfold maxLen; omega)
  have hmay := fun w hT => may_any t w ht hT
  obtain ⟨E, hE⟩ : ∃ E, openE L u.data.toList t.data.toList = E := ⟨_, rfl⟩
  obtain ⟨LL, hLL⟩ : ∃ l, openL L u.data.toList t.data.toList v = l := ⟨_, rfl⟩
  unfold openL at hLL
  rw [hE] at hLL ⊢
  unfold openL
  rw [hE, hLL]
  unfold openE at hE
  rw [hok, hth] at hE
  rw [hok] at hdir
  simp only [hth] at hlook
  generalize (getD? L u.data.toList).getD doc0 = D at hlook
  unfold docVal at hlook
  obtain ⟨A1, hA1⟩ : ∃ A : ByteArray, (⟨D.uri.toArray⟩ : ByteArray) = A := ⟨_, rfl⟩
  obtain ⟨A2, hA2⟩ : ∃ A : ByteArray, (⟨D.text.toArray⟩ : ByteArray) = A := ⟨_, rfl⟩
  simp only [hA1, hA2] at hlook
  have H := Lib.hid h
  have hlt := h.lt
  have HLL := Lib.hid hLL
  have HE := Lib.hid hE
  clear h hok hth hdn hA1 hA2 hLL hE
  cases ok with
  | false =>
    have he : E = 9 := by rw [← HE.out]; rfl
    subst he
    have hl : LL = L := by rw [← HLL.out]; exact if_neg (by decide)
    subst hl
    clear HE HLL
    go_enter Tryz.func41, Tryz.ntmps41
    go_wp2_with (first
      | (go_at_call 63; refine hi.mono ?_; rintro e w1 ⟨rfl, hw⟩; subst w1)
      | (go_at_call 12; refine hdir.mono ?_; rintro e w1 ⟨rfl, hb1⟩
         have h1 := H.out.below hb1
         have hr := hlook _ h1
         have c1 := h1.cell
         have bA : Below w1.heap.size w1 (w1.alloc (.cells #[.string A1, .string A2, .int .i64 D.ver] 53)) := (Below.refl _ _).alloc (Nat.le_refl _) _
         have h2 := h1.below bA
         have c2 := h2.cell
         have hz := hsize _ h2
         have b2 := hb1.trans (bA.mono hb1.size)
         have H2 := Lib.hid h2
         clear h1 h2))
    go_ret
    exact ⟨rfl, H2.out, gb_below b2⟩
  | true =>
  cases th with
  | true =>
    have he : E = 6 := by rw [← HE.out]; rfl
    subst he
    have hl : LL = L := by rw [← HLL.out]; exact if_neg (by decide)
    subst hl
    clear HE HLL
    go_enter Tryz.func41, Tryz.ntmps41
    go_wp2_with (first
      | (go_at_call 63; refine hi.mono ?_; rintro e w1 ⟨rfl, hw⟩; subst w1)
      | (go_at_call 12; refine hdir.mono ?_; rintro e w1 ⟨rfl, hb1⟩
         have h1 := H.out.below hb1
         have hr := hlook _ h1
         have c1 := h1.cell
         have bA : Below w1.heap.size w1 (w1.alloc (.cells #[.string A1, .string A2, .int .i64 D.ver] 53)) := (Below.refl _ _).alloc (Nat.le_refl _) _
         have h2 := h1.below bA
         have c2 := h2.cell
         have hz := hsize _ h2
         have b2 := hb1.trans (bA.mono hb1.size)
         have H2 := Lib.hid h2
         clear h1 h2))
    go_ret
    exact ⟨rfl, H2.out, gb_below b2⟩
  | false =>
  by_cases h32 : (32 : Int) ≤ (L.length : Int)
  · have he : E = 7 := by rw [← HE.out]; rw [if_neg (by decide), if_neg (by decide), if_pos (by omega)]
    subst he
    have hl : LL = L := by rw [← HLL.out]; exact if_neg (by decide)
    subst hl
    clear HE HLL
    go_enter Tryz.func41, Tryz.ntmps41
    go_wp2_with (first
      | (go_at_call 63; refine hi.mono ?_; rintro e w1 ⟨rfl, hw⟩; subst w1)
      | (go_at_call 12; refine hdir.mono ?_; rintro e w1 ⟨rfl, hb1⟩
         have h1 := H.out.below hb1
         have hr := hlook _ h1
         have c1 := h1.cell
         have bA : Below w1.heap.size w1 (w1.alloc (.cells #[.string A1, .string A2, .int .i64 D.ver] 53)) := (Below.refl _ _).alloc (Nat.le_refl _) _
         have h2 := h1.below bA
         have c2 := h2.cell
         have hz := hsize _ h2
         have b2 := hb1.trans (bA.mono hb1.size)
         have H2 := Lib.hid h2
         clear h1 h2))
    go_ret
    exact ⟨rfl, H2.out, gb_below b2⟩
  have hE2 : E = mayE t.data.toList := by rw [← HE.out, if_neg (by decide), if_neg (by decide), if_neg (by omega)]
  rw [← hE2] at hmay
  clear HE
  by_cases hE0 : E = 0
  · subst hE0
    clear hE2
    have hl : LL = putD ⟨u.data.toList, t.data.toList, v⟩ L := by rw [← HLL.out]; exact if_pos rfl
    subst hl
    clear HLL
    go_enter Tryz.func41, Tryz.ntmps41
    go_wp2_with (first
      | (go_at_call 63; refine hi.mono ?_; rintro e w1 ⟨rfl, hw⟩; subst w1)
      | (go_at_call 12; refine hdir.mono ?_; rintro e w1 ⟨rfl, hb1⟩
         have h1 := H.out.below hb1
         have hr := hlook _ h1
         have c1 := h1.cell
         have bA : Below w1.heap.size w1 (w1.alloc (.cells #[.string A1, .string A2, .int .i64 D.ver] 53)) := (Below.refl _ _).alloc (Nat.le_refl _) _
         have h2 := h1.below bA
         have c2 := h2.cell
         have hz := hsize _ h2
         have b2 := hb1.trans (bA.mono hb1.size)
         have H2 := Lib.hid h2
         clear h1 h2)
      | (go_at_call 80; refine (hmay _ (hT.below b2).u8).mono ?_; rintro e w3 ⟨rfl, hb3⟩
         have h3 := H2.out.below hb3
         have c3 := h3.cell
         have b3 := b2.trans (hb3.mono b2.size)
         have H3 := Lib.hid h3
         clear h3
         obtain ⟨w4, hrun4, hd4, hg4⟩ := hput _ H3.out
         have HD4 := Lib.hid hd4
         have HG4 := Lib.hid hg4
         clear hd4 hg4))
    go_ret
    exact ⟨rfl, HD4.out, (gb_below b3).trans HG4.out⟩
  · have hl : LL = L := by rw [← HLL.out]; exact if_neg hE0
    subst hl
    have u0 : (E == 0) = false := by simpa using hE0
    clear HLL hE0 hE2
    go_enter Tryz.func41, Tryz.ntmps41
    go_wp2_with (first
      | (go_at_call 63; refine hi.mono ?_; rintro e w1 ⟨rfl, hw⟩; subst w1)
      | (go_at_call 12; refine hdir.mono ?_; rintro e w1 ⟨rfl, hb1⟩
         have h1 := H.out.below hb1
         have hr := hlook _ h1
         have c1 := h1.cell
         have bA : Below w1.heap.size w1 (w1.alloc (.cells #[.string A1, .string A2, .int .i64 D.ver] 53)) := (Below.refl _ _).alloc (Nat.le_refl _) _
         have h2 := h1.below bA
         have c2 := h2.cell
         have hz := hsize _ h2
         have b2 := hb1.trans (bA.mono hb1.size)
         have H2 := Lib.hid h2
         clear h1 h2)
      | (go_at_call 80; refine (hmay _ (hT.below b2).u8).mono ?_; rintro e w3 ⟨rfl, hb3⟩
         have h3 := H2.out.below hb3
         have c3 := h3.cell
         have b3 := b2.trans (hb3.mono b2.size)
         have H3 := Lib.hid h3
         clear h3))
    go_ret
    exact ⟨rfl, H3.out, gb_below b3⟩
end Go.Proofs.Dc
