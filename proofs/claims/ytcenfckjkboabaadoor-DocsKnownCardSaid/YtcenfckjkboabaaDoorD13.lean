/- Documents in the order of their URIs, by plain functions. No program in sight. -/
import Derived.Test.YtcenfckjkboabaaDoorDq
import Derived.Sort.KeysCollected
namespace Go.Proofs.Dc
open Go.Lib

theorem bb_irrefl : ∀ a : List UInt8, bytesBefore a a = false
  | [] => rfl
  | a :: r => by rw [bytesBefore, bb_irrefl r]; simp
theorem bb_cons {a b : UInt8} {r s : List UInt8} : bytesBefore (a :: r) (b :: s) = true ↔ a < b ∨ (a = b ∧ bytesBefore r s = true) := by
  rw [bytesBefore]; simp
theorem bb_trans : ∀ {a b c : List UInt8}, bytesBefore a b = true → bytesBefore b c = true → bytesBefore a c = true
  | [], [], _, h, _ => by cases h
  | [], _ :: _, [], _, h => by cases h
  | [], _ :: _, _ :: _, _, _ => rfl
  | _ :: _, [], _, h, _ => by cases h
  | _ :: _, _ :: _, [], _, h => by cases h
  | a :: r, b :: s, c :: t, h1, h2 => by
    rw [bb_cons] at h1 h2 ⊢
    rcases h1 with h1 | ⟨rfl, h1⟩
    · rcases h2 with h2 | ⟨rfl, h2⟩
      · exact .inl (UInt8.lt_trans h1 h2)
      · exact .inl h1
    · rcases h2 with h2 | ⟨rfl, h2⟩
      · exact .inl h2
      · exact .inr ⟨rfl, bb_trans h1 h2⟩
theorem bb_total : ∀ {a b : List UInt8}, bytesBefore a b = false → bytesBefore b a = false → a = b
  | [], [], _, _ => rfl
  | [], _ :: _, h, _ => by cases h
  | _ :: _, [], _, h => by cases h
  | a :: r, b :: s, h1, h2 => by
    have k1 : ¬ (a < b ∨ (a = b ∧ bytesBefore r s = true)) := fun h => by rw [bb_cons.2 h] at h1; cases h1
    have k2 : ¬ (b < a ∨ (b = a ∧ bytesBefore s r = true)) := fun h => by rw [bb_cons.2 h] at h2; cases h2
    have hab : a = b := by
      have n1 : ¬ a < b := fun h => k1 (.inl h)
      have n2 : ¬ b < a := fun h => k2 (.inl h)
      exact UInt8.le_antisymm (UInt8.not_lt.1 n2) (UInt8.not_lt.1 n1)
    subst hab
    have e1 : bytesBefore r s = false := by
      cases h : bytesBefore r s with
      | false => rfl
      | true => exact absurd (.inr ⟨rfl, h⟩) k1
    have e2 : bytesBefore s r = false := by
      cases h : bytesBefore s r with
      | false => rfl
      | true => exact absurd (.inr ⟨rfl, h⟩) k2
    rw [bb_total e1 e2]
theorem bb_asymm {a b : List UInt8} (h : bytesBefore a b = true) : bytesBefore b a = false := by
  cases h2 : bytesBefore b a with
  | false => rfl
  | true => have := bb_trans h h2; rw [bb_irrefl] at this; cases this
/-- in the order of their URIs, no URI twice -/
def Ord (L : List Doc) : Prop := L.Pairwise fun x y => bytesBefore x.uri y.uri = true
theorem Ord.nil : Ord [] := List.Pairwise.nil
theorem Ord.without {L : List Doc} (h : Ord L) (u : List UInt8) : Ord (without u L) := List.Pairwise.filter _ h
theorem mem_ins_iff {x y : Doc} : ∀ {L : List Doc}, y ∈ insD x L ↔ y = x ∨ y ∈ L
  | [] => by simp [insD]
  | z :: r => by
    rw [insD]
    split
    · simp
    · rw [List.mem_cons, mem_ins_iff, List.mem_cons]
      constructor
      · rintro (h | h | h)
        · exact .inr (.inl h)
        · exact .inl h
        · exact .inr (.inr h)
      · rintro (h | h | h)
        · exact .inr (.inl h)
        · exact .inl h
        · exact .inr (.inr h)
theorem Ord.ins {x : Doc} : ∀ {L : List Doc}, Ord L → (∀ y ∈ L, y.uri ≠ x.uri) → Ord (insD x L)
  | [], _, _ => List.pairwise_singleton _ _
  | y :: r, h, hn => by
    obtain ⟨h1, h2⟩ := List.pairwise_cons.1 h
    rw [insD]
    split
    · rename_i hb
      refine List.pairwise_cons.2 ⟨fun z hz => ?_, h⟩
      rcases List.mem_cons.1 hz with rfl | hz
      · exact hb
      · exact bb_trans hb (h1 z hz)
    · rename_i hb
      refine List.pairwise_cons.2 ⟨fun z hz => ?_, Ord.ins h2 fun z hz => hn z (List.mem_cons_of_mem _ hz)⟩
      rcases mem_ins_iff.1 hz with rfl | hz
      · cases hc : bytesBefore y.uri z.uri with
        | true => rfl
        | false => exact absurd (bb_total hc (by simpa using hb)) (hn y List.mem_cons_self)
      · exact h1 z hz
theorem Ord.put {L : List Doc} (h : Ord L) (d : Doc) : Ord (putD d L) :=
  Ord.ins (h.without d.uri) fun y hy => by simpa using (List.mem_filter.1 hy).2
theorem Ord.inj {L : List Doc} (h : Ord L) : ∀ {a b : Doc}, a ∈ L → b ∈ L → a.uri = b.uri → a = b := by
  induction L with
  | nil => intro a b ha; cases ha
  | cons x r ih =>
    obtain ⟨h1, h2⟩ := List.pairwise_cons.1 h
    intro a b ha hb e
    rcases List.mem_cons.1 ha with ha | ha
    · rcases List.mem_cons.1 hb with hb | hb
      · rw [ha, hb]
      · have := h1 b hb
        rw [← ha, e, bb_irrefl] at this
        cases this
    · rcases List.mem_cons.1 hb with hb | hb
      · have := h1 a ha
        rw [← hb, e, bb_irrefl] at this
        cases this
      · exact ih h2 ha hb e
theorem Ord.get {L : List Doc} (h : Ord L) {d : Doc} (hd : d ∈ L) : getD? L d.uri = some d := by
  cases hg : getD? L d.uri with
  | none => exact absurd hg (by unfold getD?; rw [List.find?_eq_none]; exact fun hh => by have := hh d hd; simp at this)
  | some e => obtain ⟨h1, h2⟩ := get_mem hg; rw [h.inj h1 hd h2]
theorem strKeys_DD (L : List Doc) : strKeys (DD L) = L.map (·.uri) := by
  show (L.map entry).map _ = _
  rw [List.map_map]
  rfl
/-- documents that have come, by their keys -/
theorem perm_of_keys {ds L : List Doc} (hO : Ord L) (hm : ∀ d ∈ ds, d ∈ L) (hp : (ds.map (·.uri)).Perm (strKeys (DD L))) : ds.Perm L := by
  rw [strKeys_DD] at hp
  have nodupL : (L.map (·.uri)).Nodup := List.pairwise_map.2 (hO.imp fun {a b} h e => by rw [e, bb_irrefl] at h; cases h)
  have nodupD : (ds.map (·.uri)).Nodup := (hp.nodup_iff).2 nodupL
  have n1 : ds.Nodup := (List.pairwise_map.1 nodupD).imp fun {a b} h e => h (by rw [e])
  have n2 : L.Nodup := (List.pairwise_map.1 nodupL).imp fun {a b} h e => h (by rw [e])
  refine (List.perm_ext_iff_of_nodup n1 n2).2 fun d => ⟨hm d, fun hd => ?_⟩
  have hu : d.uri ∈ ds.map (·.uri) := hp.mem_iff.2 (List.mem_map.2 ⟨d, hd, rfl⟩)
  obtain ⟨e, he, heu⟩ := List.mem_map.1 hu
  rw [← hO.inj (hm e he) hd heu]
  exact he
theorem sorted_eq {ds L : List Doc} (hO : Ord L) (hp : ds.Perm L) (hs : ds.Pairwise fun x y => bytesBefore y.uri x.uri = false) : ds = L := by
  refine List.Perm.eq_of_pairwise (le := fun x y => bytesBefore y.uri x.uri = false) (fun a b ha hb h1 h2 => ?_) hs (hO.imp fun {a b} h => bb_asymm h) hp
  exact hO.inj (hp.mem_iff.1 ha) hb (bb_total h2 h1)
end Go.Proofs.Dc
