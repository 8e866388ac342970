/- What open documents keep, whatever is done. No program in sight. -/
import Derived.Test.YtcenfckjkboabaaDoorD18
import Derived.Test.YtcenfckjkboabaaDoorD19
import Derived.Test.YtcenfckjkboabaaDoorD20
namespace Go.Proofs.Dc
open Go.Lib

/-- what all open documents are -/
structure Inv (L : List Doc) : Prop where
  ord : Ord L
  len : L.length ≤ 32
  all : ∀ d ∈ L, (dirV d.uri).isSome = true ∧ validD d.text = true ∧ d.text.length ≤ 65536
theorem Inv.nil : Inv [] := ⟨Ord.nil, Nat.zero_le _, fun d hd => by cases hd⟩
theorem mayE_zero {t : List UInt8} (h : mayE t = 0) : validD t = true ∧ t.length ≤ 65536 := by
  unfold mayE at h
  split at h
  · omega
  · rename_i hv
    split at h
    · omega
    · exact ⟨by simpa using hv, by omega⟩
theorem openE_zero {L : List Doc} {u t : List UInt8} (h : openE L u t = 0) : (dirV u).isSome = true ∧ getD? L u = none ∧ L.length < 32 ∧ validD t = true ∧ t.length ≤ 65536 := by
  unfold openE at h
  split at h
  · omega
  · rename_i h1
    split at h
    · omega
    · rename_i h2
      split at h
      · omega
      · exact ⟨Bool.of_not_eq_false h1, by simpa using h2, by omega, mayE_zero h⟩
theorem put_new {L : List Doc} {d : Doc} (h : getD? L d.uri = none) : putD d L = insD d L := by
  unfold putD
  rw [without_none h]
theorem Inv.opened {L : List Doc} (h : Inv L) (u t : List UInt8) (v : Int) : Inv (openL L u t v) := by
  unfold openL
  split
  · rename_i he
    obtain ⟨h1, h2, h3, h4, h5⟩ := openE_zero he
    refine ⟨h.ord.put _, ?_, fun d hd => ?_⟩
    · rw [put_new (d := ⟨u, t, v⟩) h2, length_ins]; omega
    · rcases mem_put hd with rfl | hd
      · exact ⟨h1, h4, h5⟩
      · exact h.all d hd
  · exact h
theorem Inv.closed {L : List Doc} (h : Inv L) (u : List UInt8) : Inv (without u L) :=
  ⟨h.ord.without u, Nat.le_trans (List.length_filter_le _ _) h.len, fun d hd => h.all d (List.mem_filter.1 hd).1⟩
theorem without_lt {L : List Doc} {u : List UInt8} {d : Doc} (h : getD? L u = some d) : (without u L).length < L.length := by
  obtain ⟨h1, h2⟩ := get_mem h
  exact List.length_filter_lt_length_iff_exists.2 ⟨d, h1, by simp [h2]⟩
theorem Inv.changed {L : List Doc} (h : Inv L) (u : List UInt8) (v : Int) (cs : List Chg) : Inv (chgL L u v cs) := by
  unfold chgL
  split
  · exact h
  · rename_i d hg
    split
    · exact h
    · split
      · rename_i he
        obtain ⟨h1, h2⟩ := get_mem hg
        obtain ⟨a1, a2, a3⟩ := h.all d h1
        have hts : (textB d).data.toList = d.text := rfl
        refine ⟨h.ord.put _, ?_, fun x hx => ?_⟩
        · unfold putD
          rw [length_ins]
          have k1 := without_lt hg
          have k2 := h.len
          simp only
          omega
        · rcases mem_put hx with rfl | hx
          · refine ⟨by rw [← h2]; exact a1, after_valid (s := textB d) (by rw [hts]; exact a2) he, ?_⟩
            have := afterV_size (textB d) cs
            rw [Lib.size_eq, Lib.size_eq, hts] at this
            simp only
            omega
          · exact h.all x hx
      · exact h
theorem open_keep {L : List Doc} {u' : List UInt8} {d : Doc} (h : getD? L u' = some d) (u t : List UInt8) (v : Int) : getD? (openL L u t v) u' = some d := by
  unfold openL
  split
  · rename_i he
    obtain ⟨_, h2, _⟩ := openE_zero he
    rw [get_put_other L ⟨u, t, v⟩ (fun e => by rw [e, h2] at h; cases h)]
    exact h
  · exact h
theorem chg_rise {L : List Doc} {u : List UInt8} {d : Doc} (h : getD? L u = some d) (v : Int) (cs : List Chg) : ∃ d2, getD? (chgL L u v cs) u = some d2 ∧ (d2 = d ∨ d.ver < d2.ver) := by
  unfold chgL
  rw [h]
  simp only
  split
  · exact ⟨d, h, .inl rfl⟩
  · split
    · exact ⟨_, get_put L ⟨u, _, v⟩, .inr (by simp only; omega)⟩
    · exact ⟨d, h, .inl rfl⟩
/-- the documents behind the fillers -/
def fillsL : Nat → List Doc → List Doc
  | 0, L => L
  | n + 1, L => openL (fillsL n L) (fillL n) [] 1
theorem Inv.fills {L : List Doc} (h : Inv L) : ∀ n, Inv (fillsL n L)
  | 0 => h
  | n + 1 => (h.fills n).opened _ _ _
theorem fills_keep {L : List Doc} {u : List UInt8} {d : Doc} (h : getD? L u = some d) : ∀ n, getD? (fillsL n L) u = some d
  | 0 => h
  | n + 1 => open_keep (fills_keep h n) _ _ _
end Go.Proofs.Dc
