/- The walks of the reference's Units, Byte, UnitsAt, Valid. -/
import Derived.Test.YtipbojiialfmeaaR2
import Derived.Test.YtipbojiialfmeaaPlain2
namespace Go.Proofs.Ytipbojiialfmeaa
open Go.RowKit Go.Proofs.Utf Go.Lib

theorem row_cell {w : World} {b n g cap : Nat} {rows : List Row} (h : w.ownsRow b 67 4 (.slice (some ⟨g, 0, none⟩) n cap) n (rowsCells rows)) (k : Nat) (hk : k < rows.length) (j : Nat) (hj : j < 4) (u : Value) (hu : (rowCells rows[k])[j]? = some u) :
    w.cell? ⟨g, k * 4 + j, none⟩ = some u := by
  have := h.cells (g := g) rfl (k * 4 + j) u (by rw [rowsCells, flat4 rowCells (fun _ => rfl) rows k hk j hj, hu])
  rwa [show (Addr.add ⟨g, 0, none⟩ (k * 4 + j)) = ⟨g, k * 4 + j, none⟩ by unfold Addr.add; split <;> simp_all] at this
theorem rowsCells_length (rows : List Row) : (rowsCells rows).length = 4 * rows.length := by
  unfold rowsCells
  induction rows with
  | nil => rfl
  | cons r t ih =>
    rw [List.flatMap_cons, List.length_append, ih]
    simp only [rowCells, List.length_cons, List.length_nil]
    omega
theorem row_shape {w : World} {b n : Nat} {v : Value} {rows : List Row} (h : w.ownsRow b 67 4 v n (rowsCells rows)) : (v = .slice none 0 0 ∧ rows = []) ∨ ∃ g cap, v = .slice (some ⟨g, 0, none⟩) n cap ∧ n = rows.length ∧ n ≤ 9223372036854775807 := by
  have hl := rowsCells_length rows
  obtain ⟨h1, h2⟩ := h
  rcases h2 with ⟨hv, h0⟩ | ⟨g, cap, cur, hv, _, _, hc, hm, _⟩
  · refine .inl ⟨hv, ?_⟩
    exact List.eq_nil_of_length_eq_zero (by omega)
  · refine .inr ⟨g, cap, hv, by omega, ?_⟩
    unfold maxLen at hm
    omega
set_option maxHeartbeats 400000 in
theorem refByte_any (s : ByteArray) (want : Int) (w : World) (hs : s.size ≤ 1048576) (h0 : 0 ≤ want) :
    Calls Try.prog 31 #[.string s, .int .i64 want] w fun e w' => e = .returned (.int .i64 (byteR (rowsP (pieces s.data.toList) 0) 0 want s.size)) ∧ Below w.heap.size w w' := by
  have hlen := pieces_length _ s.data.toList (Nat.le_refl _)
  rw [← Lib.size_eq] at hlen
  have hu := rowsP_units (pieces s.data.toList) 0
  have hto := rowsP_to (pieces s.data.toList) 0
  rw [widthP_pieces _ _ (Nat.le_refl _), ← Lib.size_eq] at hto
  have hlr := rowsP_length (pieces s.data.toList) 0
  have cP := pieces_any s w hs
  generalize rowsP (pieces s.data.toList) 0 = rows at *
  rw [← hlr] at cP hlen
  clear hlr
  have HU := Lib.hid hu
  have HT := Lib.hid hto
  clear hu hto
  go_enter Try.func31, Try.ntmps31
  go_wp2_with (go_at_call 37; refine cP.mono ?_; rintro e w1 ⟨v, rfl, hown, hb⟩)
  rcases row_shape hown with ⟨rfl, rfl⟩ | ⟨g, cap, rfl, _, _⟩
  · refine wp_loop_rounds 1 ?_
    rw [rounds_succ]
    go_wp2
    go_ret
    exact ⟨rfl, hb⟩
  · go_loop [6, 7] (fun n i => ∃ k acc : Nat, i = .int .i64 k ∧ n = .int .i64 acc ∧ k ≤ rows.length ∧ acc ≤ 2 * k ∧ byteR (rows.drop k) acc want s.size = byteR rows 0 want s.size) (fun _ i => rows.length - (RowKit.intOf i).toNat)
    case atStart => exact ⟨0, 0, rfl, rfl, Nat.zero_le _, Nat.le_refl _, by simp⟩
    case round =>
      obtain ⟨k, acc, rfl, rfl, hk, hacc, hsum⟩ := hrel
      have HS := Lib.hid hsum
      clear hsum
      by_cases hlt : k < rows.length
      · have hcell := row_cell hown k hlt 2 (by omega) _ rfl
        have hcell0 : w1.cell? ⟨g, k * 4, none⟩ = some (.int .i64 rows[k].from_) := row_cell hown k hlt 0 (by omega) _ rfl
        have hle := HU.out rows[k] (List.getElem_mem hlt)
        have HH : Hid (byteR rows 0 want s.size = if (acc : Int) ≤ want ∧ want < (acc : Int) + rows[k].units then rows[k].from_ else byteR (rows.drop (k + 1)) (acc + rows[k].units) want s.size) := by
          rw [← HS.out, drop_at rows k hlt]; exact Lib.hid rfl
        clear HS
        by_cases h1 : (acc : Int) ≤ want
        · by_cases h2 : want < (acc : Int) + (rows[k].units : Int)
          · have HF := Lib.hid (HH.out.trans (if_pos ⟨h1, h2⟩))
            go_wp2
            go_ret
            exact ⟨ret_nat HF.out.symm, hb⟩
          · have HF := Lib.hid (HH.out.trans (if_neg (fun h => h2 h.2)))
            go_wp2
            refine ⟨⟨k + 1, acc + rows[k].units, by go_num, by go_num, hlt, by omega, HF.out.symm⟩, ?_⟩
            simp [RowKit.intOf]; omega
        · have HF := Lib.hid (HH.out.trans (if_neg (fun h => h1 h.1)))
          go_wp2
          refine ⟨⟨k + 1, acc + rows[k].units, by go_num, by go_num, hlt, by omega, HF.out.symm⟩, ?_⟩
          simp [RowKit.intOf]; omega
      · obtain rfl : k = rows.length := by omega
        have HF : Hid (s.size = byteR rows 0 want s.size) := by
          have := HS.out
          rw [List.drop_length] at this
          exact this
        go_wp2
        go_ret
        exact ⟨ret_nat HF.out, hb⟩
theorem refByte_neg (s : ByteArray) (want : Int) (w : World) (h0 : want < 0) :
    Calls Try.prog 31 #[.string s, .int .i64 want] w fun e w' => e = .returned (.int .i64 0) ∧ w' = w := by
  go_enter Try.func31, Try.ntmps31
  go_wp2
  go_ret
  exact ⟨rfl, rfl⟩
set_option maxHeartbeats 400000 in
theorem refUnitsAt_any (s : ByteArray) (a : Int) (w : World) (hs : s.size ≤ 1048576) :
    Calls Try.prog 32 #[.string s, .int .i64 a] w fun e w' => e = .returned (.int .i64 (uaR (rowsP (pieces s.data.toList) 0) a)) ∧ Below w.heap.size w w' := by
  have hlen := pieces_length _ s.data.toList (Nat.le_refl _)
  rw [← Lib.size_eq] at hlen
  have hu := rowsP_units (pieces s.data.toList) 0
  have hto := rowsP_to (pieces s.data.toList) 0
  rw [widthP_pieces _ _ (Nat.le_refl _), ← Lib.size_eq] at hto
  have hlr := rowsP_length (pieces s.data.toList) 0
  have cP := pieces_any s w hs
  generalize rowsP (pieces s.data.toList) 0 = rows at *
  rw [← hlr] at cP hlen
  clear hlr
  have HU := Lib.hid hu
  have HT := Lib.hid hto
  clear hu hto
  go_enter Try.func32, Try.ntmps32
  go_wp2_with (go_at_call 37; refine cP.mono ?_; rintro e w1 ⟨v, rfl, hown, hb⟩)
  rcases row_shape hown with ⟨rfl, rfl⟩ | ⟨g, cap, rfl, _, _⟩
  · refine wp_loop_rounds 1 ?_
    rw [rounds_succ]
    go_wp2
    go_ret
    exact ⟨rfl, hb⟩
  · go_loop [6, 7] (fun n i => ∃ k acc : Nat, i = .int .i64 k ∧ n = .int .i64 acc ∧ k ≤ rows.length ∧ acc ≤ 2 * k ∧ acc + uaR (rows.drop k) a = uaR rows a) (fun _ i => rows.length - (RowKit.intOf i).toNat)
    case atStart => exact ⟨0, 0, rfl, rfl, Nat.zero_le _, Nat.le_refl _, by simp⟩
    case round =>
      obtain ⟨k, acc, rfl, rfl, hk, hacc, hsum⟩ := hrel
      have HS := Lib.hid hsum
      clear hsum
      by_cases hlt : k < rows.length
      · have hcell := row_cell hown k hlt 2 (by omega) _ rfl
        have hcell1 := row_cell hown k hlt 1 (by omega) _ rfl
        have hle := HU.out rows[k] (List.getElem_mem hlt)
        have HH : Hid (acc + ((if (rows[k].to_ : Int) ≤ a then rows[k].units else 0) + uaR (rows.drop (k + 1)) a) = uaR rows a) := by
          rw [← HS.out, drop_at rows k hlt]; exact Lib.hid rfl
        clear HS
        by_cases h1 : (rows[k].to_ : Int) ≤ a
        · go_wp2
          refine ⟨⟨k + 1, acc + rows[k].units, by go_num, by go_num, hlt, by omega, ?_⟩, ?_⟩
          · have := HH.out
            rw [if_pos h1] at this
            omega
          · simp [RowKit.intOf]; omega
        · go_wp2
          refine ⟨⟨k + 1, acc, by go_num, rfl, hlt, by omega, ?_⟩, ?_⟩
          · have := HH.out
            rw [if_neg (by omega)] at this
            omega
          · simp [RowKit.intOf]; omega
      · obtain rfl : k = rows.length := by omega
        have HF : Hid (acc = uaR rows a) := by
          have := HS.out
          rw [List.drop_length] at this
          exact this
        go_wp2
        go_ret
        exact ⟨ret_nat HF.out, hb⟩
end Go.Proofs.Ytipbojiialfmeaa
