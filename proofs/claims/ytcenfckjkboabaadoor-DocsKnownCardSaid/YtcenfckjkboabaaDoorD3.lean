/- The reference's Words, Reserved, Dir. -/
import Derived.Test.YtcenfckjkboabaaDoorD2
namespace Go.Proofs.Dc
open Go.RowKit Go.Proofs Go.Lib

theorem wordCells_eq : wordCells = #[Value.string ⟨#[98, 111, 111, 108]⟩, Value.string ⟨#[98, 114, 101, 97, 107]⟩, Value.string ⟨#[99, 111, 110, 116, 105, 110, 117, 101]⟩, Value.string ⟨#[101, 108, 115, 101]⟩, Value.string ⟨#[102, 97, 108, 115, 101]⟩, Value.string ⟨#[102, 108, 111, 97, 116, 54, 52]⟩, Value.string ⟨#[102, 111, 114]⟩, Value.string ⟨#[102, 117, 110, 99]⟩, Value.string ⟨#[105, 102]⟩, Value.string ⟨#[105, 109, 112, 111, 114, 116]⟩, Value.string ⟨#[105, 110, 116]⟩, Value.string ⟨#[108, 101, 110]⟩, Value.string ⟨#[112, 97, 99, 107, 97, 103, 101]⟩, Value.string ⟨#[112, 97, 110, 105, 99]⟩, Value.string ⟨#[112, 114, 105, 110, 116]⟩, Value.string ⟨#[114, 101, 116, 117, 114, 110]⟩, Value.string ⟨#[115, 116, 114, 105, 110, 103]⟩, Value.string ⟨#[115, 116, 114, 117, 99, 116]⟩, Value.string ⟨#[116, 114, 117, 101]⟩, Value.string ⟨#[116, 121, 112, 101]⟩, Value.string ⟨#[118, 97, 114]⟩] := by kernel_rfl
set_option maxRecDepth 100000 in
theorem words_any (w : World) : Calls Tryd.prog 48 #[] w fun e w' => e = .returned (.slice (some ⟨w.heap.size, 0, none⟩) 21 21) ∧ w' = w.alloc (.cells wordCells 9) := by
  rw [wordCells_eq]
  go_enter Tryd.func48, Tryd.ntmps48
  go_wp2
  go_ret
  exact ⟨rfl, rfl⟩
theorem word_cell (w : World) (g k : Nat) (l : List UInt8) (h : w.heap[g]? = some (.cells wordCells 9 (0, 0))) (hl : words[k]? = some l) : w.cell? ⟨g, k, none⟩ = some (.string ⟨l.toArray⟩) := by
  rw [cell_of_row w g k _ _ _ h]
  unfold wordCells
  rw [List.getElem?_toArray, List.getElem?_map, hl]
  rfl
theorem bytes_beq (x y : ByteArray) : (x.toList == y.toList) = decide (x.data.toList = y.data.toList) := by
  rw [ByteArray.toList_eq, ByteArray.toList_eq]
  by_cases h : x.data.toList = y.data.toList
  · rw [decide_eq_true h, h]; simp
  · rw [decide_eq_false h]; simpa using h
set_option maxRecDepth 100000 in
set_option maxHeartbeats 2000000 in
theorem rres_any (x : ByteArray) (w : World) : Calls Tryd.prog 32 #[.string x] w fun e w' => e = .returned (.bool (resB x.data.toList)) ∧ Below w.heap.size w w' := by
  obtain ⟨R, hR⟩ : ∃ R, resB x.data.toList = R := ⟨_, rfl⟩
  rw [hR]
  have hw := words_any w
  have hrow := alloc_new w (.cells wordCells 9) w.heap.size rfl
  have hb : Below w.heap.size w (w.alloc (.cells wordCells 9)) := (Below.refl _ _).alloc (Nat.le_refl _) _
  generalize w.alloc (.cells wordCells 9) = V at hw hrow hb
  have HR := Lib.hid hR
  have HROW := Lib.hid hrow
  clear hR hrow
  go_enter Tryd.func32, Tryd.ntmps32
  go_wp2_with (first
    | (go_at_call 48; refine hw.mono ?_; rintro e w1 ⟨rfl, hw1⟩; subst w1))
  go_loop [4] (fun v => ∃ k : Nat, v = .int .i64 k ∧ k ≤ 21 ∧ ∀ j, j < k → words[j]? ≠ some x.data.toList) (fun v => 21 - (RowKit.intOf v).toNat)
  case atStart => exact ⟨0, rfl, Nat.zero_le _, fun j h => by omega⟩
  case round =>
    obtain ⟨k, rfl, hk, hno⟩ := hrel
    have HN := Lib.hid hno
    clear hno
    by_cases hkn : (k : Int) < 21
    · obtain ⟨l, hl⟩ : ∃ l, words[k]? = some l := ⟨_, List.getElem?_eq_getElem (by rw [words_len]; omega)⟩
      have hc := word_cell V w.heap.size k l HROW.out hl
      obtain ⟨X, hX⟩ : ∃ X : ByteArray, (⟨l.toArray⟩ : ByteArray) = X := ⟨_, rfl⟩
      have hXl : X.data.toList = l := by rw [← hX]
      rw [hX] at hc
      have hbq := bytes_beq X x
      rw [hXl] at hbq
      by_cases he : l = x.data.toList
      · rw [decide_eq_true he] at hbq
        have hr : R = true := by
          rw [← HR.out]
          unfold resB
          rw [List.contains_iff_mem, ← he]
          exact List.mem_of_getElem? hl
        subst hr
        clear hl hX hXl he
        go_wp2
        go_ret
        exact ⟨rfl, hb⟩
      · rw [decide_eq_false he] at hbq
        have H1 : Hid (words[k]? ≠ some x.data.toList) := Lib.hid (by rw [hl]; exact fun h => he (Option.some.inj h))
        clear hl hX hXl he
        go_wp2
        go_round
        case rel => exact ⟨k + 1, by go_num, by omega, fun j hj => by
          by_cases e : j = k
          · subst e; exact H1.out
          · exact HN.out j (by omega)⟩
        case measure => simp [RowKit.intOf]; omega
    · have hr : R = false := by
        rw [← HR.out]
        unfold resB
        cases hc : words.contains x.data.toList with
        | false => rfl
        | true =>
          rw [List.contains_iff_mem] at hc
          obtain ⟨j, hj⟩ := List.getElem?_of_mem hc
          have hjl := (List.getElem?_eq_some_iff.1 hj).1
          rw [words_len] at hjl
          exact absurd hj (HN.out j (by omega))
      subst hr
      go_wp2
      go_ret
      exact ⟨rfl, hb⟩
theorem ext_list (s : ByteArray) (f i : Nat) : (s.extract f i).data.toList = (s.data.toList.drop f).take (i - f) := Lib.extract_data _ _ _
theorem dir_short {u : List UInt8} (h : u.length < 12) : dirV u = none := by
  refine dirV_none fun d hd => ?_
  obtain ⟨b, hu, h1, h2, h3⟩ := hd
  have := congrArg List.length hu
  have hd0 : d ≠ [] := fun e => by subst e; revert h1; decide
  have := List.length_pos_iff.2 hd0
  simp only [List.length_append, ahead, dotgo, List.length_cons, List.length_nil] at *
  omega
theorem dir_head {u : List UInt8} (h : u.take 8 ≠ ahead) : dirV u = none := by
  refine dirV_none fun d hd => ?_
  obtain ⟨b, hu, _⟩ := hd
  refine h ?_
  rw [hu]
  simp only [List.append_assoc]
  rfl
theorem dir_tail {u : List UInt8} (h : u.drop (u.length - 3) ≠ dotgo) : dirV u = none := by
  refine dirV_none fun d hd => ?_
  obtain ⟨b, hu, _⟩ := hd
  refine h ?_
  have e : u.length - 3 = (ahead ++ d ++ [47] ++ b).length := by
    rw [hu, List.length_append (bs := dotgo)]
    show _ + 3 - 3 = _
    omega
  rw [e, hu, List.drop_left]
theorem dir_parts {u : List UInt8} (h1 : u.take 8 = ahead) (h2 : u.drop (u.length - 3) = dotgo) (hl : 11 ≤ u.length) : u = ahead ++ (u.drop 8).take (u.length - 3 - 8) ++ dotgo := by
  have e : u.drop 8 = (u.drop 8).take (u.length - 3 - 8) ++ dotgo := by
    conv => lhs; rw [← List.take_append_drop (u.length - 3 - 8) (u.drop 8), List.drop_drop, show 8 + (u.length - 3 - 8) = u.length - 3 by omega, h2]
  conv => lhs; rw [← List.take_append_drop 8 u, h1, e]
  rw [List.append_assoc]
end Go.Proofs.Dc
