/- The walks of docs.letter, name, reserved, Dir. Printed by gen_d1.py. -/
import Derived.Test.YtcenfckjkboabaaDoorDq
import Derived.Test.YtcenfckjkboabaaDoorShelf
import Derived.WalkKit
import Derived.WalkSpells
import Derived.WalkLawsBesides
import Derived.Deep.QuietTactic
import Derived.BigQuiet
import Derived.Deep.RegionHeld3
import Derived.IntWalk
import Derived.Deep.CutBlock
import Derived.Lib.Hide
import Derived.Lib.SmallJoins
import Derived.Maps.AppendAt
import Derived.OwnWalk
namespace Go.Proofs.Dc
open Go.RowKit Go.Proofs Go.Lib

theorem gb_below {w w' : World} {row : Option Nat} (h : Below w.heap.size w w') : w.grownBy w' row := ⟨h.os, h.tape, h.output, h.size, fun k hk _ => h.block k hk⟩
theorem ret_bool {a b : Bool} (h : a = b) : Ending.returned (.bool a) = .returned (.bool b) := by rw [h]
theorem below_draws {w wr : World} (hB : Below w.heap.size w wr) (n : Nat) : Below w.heap.size w (wr.drewN n) := ⟨hB.os, hB.tape, hB.output, hB.size, hB.block⟩

set_option maxRecDepth 100000 in
theorem letter_any (c : UInt8) (w : World) : Calls Tryd.prog 45 #[.int .u8 (c.toNat : Int)] w fun e w' => e = .returned (.bool (letB c)) ∧ w = w' := by
  have hc : (c.toNat < 65) ∨ (65 ≤ c.toNat ∧ c.toNat ≤ 90) ∨ (91 ≤ c.toNat ∧ c.toNat ≤ 96 ∧ c.toNat ≠ 95) ∨ (c.toNat = 95) ∨ (97 ≤ c.toNat ∧ c.toNat ≤ 122) ∨ (123 ≤ c.toNat) := by have := c.toNat_lt; omega
  rcases hc with h | h | h | h | h | h
  · have hv : letB c = false := by unfold letB; exact decide_eq_false (by omega)
    have u1 : decide ((65 : Int) ≤ (c.toNat : Int)) = false := decide_eq_false (by omega)
    have u2 : decide ((c.toNat : Int) ≤ 90) = true := decide_eq_true (by omega)
    have u3 : decide ((97 : Int) ≤ (c.toNat : Int)) = false := decide_eq_false (by omega)
    have u4 : decide ((c.toNat : Int) ≤ 122) = true := decide_eq_true (by omega)
    have u5 : ((c.toNat : Int) == 95) = false := beq_eq_false_iff_ne.2 (by omega)
    rw [hv]
    clear h hv
    go_enter Tryd.func45, Tryd.ntmps45
    go_wp2
    go_ret
    exact ⟨rfl, rfl⟩
  · have hv : letB c = true := by unfold letB; exact decide_eq_true (by omega)
    have u1 : decide ((65 : Int) ≤ (c.toNat : Int)) = true := decide_eq_true (by omega)
    have u2 : decide ((c.toNat : Int) ≤ 90) = true := decide_eq_true (by omega)
    have u3 : decide ((97 : Int) ≤ (c.toNat : Int)) = false := decide_eq_false (by omega)
    have u4 : decide ((c.toNat : Int) ≤ 122) = true := decide_eq_true (by omega)
    have u5 : ((c.toNat : Int) == 95) = false := beq_eq_false_iff_ne.2 (by omega)
    rw [hv]
    clear h hv
    go_enter Tryd.func45, Tryd.ntmps45
    go_wp2
    go_ret
    exact ⟨rfl, rfl⟩
  · have hv : letB c = false := by unfold letB; exact decide_eq_false (by omega)
    have u1 : decide ((65 : Int) ≤ (c.toNat : Int)) = true := decide_eq_true (by omega)
    have u2 : decide ((c.toNat : Int) ≤ 90) = false := decide_eq_false (by omega)
    have u3 : decide ((97 : Int) ≤ (c.toNat : Int)) = false := decide_eq_false (by omega)
    have u4 : decide ((c.toNat : Int) ≤ 122) = true := decide_eq_true (by omega)
    have u5 : ((c.toNat : Int) == 95) = false := beq_eq_false_iff_ne.2 (by omega)
    rw [hv]
    clear h hv
    go_enter Tryd.func45, Tryd.ntmps45
    go_wp2
    go_ret
    exact ⟨rfl, rfl⟩
  · have hv : letB c = true := by unfold letB; exact decide_eq_true (by omega)
    have u1 : decide ((65 : Int) ≤ (c.toNat : Int)) = true := decide_eq_true (by omega)
    have u2 : decide ((c.toNat : Int) ≤ 90) = false := decide_eq_false (by omega)
    have u3 : decide ((97 : Int) ≤ (c.toNat : Int)) = false := decide_eq_false (by omega)
    have u4 : decide ((c.toNat : Int) ≤ 122) = true := decide_eq_true (by omega)
    have u5 : ((c.toNat : Int) == 95) = true := beq_iff_eq.2 (by omega)
    rw [hv]
    clear h hv
    go_enter Tryd.func45, Tryd.ntmps45
    go_wp2
    go_ret
    exact ⟨rfl, rfl⟩
  · have hv : letB c = true := by unfold letB; exact decide_eq_true (by omega)
    have u1 : decide ((65 : Int) ≤ (c.toNat : Int)) = true := decide_eq_true (by omega)
    have u2 : decide ((c.toNat : Int) ≤ 90) = false := decide_eq_false (by omega)
    have u3 : decide ((97 : Int) ≤ (c.toNat : Int)) = true := decide_eq_true (by omega)
    have u4 : decide ((c.toNat : Int) ≤ 122) = true := decide_eq_true (by omega)
    have u5 : ((c.toNat : Int) == 95) = false := beq_eq_false_iff_ne.2 (by omega)
    rw [hv]
    clear h hv
    go_enter Tryd.func45, Tryd.ntmps45
    go_wp2
    go_ret
    exact ⟨rfl, rfl⟩
  · have hv : letB c = false := by unfold letB; exact decide_eq_false (by omega)
    have u1 : decide ((65 : Int) ≤ (c.toNat : Int)) = true := decide_eq_true (by omega)
    have u2 : decide ((c.toNat : Int) ≤ 90) = false := decide_eq_false (by omega)
    have u3 : decide ((97 : Int) ≤ (c.toNat : Int)) = true := decide_eq_true (by omega)
    have u4 : decide ((c.toNat : Int) ≤ 122) = false := decide_eq_false (by omega)
    have u5 : ((c.toNat : Int) == 95) = false := beq_eq_false_iff_ne.2 (by omega)
    rw [hv]
    clear h hv
    go_enter Tryd.func45, Tryd.ntmps45
    go_wp2
    go_ret
    exact ⟨rfl, rfl⟩
theorem list_get (s : ByteArray) (i : Nat) (h : i < s.size) : s.data.toList[i]? = some s[i] := by
  rw [List.getElem?_eq_getElem (by rw [← Lib.size_eq]; exact h)]
  rfl
theorem empty_iff (s : ByteArray) : s.toList.isEmpty = decide (s.data.toList = []) := by
  rw [ByteArray.toList_eq]
  cases s.data.toList <;> simp
set_option maxRecDepth 100000 in
set_option maxHeartbeats 2000000 in
theorem name_any (s : ByteArray) (w : World) (hs : s.size ≤ 140737488355328) : Calls Tryd.prog 29 #[.string s] w fun e w' => e = .returned (.bool (nameB s.data.toList)) ∧ w = w' := by
  obtain ⟨N, hN⟩ : ∃ N, nameB s.data.toList = N := ⟨_, rfl⟩
  rw [hN]
  unfold nameB at hN
  have hsl := Lib.size_eq s
  by_cases h0 : s.data.toList = []
  · have u0 : s.toList.isEmpty = true := by rw [empty_iff]; exact decide_eq_true h0
    have hn : N = false := by rw [← hN, decide_eq_false (by rintro ⟨h, _⟩; exact h h0)]; rfl
    subst hn
    clear hN h0 hsl
    go_enter Tryd.func29, Tryd.ntmps29
    go_wp2
    go_ret
    exact ⟨rfl, rfl⟩
  have u0 : s.toList.isEmpty = false := by rw [empty_iff]; exact decide_eq_false h0
  by_cases h1 : s.data.toList = [95]
  · have u1 : (s.toList == [95]) = true := by rw [ByteArray.toList_eq, h1]; rfl
    have hn : N = false := by rw [← hN, decide_eq_false (by rintro ⟨_, h, _⟩; exact h h1)]; rfl
    subst hn
    clear hN h0 h1 hsl
    go_enter Tryd.func29, Tryd.ntmps29
    go_wp2
    go_ret
    exact ⟨rfl, rfl⟩
  have u1 : (s.toList == [95]) = false := by rw [ByteArray.toList_eq]; simpa using h1
  by_cases h2 : (40 : Int) < (s.size : Int)
  · have hn : N = false := by rw [← hN, decide_eq_false (by rintro ⟨_, _, h⟩; omega)]; rfl
    subst hn
    clear hN h0 h1 hsl
    go_enter Tryd.func29, Tryd.ntmps29
    go_wp2
    go_ret
    exact ⟨rfl, rfl⟩
  rw [decide_eq_true ⟨h0, h1, by omega⟩, Bool.true_and] at hN
  have bad : ∀ (k : Nat) (hk : k < s.size), okAt k s[k] = false → N = false := fun k hk h => by
    rw [← hN]
    cases ha : allOk s.data.toList with
    | false => rfl
    | true =>
      have := allOk_iff.1 ha k _ (list_get s k hk)
      rw [h] at this
      cases this
  have good : (∀ j c, j < s.size → s.data.toList[j]? = some c → okAt j c = true) → N = true := fun h => by
    rw [← hN]
    exact allOk_iff.2 fun i c hc => h i c (by rw [hsl]; exact (List.getElem?_eq_some_iff.1 hc).1) hc
  have BAD := Lib.hid bad
  have GOOD := Lib.hid good
  clear bad good hN h0 h1 hsl
  go_enter Tryd.func29, Tryd.ntmps29
  go_wp2
  go_loop [17] (fun v => ∃ k : Nat, v = .int .i64 k ∧ k ≤ s.size ∧ ∀ j c, j < k → s.data.toList[j]? = some c → okAt j c = true) (fun v => s.size - (RowKit.intOf v).toNat)
  case atStart => exact ⟨0, rfl, Nat.zero_le _, fun j c h => by omega⟩
  case round =>
    obtain ⟨k, rfl, hk, hg⟩ := hrel
    have HG := Lib.hid hg
    clear hg
    by_cases hkn : (k : Int) < (s.size : Int)
    · have hks : k < s.size := by omega
      have hl := letter_any s[k] w
      have hnext : okAt k s[k] = true → ∀ j c, j < k + 1 → s.data.toList[j]? = some c → okAt j c = true := fun h j c hj hc => by
        by_cases e : j = k
        · subst e
          rw [list_get s j hks] at hc
          rw [← Option.some.inj hc]; exact h
        · exact HG.out j c (by omega) hc
      have hbad := BAD.out k hks
      unfold okAt at hnext hbad
      obtain ⟨L, hL⟩ : ∃ L, letB s[k] = L := ⟨_, rfl⟩
      rw [hL] at hl hnext hbad
      clear hL
      cases L with
      | true =>
        have HN := Lib.hid (hnext rfl)
        clear hnext hbad
        go_wp2_with (first | (go_at_call 45; refine hl.mono ?_; rintro e w1 ⟨rfl, hw⟩; subst w1))
        go_round
        case rel => exact ⟨k + 1, by go_num, by omega, HN.out⟩
        case measure => simp [RowKit.intOf]; omega
      | false =>
        by_cases hk0 : k = 0
        · have hn := hbad (by simp [hk0])
          have u2 : ((k : Int) == 0) = true := by rw [hk0]; rfl
          subst hn
          clear hnext hbad hk0
          go_wp2_with (first | (go_at_call 45; refine hl.mono ?_; rintro e w1 ⟨rfl, hw⟩; subst w1))
          go_ret
          exact ⟨rfl, rfl⟩
        · have u2 : ((k : Int) == 0) = false := by simpa using hk0
          have hk1 : (k != 0) = true := by simpa using hk0
          rw [hk1] at hnext hbad
          by_cases h48 : s[k].toNat < 48
          · have u3 : decide ((s[k].toNat : Int) < 48) = true := decide_eq_true (by omega)
            have hn := hbad (by unfold digB; rw [decide_eq_false (by omega)]; rfl)
            subst hn
            clear hnext hbad hk0 h48
            go_wp2_with (first | (go_at_call 45; refine hl.mono ?_; rintro e w1 ⟨rfl, hw⟩; subst w1))
            go_ret
            exact ⟨rfl, rfl⟩
          · have u3 : decide ((s[k].toNat : Int) < 48) = false := decide_eq_false (by omega)
            by_cases h57 : 57 < s[k].toNat
            · have u4 : decide ((57 : Int) < (s[k].toNat : Int)) = true := decide_eq_true (by omega)
              have hn := hbad (by unfold digB; rw [decide_eq_false (by omega)]; rfl)
              subst hn
              clear hnext hbad hk0 h48 h57
              go_wp2_with (first | (go_at_call 45; refine hl.mono ?_; rintro e w1 ⟨rfl, hw⟩; subst w1))
              go_ret
              exact ⟨rfl, rfl⟩
            · have u4 : decide ((57 : Int) < (s[k].toNat : Int)) = false := decide_eq_false (by omega)
              have HN := Lib.hid (hnext (by unfold digB; rw [decide_eq_true ⟨by omega, by omega⟩]; rfl))
              clear hnext hbad hk0 h48 h57
              go_wp2_with (first | (go_at_call 45; refine hl.mono ?_; rintro e w1 ⟨rfl, hw⟩; subst w1))
              go_round
              case rel => exact ⟨k + 1, by go_num, by omega, HN.out⟩
              case measure => simp [RowKit.intOf]; omega
    · have hn := GOOD.out fun j c hj hc => HG.out j c (by omega) hc
      subst hn
      go_wp2
      go_ret
      exact ⟨rfl, rfl⟩
/-- what the library's tables hold -/
def MaxV (w : World) : Prop := ∃ m : Int, w.cell? ⟨3, 0, none⟩ = some (.int .i64 m)
def SpaceV (w : World) : Prop := Lib.TabIs Tryd.prog w "strings.asciiSpace" .u8 Lib.asciiSpaceTab
structure Tabs (w : World) : Prop where
  mx : MaxV w
  sp : SpaceV w
  u8 : Lib.Utf8Tabs 0 1 w
  lo : 5 < w.heap.size
theorem wordsB_ascii : ∀ (j : Nat) b, wordsT[j]? = some b → b.toNat < 128 := by
  have h : ∀ b ∈ wordsT, b.toNat < 128 := by decide
  exact fun j b hb => h b (List.mem_of_getElem? hb)
theorem words_len : words.length = 21 := by decide +kernel
theorem containsS_words (x : ByteArray) : Lib.containsS (words.map fun l => (⟨l.toArray⟩ : ByteArray)) x = resB x.data.toList := by
  unfold resB
  generalize words = W
  rw [Bool.eq_iff_iff, Lib.containsS_iff, List.contains_iff_mem, List.mem_map]
  constructor
  · rintro ⟨l, hl, rfl⟩; exact hl
  · exact fun h => ⟨_, h, rfl⟩
def wordsB : ByteArray := ⟨#[98, 111, 111, 108, 32, 98, 114, 101, 97, 107, 32, 99, 111, 110, 116, 105, 110, 117, 101, 32, 101, 108, 115, 101, 32, 102, 97, 108, 115, 101, 32, 102, 108, 111, 97, 116, 54, 52, 32, 102, 111, 114, 32, 102, 117, 110, 99, 32, 105, 102, 32, 105, 109, 112, 111, 114, 116, 32, 105, 110, 116, 32, 108, 101, 110, 32, 112, 97, 99, 107, 97, 103, 101, 32, 112, 97, 110, 105, 99, 32, 112, 114, 105, 110, 116, 32, 114, 101, 116, 117, 114, 110, 32, 115, 116, 114, 105, 110, 103, 32, 115, 116, 114, 117, 99, 116, 32, 116, 114, 117, 101, 32, 116, 121, 112, 101, 32, 118, 97, 114]⟩
def wordCells : Array Value := (words.map fun l => Value.string ⟨l.toArray⟩).toArray
theorem alloc_new (w : World) (o : Obj) (k : Nat) (h : k = w.heap.size) : (w.alloc o).heap[k]? = some o := by rw [h]; exact heap_alloc_new w o
theorem cell_of_row (w : World) (b i : Nat) (c : Array Value) (t : TypeId) (z : Nat × Nat) (h : w.heap[b]? = some (.cells c t z)) : w.cell? ⟨b, i, none⟩ = c[i]? := by
  simp [World.cell?, h]
theorem fields_words (w : World) (hT : SpaceV w) : Calls Tryd.prog 47 #[.string wordsB] w fun e w' => e = .returned (.slice (some ⟨w.heap.size, 0, none⟩) 21 21) ∧ w' = w.alloc (.cells wordCells 9) := by
  have h := Tryd.strings_Fields wordsB w (by decide +kernel) wordsB_ascii hT
  have e : (Lib.fields wordsB.data.toList).length = 21 := words_len
  rw [e] at h
  exact h
theorem contains_words (w : World) (g : Nat) (x : ByteArray) (h : w.heap[g]? = some (.cells wordCells 9 (0, 0))) : Calls Tryd.prog 46 #[.slice (some ⟨g, 0, none⟩) 21 21, .string x] w fun e w' => e = .returned (.bool (resB x.data.toList)) ∧ w' = w := by
  have hlen : (words.map fun l => (⟨l.toArray⟩ : ByteArray)).length = 21 := by rw [List.length_map, words_len]
  have hc := Tryd.slices_Contains_string g 0 21 21 (words.map fun l => (⟨l.toArray⟩ : ByteArray)) x w (by omega) (by decide) fun j hj => by
    rw [cell_of_row w g (0 + j) _ _ _ h, Nat.zero_add]
    unfold wordCells
    rw [List.getElem?_toArray, List.getElem?_map, List.getD_eq_getElem?_getD, List.getElem?_map]
    rw [hlen] at hj
    rw [List.getElem?_eq_getElem (by rw [words_len]; exact hj)]
    rfl
  rw [List.take_of_length_le (by omega), containsS_words] at hc
  exact hc
set_option maxRecDepth 100000 in
set_option maxHeartbeats 1000000 in
theorem reserved_any (x : ByteArray) (w : World) (hT : SpaceV w) : Calls Tryd.prog 30 #[.string x] w fun e w' => e = .returned (.bool (resB x.data.toList)) ∧ Below w.heap.size w w' := by
  have hf := fields_words w hT
  have hc := contains_words (w.alloc (.cells wordCells 9)) w.heap.size x (alloc_new _ _ _ rfl)
  have hb : Below w.heap.size w (w.alloc (.cells wordCells 9)) := (Below.refl _ _).alloc (Nat.le_refl _) _
  generalize w.alloc (.cells wordCells 9) = V at hf hc hb
  unfold wordsB at hf
  go_enter Tryd.func30, Tryd.ntmps30
  go_wp2_with (first
    | (go_at_call 47; refine hf.mono ?_; rintro e w1 ⟨rfl, hw⟩; subst w1)
    | (go_at_call 46; refine hc.mono ?_; rintro e w2 ⟨rfl, hw⟩; subst w2))
  go_ret
  exact ⟨rfl, hb⟩
theorem MaxV.below {w w' : World} (h : MaxV w) (hb : Below w.heap.size w w') : MaxV w' := by
  obtain ⟨m, h⟩ := h
  exact ⟨m, (hb.cell (p := ⟨3, 0, none⟩) (World.block_lt_of_cell? w _ h)).trans h⟩
def dirVal (o : Option (List UInt8)) : Value :=
  match o with
  | some d => .tuple #[.string ⟨d.toArray⟩, .bool true]
  | none => .tuple #[.string ⟨#[]⟩, .bool false]
theorem size_mk (l : List UInt8) : (⟨l.toArray⟩ : ByteArray).size = l.length := by simp [ByteArray.size]
theorem trimPre_len (s p : List UInt8) : (trimPrefix s p).length ≤ s.length := by
  unfold trimPrefix
  split
  · rw [List.length_drop]; omega
  · exact Nat.le_refl _
theorem trimSuf_len (s p : List UInt8) : (trimSuffix s p).length ≤ s.length := by
  unfold trimSuffix
  split
  · rw [List.length_take]; omega
  · exact Nat.le_refl _
theorem cut_len (s p : List UInt8) : (cut s p).1.length ≤ s.length ∧ (cut s p).2.1.length ≤ s.length := by
  unfold cut
  split
  · exact ⟨by simp only [List.length_take]; omega, by simp only [List.length_drop]; omega⟩
  · exact ⟨Nat.le_refl _, Nat.zero_le _⟩
set_option maxRecDepth 100000 in
set_option maxHeartbeats 4000000 in
theorem dir_any (u : ByteArray) (w : World) (hu : u.size ≤ 1000000) (hM : MaxV w) (hS : ∀ w', Below w.heap.size w w' → SpaceV w') : Calls Tryd.prog 8 #[.string u] w fun e w' => e = .returned (dirVal (dirV u.data.toList)) ∧ Below w.heap.size w w' := by
  have h1 := fun w => Tryd.strings_CutPrefix u ⟨#[102, 105, 108, 101, 58, 47, 47, 47]⟩ w
  rw [show (⟨#[102, 105, 108, 101, 58, 47, 47, 47]⟩ : ByteArray).data.toList = ahead from rfl] at h1
  have hl1 := trimPre_len u.data.toList ahead
  have e1 : dirV u.data.toList = dirV u.data.toList := rfl
  conv at e1 => rhs; unfold dirV
  simp only at e1
  generalize dirV u.data.toList = O at e1 ⊢
  obtain ⟨R, hR⟩ : ∃ R : ByteArray, (⟨(trimPrefix u.data.toList ahead).toArray⟩ : ByteArray) = R := ⟨_, rfl⟩
  have hRl : trimPrefix u.data.toList ahead = R.data.toList := by rw [← hR]
  obtain ⟨ok1, hok1⟩ : ∃ b, hasPrefix u.data.toList ahead = b := ⟨_, rfl⟩
  rw [hRl] at hl1
  rw [hRl, hok1] at e1
  simp only [hR, hok1] at h1
  rw [← Lib.size_eq, ← Lib.size_eq] at hl1
  obtain ⟨m, hm⟩ := hM
  have h2 := Tryd.strings_Cut R ⟨#[47]⟩ m w (by omega) hm
  rw [show (⟨#[47]⟩ : ByteArray).data.toList = [47] from rfl] at h2
  have hl2 := cut_len R.data.toList [47]
  generalize cut R.data.toList [47] = C at e1 h2 hl2
  obtain ⟨d, f, ok2⟩ := C
  simp only at e1 h2 hl2
  rw [← Lib.size_eq] at hl2
  have h3 := fun w => Tryd.strings_CutSuffix ⟨f.toArray⟩ ⟨#[46, 103, 111]⟩ w (by rw [size_mk]; omega)
  rw [show (⟨#[46, 103, 111]⟩ : ByteArray).data.toList = dotgo from rfl, show (⟨f.toArray⟩ : ByteArray).data.toList = f from rfl] at h3
  have hl3 := trimSuf_len f dotgo
  obtain ⟨ok3, hok3⟩ : ∃ b, hasSuffix f dotgo = b := ⟨_, rfl⟩
  generalize trimSuffix f dotgo = b at e1 h3 hl3
  simp only [hok3] at e1 h3
  have n1 := fun w => name_any ⟨d.toArray⟩ w (by rw [size_mk]; omega)
  have n2 := fun w => name_any ⟨b.toArray⟩ w (by rw [size_mk]; omega)
  have n3 := fun w hw => reserved_any ⟨d.toArray⟩ w hw
  rw [show (⟨d.toArray⟩ : ByteArray).data.toList = d from rfl] at n1 n3
  rw [show (⟨b.toArray⟩ : ByteArray).data.toList = b from rfl] at n2
  obtain ⟨x1, hx1⟩ : ∃ x, nameB d = x := ⟨_, rfl⟩
  obtain ⟨x2, hx2⟩ : ∃ x, nameB b = x := ⟨_, rfl⟩
  obtain ⟨x3, hx3⟩ : ∃ x, resB d = x := ⟨_, rfl⟩
  simp only [hx1, hx2, hx3] at e1 n1 n2 n3
  obtain ⟨D, hD⟩ : ∃ D : ByteArray, (⟨d.toArray⟩ : ByteArray) = D := ⟨_, rfl⟩
  obtain ⟨F, hF⟩ : ∃ F : ByteArray, (⟨f.toArray⟩ : ByteArray) = F := ⟨_, rfl⟩
  obtain ⟨B, hB⟩ : ∃ B : ByteArray, (⟨b.toArray⟩ : ByteArray) = B := ⟨_, rfl⟩
  have hout : dirVal O = if ok1 = true ∧ ok2 = true ∧ ok3 = true ∧ x1 = true ∧ x3 = false ∧ x2 = true then .tuple #[.string D, .bool true] else .tuple #[.string ⟨#[]⟩, .bool false] := by
    rw [e1]
    split
    · rw [dirVal, hD]
    · rfl
  simp only [hD, hF, hB] at h2 h3 n1 n2 n3
  generalize dirVal O = V at hout ⊢
  clear e1 hR hRl hok1 hl1 hl2 hl3 hok3 hx1 hx2 hx3 hD hF hB hm
  have HB := Lib.hid hS
  clear hS
  cases ok1 with
  | false =>
    rw [if_neg (by simp)] at hout
    subst hout
    go_enter Tryd.func8, Tryd.ntmps8
    go_wp2_with (first
      | (go_at_call 26; refine (h1 _).mono ?_; rintro e w1 ⟨rfl, hw⟩; subst w1)
      | (go_at_call 27; refine h2.mono ?_; rintro e w1 ⟨rfl, n, rfl⟩)
      | (go_at_call 28; refine (h3 _).mono ?_; rintro e w1 ⟨rfl, hw⟩; subst w1))
    go_ret2
    exact ⟨rfl, below_draws (Below.refl _ _) _⟩
  | true =>
  cases ok2 with
  | false =>
    rw [if_neg (by simp)] at hout
    subst hout
    go_enter Tryd.func8, Tryd.ntmps8
    go_wp2_with (first
      | (go_at_call 26; refine (h1 _).mono ?_; rintro e w1 ⟨rfl, hw⟩; subst w1)
      | (go_at_call 27; refine h2.mono ?_; rintro e w1 ⟨rfl, n, rfl⟩)
      | (go_at_call 28; refine (h3 _).mono ?_; rintro e w1 ⟨rfl, hw⟩; subst w1))
    go_ret2
    exact ⟨rfl, below_draws (Below.refl _ _) _⟩
  | true =>
  cases ok3 with
  | false =>
    rw [if_neg (by simp)] at hout
    subst hout
    go_enter Tryd.func8, Tryd.ntmps8
    go_wp2_with (first
      | (go_at_call 26; refine (h1 _).mono ?_; rintro e w1 ⟨rfl, hw⟩; subst w1)
      | (go_at_call 27; refine h2.mono ?_; rintro e w1 ⟨rfl, n, rfl⟩)
      | (go_at_call 28; refine (h3 _).mono ?_; rintro e w1 ⟨rfl, hw⟩; subst w1))
    go_ret2
    exact ⟨rfl, below_draws (Below.refl _ _) _⟩
  | true =>
  cases x1 with
  | false =>
    rw [if_neg (by simp)] at hout
    subst hout
    go_enter Tryd.func8, Tryd.ntmps8
    go_wp2_with (first
      | (go_at_call 26; refine (h1 _).mono ?_; rintro e w1 ⟨rfl, hw⟩; subst w1)
      | (go_at_call 27; refine h2.mono ?_; rintro e w1 ⟨rfl, n, rfl⟩)
      | (go_at_call 28; refine (h3 _).mono ?_; rintro e w1 ⟨rfl, hw⟩; subst w1)
      | (go_at_call 29; refine (n1 _).mono ?_; rintro e w1 ⟨rfl, hw⟩; subst w1))
    go_ret2
    exact ⟨rfl, below_draws (Below.refl _ _) _⟩
  | true =>
  cases x3 with
  | true =>
    rw [if_neg (by simp)] at hout
    subst hout
    go_enter Tryd.func8, Tryd.ntmps8
    go_wp2_with (first
      | (go_at_call 26; refine (h1 _).mono ?_; rintro e w1 ⟨rfl, hw⟩; subst w1)
      | (go_at_call 27; refine h2.mono ?_; rintro e w1 ⟨rfl, n, rfl⟩; have b1 : Below w.heap.size w (w.drewN n) := below_draws (Below.refl _ _) n)
      | (go_at_call 28; refine (h3 _).mono ?_; rintro e w1 ⟨rfl, hw⟩; subst w1)
      | (go_at_call 29; refine (n1 _).mono ?_; rintro e w1 ⟨rfl, hw⟩; subst w1)
      | (go_at_call 30; refine (n3 _ (HB.out _ b1)).mono ?_; rintro e w3 ⟨rfl, hb3⟩))
    go_ret2
    exact ⟨rfl, b1.trans (hb3.mono b1.size)⟩
  | false =>
  cases x2 with
  | false =>
    rw [if_neg (by simp)] at hout
    subst hout
    go_enter Tryd.func8, Tryd.ntmps8
    go_wp2_with (first
      | (go_at_call 26; refine (h1 _).mono ?_; rintro e w1 ⟨rfl, hw⟩; subst w1)
      | (go_at_call 27; refine h2.mono ?_; rintro e w1 ⟨rfl, n, rfl⟩; have b1 : Below w.heap.size w (w.drewN n) := below_draws (Below.refl _ _) n)
      | (go_at_call 28; refine (h3 _).mono ?_; rintro e w1 ⟨rfl, hw⟩; subst w1)
      | (have GU := hb3; clear GU; go_at_call 29; refine (n2 _).mono ?_; rintro e w1 ⟨rfl, hw⟩; subst w1)
      | (go_at_call 29; refine (n1 _).mono ?_; rintro e w1 ⟨rfl, hw⟩; subst w1)
      | (go_at_call 30; refine (n3 _ (HB.out _ b1)).mono ?_; rintro e w3 ⟨rfl, hb3⟩))
    go_ret2
    exact ⟨rfl, b1.trans (hb3.mono b1.size)⟩
  | true =>
    rw [if_pos (by simp)] at hout
    subst hout
    go_enter Tryd.func8, Tryd.ntmps8
    go_wp2_with (first
      | (go_at_call 26; refine (h1 _).mono ?_; rintro e w1 ⟨rfl, hw⟩; subst w1)
      | (go_at_call 27; refine h2.mono ?_; rintro e w1 ⟨rfl, n, rfl⟩; have b1 : Below w.heap.size w (w.drewN n) := below_draws (Below.refl _ _) n)
      | (go_at_call 28; refine (h3 _).mono ?_; rintro e w1 ⟨rfl, hw⟩; subst w1)
      | (have GU := hb3; clear GU; go_at_call 29; refine (n2 _).mono ?_; rintro e w1 ⟨rfl, hw⟩; subst w1)
      | (go_at_call 29; refine (n1 _).mono ?_; rintro e w1 ⟨rfl, hw⟩; subst w1)
      | (go_at_call 30; refine (n3 _ (HB.out _ b1)).mono ?_; rintro e w3 ⟨rfl, hb3⟩))
    go_ret2
    exact ⟨rfl, b1.trans (hb3.mono b1.size)⟩
end Go.Proofs.Dc
