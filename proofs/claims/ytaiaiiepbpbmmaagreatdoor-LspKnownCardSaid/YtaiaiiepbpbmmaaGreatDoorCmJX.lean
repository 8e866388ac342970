/- Merged texts: J1, J2. -/
import Derived.Test.YtaiaiiepbpbmmaaGreatDoorCmZA
import Derived.Test.YtaiaiiepbpbmmaaGreatDoorCmShelf
import Derived.WalkKit
import Derived.WalkSpells
import Derived.WalkLawsBesides
import Derived.Deep.QuietTactic
import Derived.BigQuiet
import Derived.Deep.RegionHeld3
import Derived.IntWalk
import Derived.Deep.CutBlock
import Derived.Lib.Hide
import Derived.Shelf.Strings.SlTrimAscii
import Derived.Laws.Runes
import Derived.LoopN
import Derived.Scope
import Derived.Laws.RangeString
import Derived.Laws.RangeAny
/- J1: The walks of jtext's digits, mark, word, number. -/
namespace Go.Proofs.Jt
open Go.RowKit Go.Proofs Go.Lib

/-- the library's tables as they are laid -/
def Tabs (w : World) : Prop := Lib.Utf8Tabs 2 3 w ∧ CaseVar 10 caseA w
theorem Tabs.below {w w' : World} (h : Tabs w) (hb : Below w.heap.size w w') : Tabs w' := ⟨Utf8Tabs_below h.1 hb, CaseVar_below h.2 hb⟩
def digB : ByteArray := ⟨#[48, 49, 50, 51, 52, 53, 54, 55, 56, 57]⟩
def lowB : ByteArray := ⟨#[97, 98, 99, 100, 101, 102, 103, 104, 105, 106, 107, 108, 109, 110, 111, 112, 113, 114, 115, 116, 117, 118, 119, 120, 121, 122]⟩
theorem forall_u8 {p : UInt8 → Prop} (h : ∀ n : Fin 256, p (UInt8.ofNat n.val)) : ∀ c, p c := fun c => by
 have := h ⟨c.toNat, c.toNat_lt⟩
 simpa using this
theorem dig_in : ∀ c : UInt8, digB.data.toList.contains c = isDig c := forall_u8 (by decide +kernel)
theorem low_in : ∀ c : UInt8, lowB.data.toList.contains c = isLow c := forall_u8 (by decide +kernel)
theorem drop_run {p q : UInt8 → Bool} (h : ∀ c, p c = q c) (l : List UInt8) : (l.dropWhile p).length = l.length - run q l := by
 have e : p = q := funext h
 subst e
 unfold run
 have := List.takeWhile_append_dropWhile (p := p) (l := l)
 have h2 := congrArg List.length this
 rw [List.length_append] at h2
 omega
theorem size_mk (l : List UInt8) : (⟨l.toArray⟩ : ByteArray).size = l.length := by simp [ByteArray.size]
theorem trim_any (s cs : ByteArray) (q : UInt8 → Bool) (w : World) (hcs : cs.size < 4294967281) (hascii : ∀ (j : Nat) b, cs.data.toList[j]? = some b → b.toNat < 128) (hq : ∀ c, cs.data.toList.contains c = q c) :
 Calls Tryz.prog 205 #[.string s, .string cs] w fun e w' => ∃ t : ByteArray, e = .returned (.string t) ∧ t.size = s.size - run q s.data.toList ∧ Below w.heap.size w w' := by
 refine (Any.strings_TrimLeft_laid Tryz.lays161 (by kernel_rfl) s cs w hcs hascii).mono ?_
 rintro e w' ⟨rfl, hb⟩
 refine ⟨_, rfl, ?_, hb⟩
 rw [size_mk]
 unfold trimLeftS
 rw [drop_run hq, Lib.size_eq]
theorem run_size (p : UInt8 → Bool) (s : ByteArray) : run p s.data.toList ≤ s.size := by
 rw [Lib.size_eq]; exact run_le p _
theorem ret_int {a b : Int} (h : a = b) : Ending.returned (.int .i64 a) = .returned (.int .i64 b) := by rw [h]
set_option maxRecDepth 100000 in
theorem digits_any (s : ByteArray) (w : World) (hs : s.size ≤ 140737488355328) :
 Calls Tryz.prog 206 #[.string s] w fun e w' => e = .returned (.int .i64 (run isDig s.data.toList : Nat)) ∧ Below w.heap.size w w' := by
 have hr := run_size isDig s
 have ht := fun w => trim_any s digB isDig w (by decide) (ascii_of_all (by decide)) dig_in
 unfold digB at ht
 generalize run isDig s.data.toList = n at *
 go_enter Tryz.func206, Tryz.ntmps206
 go_wp2_with (first
  | (go_at_call 205; refine (ht _).mono ?_; rintro e w1 ⟨t, rfl, hz, hb⟩; have HZ := Lib.hid hz; clear hz; have hz1 : t.size ≤ s.size := by (have := HZ.out; omega)))
 go_ret
 have := HZ.out
 exact ⟨ret_int (by omega), hb⟩
def markB : ByteArray := ⟨#[123, 125, 91, 93, 58, 44]⟩
theorem mark_in : ∀ c : UInt8, (decide (Lib.indexByte markB.data.toList c < 0)) = !isMarkB c := forall_u8 (by decide +kernel)
theorem u8_back (c : UInt8) : ((c.toNat : Int)).toNat.toUInt8 = c := by simp
theorem ib_any (b : ByteArray) (c : UInt8) (w : World) : Calls Tryz.prog 162 #[.string b, .int .u8 (c.toNat : Int)] w fun e w' => e = .returned (.int .i64 (Lib.indexByte b.data.toList c)) ∧ w = w' := by
 refine (Tryz.strings_IndexByte b (c.toNat : Int) w).mono ?_
 rintro e w' ⟨rfl, rfl⟩
 rw [u8_back]
 exact ⟨rfl, rfl⟩
set_option maxRecDepth 100000 in
theorem mark_yes (s : ByteArray) (w : World) (h : 0 < s.size) (hm : isMarkB s[0] = true) :
 Calls Tryz.prog 158 #[.string s] w fun e w' => e = .returned (.tuple #[.string (s.extract 0 1), .int .i64 1]) ∧ w = w' := by
 have hi := mark_in s[0]
 rw [hm] at hi
 have hc := ib_any markB s[0] w
 unfold markB at hc hi
 generalize Lib.indexByte _ s[0] = n at hc hi
 have hn : ¬ n < 0 := by simpa using hi
 clear hi hm
 go_enter Tryz.func158, Tryz.ntmps158
 go_wp2_with (first
  | (go_at_call 162; refine hc.mono ?_; rintro e w1 ⟨rfl, hw⟩; subst hw))
 go_ret2
 exact ⟨rfl, rfl⟩
set_option maxRecDepth 100000 in
theorem mark_no (s : ByteArray) (w : World) (h : 0 < s.size) (hm : isMarkB s[0] = false) :
 Calls Tryz.prog 158 #[.string s] w fun e w' => e = .returned (.tuple #[.string ⟨#[]⟩, .int .i64 0]) ∧ w = w' := by
 have hi := mark_in s[0]
 rw [hm] at hi
 have hc := ib_any markB s[0] w
 unfold markB at hc hi
 generalize Lib.indexByte _ s[0] = n at hc hi
 have hn : n < 0 := by simpa using hi
 clear hi hm
 go_enter Tryz.func158, Tryz.ntmps158
 go_wp2_with (first
  | (go_at_call 162; refine hc.mono ?_; rintro e w1 ⟨rfl, hw⟩; subst hw))
 go_ret2
 exact ⟨rfl, rfl⟩
theorem cut_list (s : ByteArray) (n : Nat) : (s.extract 0 n).toList = s.data.toList.take n := by
 rw [ByteArray.toList_eq, Lib.extract_data]
 simp
theorem cut_list' (s : ByteArray) (a b : Nat) : (s.extract a b).data.toList = (s.data.toList.drop a).take (b - a) := by
 rw [Lib.extract_data]
theorem low_word (s : ByteArray) (w : World) : Calls Tryz.prog 205 #[.string s, .string lowB] w fun e w' => ∃ t : ByteArray, e = .returned (.string t) ∧ t.size = s.size - run isLow s.data.toList ∧ Below w.heap.size w w' :=
 trim_any s lowB isLow w (by decide) (ascii_of_all (by decide)) low_in
set_option maxRecDepth 100000 in
theorem word_yes (s : ByteArray) (w : World) (hs : s.size ≤ 140737488355328) (h : 0 < wordN s.data.toList) :
 Calls Tryz.prog 159 #[.string s] w fun e w' => e = .returned (.tuple #[.string (s.extract 0 (wordN s.data.toList)), .int .i64 (wordN s.data.toList : Nat)]) ∧ Below w.heap.size w w' := by
 have hr := run_size isLow s
 have ht := low_word s w
 have hx := cut_list s (run isLow s.data.toList)
 have hw : isWord (s.data.toList.take (run isLow s.data.toList)) = true ∧ wordN s.data.toList = run isLow s.data.toList := by
  unfold wordN at h ⊢
  split at h
  · rename_i h1; rw [if_pos h1]; exact ⟨h1, rfl⟩
  · omega
 rw [hw.2]
 have hw1 := hw.1
 rw [← hx] at hw1
 clear hw hx h
 unfold lowB at ht
 generalize run isLow s.data.toList = n at *
 unfold isWord at hw1
 have hcs := of_decide_eq_true hw1
 clear hw1
 rcases hcs with e1 | e1 | e1
 all_goals
  simp only [wTrue, wFalse, wNull] at e1
  go_enter Tryz.func159, Tryz.ntmps159
  go_wp2_with (first
   | (go_at_call 205; refine ht.mono ?_; rintro e w1 ⟨t, rfl, hz, hb⟩; have HZ := Lib.hid hz; clear hz; have hz1 : t.size ≤ s.size := by (have := HZ.out; omega)
      have hz2 : (s.size : Int) - (t.size : Int) = (n : Int) := by (have := HZ.out; omega)))
  go_ret2
  exact ⟨rfl, hb⟩
set_option maxRecDepth 100000 in
theorem word_no (s : ByteArray) (w : World) (hs : s.size ≤ 140737488355328) (h : wordN s.data.toList = 0) :
 Calls Tryz.prog 159 #[.string s] w fun e w' => e = .returned (.tuple #[.string ⟨#[]⟩, .int .i64 0]) ∧ Below w.heap.size w w' := by
 have hr := run_size isLow s
 have ht := low_word s w
 have hx := cut_list s (run isLow s.data.toList)
 have hw : isWord (s.data.toList.take (run isLow s.data.toList)) = false := by
  unfold wordN at h
  split at h
  · rename_i h1
    rw [h, List.take_zero, show isWord [] = false by decide] at h1
    cases h1
  · rename_i h1
    exact eq_false_of_ne_true h1
 rw [← hx] at hw
 clear hx h
 unfold lowB at ht
 generalize run isLow s.data.toList = n at *
 unfold isWord at hw
 have hcs := of_decide_eq_false hw
 simp only [wTrue, wFalse, wNull] at hcs
 have e1 : ((s.extract 0 n).toList == [116, 114, 117, 101]) = false := beq_eq_false_iff_ne.2 fun e => hcs (.inl e)
 have e2 : ((s.extract 0 n).toList == [102, 97, 108, 115, 101]) = false := beq_eq_false_iff_ne.2 fun e => hcs (.inr (.inl e))
 have e3 : ((s.extract 0 n).toList == [110, 117, 108, 108]) = false := beq_eq_false_iff_ne.2 fun e => hcs (.inr (.inr e))
 clear hw hcs
 go_enter Tryz.func159, Tryz.ntmps159
 go_wp2_with (first
  | (go_at_call 205; refine ht.mono ?_; rintro e w1 ⟨t, rfl, hz, hb⟩; have HZ := Lib.hid hz; clear hz; have hz1 : t.size ≤ s.size := by (have := HZ.out; omega)
     have hz2 : (s.size : Int) - (t.size : Int) = (n : Int) := by (have := HZ.out; omega)))
 go_ret2
 exact ⟨rfl, hb⟩
/-- how many digits stand from a place on -/
theorem digits_at (s : ByteArray) (k : Nat) (w : World) (hs : s.size ≤ 140737488355328) :
 Calls Tryz.prog 206 #[.string (s.extract k s.size)] w fun e w' => e = .returned (.int .i64 (run isDig (s.data.toList.drop k) : Nat)) ∧ Below w.heap.size w w' := by
 have h := digits_any (s.extract k s.size) w (by rw [ByteArray.size_extract]; omega)
 rw [Lib.extract_to_end] at h
 exact h
theorem list_at (s : ByteArray) (k : Nat) (h : k < s.size) : s.data.toList[k]? = some s[k] := by
 rw [List.getElem?_eq_getElem (by rw [← Lib.size_eq]; exact h)]
 rfl
theorem list_end (s : ByteArray) (k : Nat) (h : ¬ k < s.size) : s.data.toList[k]? = none := List.getElem?_eq_none (by rw [← Lib.size_eq]; omega)
theorem byte_is {x c : UInt8} (h : x = c) : ((x.toNat : Int) == (c.toNat : Int)) = true := by rw [h]; simp
theorem byte_not {x c : UInt8} (h : ¬ x = c) : ((x.toNat : Int) == (c.toNat : Int)) = false :=
 beq_eq_false_iff_ne.2 fun e => h (UInt8.toNat_inj.1 (by omega))
theorem at_is {s : ByteArray} {k : Nat} (h : k < s.size) {c : UInt8} (e : s.data.toList[k]? = some c) : ((s[k].toNat : Int) == (c.toNat : Int)) = true := by
 rw [list_at s k h] at e
 exact byte_is (Option.some.inj e)
theorem at_not {s : ByteArray} {k : Nat} (h : k < s.size) {c : UInt8} (e : ¬ s.data.toList[k]? = some c) : ((s[k].toNat : Int) == (c.toNat : Int)) = false := by
 rw [list_at s k h] at e
 exact byte_not fun h' => e (by rw [h'])
theorem numN_zero {l : List UInt8} (h : run isDig (l.drop (negN l)) = 0) : numN l = 0 := by unfold numN; rw [if_pos h]
theorem numN_pos {l : List UInt8} (h : run isDig (l.drop (negN l)) ≠ 0) : numN l = expN l (dotN l (intN l (negN l))) ∧ negN l < l.length ∧ 0 < numN l := by
 have h1 := run_drop_le isDig l (negN l)
 have h2 := intN_le l (negN l) (by omega)
 have h3 := dotN_le l _ h2.1
 have h4 := expN_le l _ h3.1
 have h5 : 0 < intN l (negN l) := by unfold intN; split <;> omega
 unfold numN
 rw [if_neg h]
 exact ⟨rfl, by omega, by omega⟩
set_option maxRecDepth 100000 in
theorem number_no (s : ByteArray) (w : World) (hs : s.size ≤ 140737488355328) (h : 0 < s.size) (hd : run isDig (s.data.toList.drop (negN s.data.toList)) = 0) :
 Calls Tryz.prog 160 #[.string s] w fun e w' => e = .returned (.tuple #[.string ⟨#[]⟩, .int .i64 0]) ∧ Below w.heap.size w w' := by
 have c0 := fun w => digits_at s (negN s.data.toList) w hs
 rw [hd] at c0
 by_cases e0 : s.data.toList[0]? = some 45
 · have hn : negN s.data.toList = 1 := if_pos e0
   rw [hn] at c0
   have t0 : ((s[0].toNat : Int) == 45) = true := at_is h e0
   clear hd hn e0
   go_enter Tryz.func160, Tryz.ntmps160
   go_wp2_with (first | (go_at_call 206; refine (c0 _).mono ?_; rintro e w1 ⟨rfl, hb⟩))
   go_ret2
   exact ⟨rfl, hb⟩
 · have hn : negN s.data.toList = 0 := if_neg e0
   rw [hn, List.drop_zero] at hd
   have c0 := fun w => digits_any s w hs
   rw [hd] at c0
   have t0 : ((s[0].toNat : Int) == 45) = false := at_not h e0
   clear hd hn e0
   go_enter Tryz.func160, Tryz.ntmps160
   go_wp2_with (first | (go_at_call 206; refine (c0 _).mono ?_; rintro e w1 ⟨rfl, hb⟩))
   go_ret2
   exact ⟨rfl, hb⟩
theorem dot_fact (s : ByteArray) (k : Nat) (hk : k ≤ s.size) : Lib.hasPrefix (s.extract k s.size).data.toList [46] = decide (s.data.toList[k]? = some 46) := by
 rw [Lib.extract_to_end]
 by_cases h : k < s.size
 · rw [List.drop_eq_getElem_cons (by rw [← Lib.size_eq]; exact h), List.getElem?_eq_getElem (by rw [← Lib.size_eq]; exact h)]
   have e : (46 == s.data[k]) = decide (s.data[k] = 46) := by rw [Bool.eq_iff_iff, beq_iff_eq, decide_eq_true_iff]; exact eq_comm
   simp [Lib.hasPrefix, List.isPrefixOf, e]
 · rw [List.drop_eq_nil_of_le (by rw [← Lib.size_eq]; omega), list_end s k h]
   rfl
set_option maxRecDepth 100000 in
set_option maxHeartbeats 2000000 in
theorem number_yes (s : ByteArray) (w : World) (hs : s.size ≤ 140737488355328) (h : 0 < s.size) (hd : run isDig (s.data.toList.drop (negN s.data.toList)) ≠ 0) :
 Calls Tryz.prog 160 #[.string s] w fun e w' => e = .returned (.tuple #[.string (s.extract 0 (numN s.data.toList)), .int .i64 (numN s.data.toList : Nat)]) ∧ Below w.heap.size w w' := by
 obtain ⟨hN, hlt, _⟩ := numN_pos hd
 rw [hN]
 rw [← Lib.size_eq] at hlt
 have hd1 := run_drop_le isDig s.data.toList (negN s.data.toList)
 rw [← Lib.size_eq] at hd1
 have c0 := fun w => digits_at s (negN s.data.toList) w hs
 obtain ⟨n0, h0⟩ : ∃ n, negN s.data.toList = n := ⟨_, rfl⟩
 have hn0 := negN_le s.data.toList
 have hi := intN_le s.data.toList n0 (by rw [← Lib.size_eq, ← h0]; omega)
 rw [h0] at c0 hd hlt hd1 hn0 ⊢
 obtain ⟨d0, hd0⟩ : ∃ d, run isDig (s.data.toList.drop n0) = d := ⟨_, rfl⟩
 have hint : intN s.data.toList n0 = if s.data.toList[n0]? = some 48 then n0 + 1 else n0 + d0 := by rw [← hd0]; rfl
 rw [hd0] at c0 hd hd1
 obtain ⟨n1, h1⟩ : ∃ n, intN s.data.toList n0 = n := ⟨_, rfl⟩
 rw [h1] at hi hint ⊢
 rw [← Lib.size_eq] at hi
 have hdo := dotN_le s.data.toList n1 (by rw [← Lib.size_eq]; omega)
 rw [← Lib.size_eq] at hdo
 have hd2 := run_drop_le isDig s.data.toList (n1 + 1)
 rw [← Lib.size_eq] at hd2
 have c1 := fun w => digits_at s (n1 + 1) w hs
 have hdot : dotN s.data.toList n1 = if s.data.toList[n1]? = some 46 ∧ 0 < run isDig (s.data.toList.drop (n1 + 1)) then n1 + 1 + run isDig (s.data.toList.drop (n1 + 1)) else n1 := rfl
 have cp := Tryz.strings_HasPrefix (s.extract n1 s.size) ⟨#[46]⟩
 rw [dot_fact s n1 hi.1] at cp
 obtain ⟨d1, hd1'⟩ : ∃ d, run isDig (s.data.toList.drop (n1 + 1)) = d := ⟨_, rfl⟩
 rw [hd1'] at c1 hdot hd2
 obtain ⟨n2, h2⟩ : ∃ n, dotN s.data.toList n1 = n := ⟨_, rfl⟩
 rw [h2] at hdo hdot ⊢
 have hex := expN_le s.data.toList n2 (by rw [← Lib.size_eq]; omega)
 rw [← Lib.size_eq] at hex
 obtain ⟨a, ha⟩ : ∃ n, signN s.data.toList (n2 + 1) = n := ⟨_, rfl⟩
 have hsg : signN s.data.toList (n2 + 1) = if s.data.toList[n2 + 1]? = some 43 ∨ s.data.toList[n2 + 1]? = some 45 then n2 + 1 + 1 else n2 + 1 := rfl
 have hsl := signN_le s.data.toList (n2 + 1)
 have hd3 := run_drop_le isDig s.data.toList a
 rw [← Lib.size_eq] at hd3
 have c2 := fun w => digits_at s a w hs
 have hxp : expN s.data.toList n2 = if (s.data.toList[n2]? = some 101 ∨ s.data.toList[n2]? = some 69) ∧ 0 < run isDig (s.data.toList.drop (signN s.data.toList (n2 + 1))) then signN s.data.toList (n2 + 1) + run isDig (s.data.toList.drop (signN s.data.toList (n2 + 1))) else n2 := rfl
 rw [ha] at hsg hsl hxp
 obtain ⟨d2, hd2'⟩ : ∃ d, run isDig (s.data.toList.drop a) = d := ⟨_, rfl⟩
 rw [hd2'] at c2 hd3 hxp
 obtain ⟨n3, h3⟩ : ∃ n, expN s.data.toList n2 = n := ⟨_, rfl⟩
 rw [h3] at hex hxp ⊢
 have H0 := Lib.hid h0
 have HI := Lib.hid hint
 have HD := Lib.hid hdot
 have HS := Lib.hid hsg
 have HX := Lib.hid hxp
 clear hd0 hd1' hd2' h0 h1 h2 h3 ha hint hdot hsg hxp hN
 go_enter Tryz.func160, Tryz.ntmps160
 go_upto_if 10 with (fail)
 go_cut [4] (fun v wx => v = .int .i64 n0 ∧ w = wx)
 case first =>
  by_cases e0 : s.data.toList[0]? = some 45
  · have t0 : ((s[0].toNat : Int) == 45) = true := at_is h e0
    go_wp2_with (fail)
    go_meet
    exact ⟨by rw [← H0.out]; unfold negN; rw [if_pos e0]; rfl, rfl⟩
  · have t0 : ((s[0].toNat : Int) == 45) = false := at_not h e0
    go_wp2_with (fail)
    go_meet
    exact ⟨by rw [← H0.out]; unfold negN; rw [if_neg e0]; rfl, rfl⟩
 case rest =>
 obtain ⟨rfl, rfl⟩ := hcut
 have hdz : ((d0 : Int) == 0) = false := beq_eq_false_iff_ne.2 (by omega)
 go_upto_block 0 with (go_at_call 206; refine (c0 _).mono ?_; rintro e w1 ⟨rfl, hb1⟩)
 go_cut [4] (fun v wx => v = .int .i64 n1 ∧ w1 = wx)
 case first =>
  by_cases e0 : s.data.toList[n0]? = some 48
  · have t0 : ((s[n0].toNat : Int) == 48) = true := at_is hlt e0
    go_wp2_with (fail)
    go_meet
    exact ⟨by rw [HI.out, if_pos e0]; rfl, rfl⟩
  · have t0 : ((s[n0].toNat : Int) == 48) = false := at_not hlt e0
    go_wp2_with (fail)
    go_meet
    exact ⟨by rw [HI.out, if_neg e0]; rfl, rfl⟩
 case rest =>
 obtain ⟨rfl, rfl⟩ := hcut
 have hw1 : Below w.heap.size w w1 := hb1
 clear c0
 go_upto_region 10 with (fail)
 go_cut [41] (fun v wx => v = .bool (decide (s.data.toList[n1]? = some 46 ∧ 0 < d1)) ∧ Below w.heap.size w wx)
 case first =>
  by_cases e0 : s.data.toList[n1]? = some 46
  · have hn1 : n1 < s.size := by rw [Lib.size_eq]; exact (List.getElem?_eq_some_iff.1 e0).1
    have cp' := cp w1
    rw [decide_eq_true e0] at cp'
    go_wp2_with (first
     | (go_at_call 168; refine cp'.mono ?_; rintro e w2 ⟨rfl, hw⟩; subst hw)
     | (go_at_call 206; refine (c1 _).mono ?_; rintro e w2 ⟨rfl, hb2⟩))
    go_meet
    exact ⟨by simp [e0], hw1.trans (hb2.mono hw1.size)⟩
  · have cp' := cp w1
    rw [decide_eq_false e0] at cp'
    go_wp2_with (first
     | (go_at_call 168; refine cp'.mono ?_; rintro e w2 ⟨rfl, hw⟩; subst hw))
    go_meet
    exact ⟨by rw [decide_eq_false (fun h => e0 h.1)], hw1⟩
 case rest =>
 obtain ⟨rfl, hwx⟩ := hcut
 rename_i wx
 clear cp hw1 hb1
 go_upto_if 41 with (fail)
 go_cut [4] (fun v wy => v = .int .i64 n2 ∧ Below w.heap.size w wy)
 case first =>
  by_cases e0 : s.data.toList[n1]? = some 46 ∧ 0 < d1
  · have t0 : decide (s.data.toList[n1]? = some 46 ∧ 0 < d1) = true := decide_eq_true e0
    go_wp2_with (first
     | (go_at_call 206; refine (c1 _).mono ?_; rintro e w2 ⟨rfl, hb2⟩))
    go_meet
    exact ⟨by rw [HD.out, if_pos e0]; go_num, hwx.trans (hb2.mono hwx.size)⟩
  · have t0 : decide (s.data.toList[n1]? = some 46 ∧ 0 < d1) = false := decide_eq_false e0
    go_wp2_with (fail)
    go_meet
    exact ⟨by rw [HD.out, if_neg e0], hwx⟩
 case rest =>
 obtain ⟨rfl, hwy⟩ := hcut
 clear hwx c1
 go_upto_region 12 with (fail)
 go_cut [65] (fun v wz => v = .bool (decide (s.data.toList[n2]? = some 101 ∨ s.data.toList[n2]? = some 69)) ∧ Below w.heap.size w wz)
 case first =>
  by_cases hl : n2 < s.size
  · have hl' : (n2 : Int) < (s.size : Int) := by omega
    by_cases e0 : s.data.toList[n2]? = some 101
    · have t0 : ((s[n2].toNat : Int) == 101) = true := at_is hl e0
      go_wp2_with (fail)
      go_meet
      exact ⟨by simp [e0], hwy⟩
    · have t0 : ((s[n2].toNat : Int) == 101) = false := at_not hl e0
      by_cases e1 : s.data.toList[n2]? = some 69
      · have t1 : ((s[n2].toNat : Int) == 69) = true := at_is hl e1
        go_wp2_with (fail)
        go_meet
        exact ⟨by simp [e1], hwy⟩
      · have t1 : ((s[n2].toNat : Int) == 69) = false := at_not hl e1
        go_wp2_with (fail)
        go_meet
        exact ⟨by rw [decide_eq_false (fun h => h.elim e0 e1)], hwy⟩
  · have hl' : ¬ (n2 : Int) < (s.size : Int) := by omega
    have e := list_end s n2 hl
    go_wp2_with (fail)
    go_meet
    exact ⟨by rw [e]; simp, hwy⟩
 case rest =>
 obtain ⟨rfl, hwz⟩ := hcut
 clear hwy
 go_upto_if 65 with (fail)
 go_cut [4] (fun v wy => v = .int .i64 n3 ∧ Below w.heap.size w wy)
 case first =>
  by_cases e0 : s.data.toList[n2]? = some 101 ∨ s.data.toList[n2]? = some 69
  · have t0 : decide (s.data.toList[n2]? = some 101 ∨ s.data.toList[n2]? = some 69) = true := decide_eq_true e0
    have hl : n2 < s.size := by
     rw [Lib.size_eq]
     rcases e0 with e | e <;> exact (List.getElem?_eq_some_iff.1 e).1
    have hal : a ≤ s.size := by
     rw [HS.out]
     split
     · rename_i h'
       have : n2 + 1 < s.size := by
        rw [Lib.size_eq]
        rcases h' with e | e <;> exact (List.getElem?_eq_some_iff.1 e).1
       omega
     · omega
    go_upto_region 14 with (fail)
    go_cut [83] (fun v wz => v = .bool (decide (s.data.toList[n2 + 1]? = some 43 ∨ s.data.toList[n2 + 1]? = some 45)) ∧ Below w.heap.size w wz)
    case first =>
     by_cases hl : n2 + 1 < s.size
     · have hl' : (n2 : Int) + 1 < (s.size : Int) := by omega
       by_cases e0 : s.data.toList[n2 + 1]? = some 43
       · have t0 : ((s[n2 + 1].toNat : Int) == 43) = true := at_is hl e0
         go_wp2_with (fail)
         go_meet
         exact ⟨by simp [e0], hwz⟩
       · have t0 : ((s[n2 + 1].toNat : Int) == 43) = false := at_not hl e0
         by_cases e1 : s.data.toList[n2 + 1]? = some 45
         · have t1 : ((s[n2 + 1].toNat : Int) == 45) = true := at_is hl e1
           go_wp2_with (fail)
           go_meet
           exact ⟨by simp [e1], hwz⟩
         · have t1 : ((s[n2 + 1].toNat : Int) == 45) = false := at_not hl e1
           go_wp2_with (fail)
           go_meet
           exact ⟨by rw [decide_eq_false (fun h => h.elim e0 e1)], hwz⟩
     · have hl' : ¬ (n2 : Int) + 1 < (s.size : Int) := by omega
       have e := list_end s (n2 + 1) hl
       go_wp2_with (fail)
       go_meet
       exact ⟨by rw [e]; simp, hwz⟩
    case rest =>
    obtain ⟨rfl, hwa⟩ := hcut
    clear hwz
    go_upto_if 83 with (fail)
    go_cut [6] (fun v wz => v = .int .i64 a ∧ Below w.heap.size w wz)
    case first =>
     by_cases e1 : s.data.toList[n2 + 1]? = some 43 ∨ s.data.toList[n2 + 1]? = some 45
     · have t1 : decide (s.data.toList[n2 + 1]? = some 43 ∨ s.data.toList[n2 + 1]? = some 45) = true := decide_eq_true e1
       go_wp2_with (fail)
       go_meet
       exact ⟨by rw [HS.out, if_pos e1]; go_num, hwa⟩
     · have t1 : decide (s.data.toList[n2 + 1]? = some 43 ∨ s.data.toList[n2 + 1]? = some 45) = false := decide_eq_false e1
       go_wp2_with (fail)
       go_meet
       exact ⟨by rw [HS.out, if_neg e1]; go_num, hwa⟩
    case rest =>
    obtain ⟨rfl, hwb⟩ := hcut
    clear hwa
    by_cases h2 : 0 < d2
    · have h2' : (0 : Int) < (d2 : Int) := by omega
      go_wp2_with (first
       | (go_at_call 206; refine (c2 _).mono ?_; rintro e w2 ⟨rfl, hb2⟩))
      go_meet
      exact ⟨by rw [HX.out, if_pos ⟨e0, h2⟩]; go_num, hwb.trans (hb2.mono hwb.size)⟩
    · have h2' : ¬ (0 : Int) < (d2 : Int) := by omega
      go_wp2_with (first
       | (go_at_call 206; refine (c2 _).mono ?_; rintro e w2 ⟨rfl, hb2⟩))
      go_meet
      exact ⟨by rw [HX.out, if_neg (fun h => h2 h.2)], hwb.trans (hb2.mono hwb.size)⟩
  · have t0 : decide (s.data.toList[n2]? = some 101 ∨ s.data.toList[n2]? = some 69) = false := decide_eq_false e0
    go_wp2_with (fail)
    go_meet
    exact ⟨by rw [HX.out, if_neg (fun h => e0 h.1)], hwz⟩
 case rest =>
 obtain ⟨rfl, hwy⟩ := hcut
 go_wp2_with (fail)
 go_ret2
 exact ⟨rfl, hwy⟩
end Go.Proofs.Jt
/- J2: strings.IndexRune at the sixteen hex digits, whatever the rune. -/
namespace Go.Proofs.Jt
open Go.RowKit Go.Proofs Go.Lib Go.Proofs.Utf

theorem below_draws {w wr : World} (hB : Below w.heap.size w wr) (n : Nat) : Below w.heap.size w (wr.drewN n) := by
 induction n with
 | zero => exact hB
 | succ n ih => exact ih.drew
theorem below_drewN (w : World) (n : Nat) : Below w.heap.size w (w.drewN n) := below_draws (Below.refl _ _) n
theorem below_iter (w : World) (s : ByteArray) (pos : Nat) : Below w.heap.size w (w.iter s pos) := (Below.refl _ _).alloc (Nat.le_refl _) _
def hexT : ByteArray := ⟨#[48, 49, 50, 51, 52, 53, 54, 55, 56, 57, 97, 98, 99, 100, 101, 102]⟩
theorem valid_of {r : Int} (h : IsPoint r) : Utf8.valid r = true := by
 unfold IsPoint at h
 unfold Utf8.valid
 simp
 omega
theorem validRune_of {r : Int} (h : IsPoint r) : Lib.validRune r = true := by
 unfold IsPoint at h
 unfold Lib.validRune
 simp
 omega
theorem hex_ascii : ∀ (k : Nat) (h : k < hexT.size), hexT[k].toNat < 128 := by decide +kernel
set_option maxHeartbeats 2000000 in
set_option maxRecDepth 100000 in
theorem rune_bad (w : World) : Calls Tryz.prog 216 #[.string hexT, .int .i32 65533] w fun e w' => e = .returned (.int .i64 (-1)) ∧ Below w.heap.size w w' := by
 have hz : hexT.size = 16 := rfl
 have ha := hex_ascii
 generalize hexT = T at *
 go_enter Tryz.func216, Tryz.ntmps216
 go_wp2
 go_loopw [4] (fun _ w' => ∃ pos, w' = w.iter T pos ∧ pos ≤ T.size) (fun _ w' => T.size - w'.iterPos w.heap.size)
 case atStart => exact ⟨0, rfl, Nat.zero_le _⟩
 case round =>
  obtain ⟨pos, rfl, hp0⟩ := hrel
  by_cases hp : pos < T.size
  · have hnx : ∀ ty, (Instr.next (.pointer (some ⟨w.heap.size, 0, none⟩)) true ty).run Tryz.prog (w.iter T pos) = _ := fun ty => run_next_ascii w T pos ty hp (ha pos hp)
    have hlt := ha pos hp
    have hne : ((T[pos].toNat : Int) == 65533) = false := beq_eq_false_iff_ne.2 (by omega)
    go_wp2
    exact ⟨⟨pos + 1, rfl, hp⟩, by simp; omega⟩
  · have hnx : ∀ ty, (Instr.next (.pointer (some ⟨w.heap.size, 0, none⟩)) true ty).run Tryz.prog (w.iter T pos) = _ := fun ty => run_next_end w T pos ty hp
    go_wp2
    go_ret
    exact ⟨rfl, below_iter _ _ _⟩
set_option maxHeartbeats 8000000 in
set_option maxRecDepth 1000000 in
theorem rune_big (r : Int) (w : World) (h : 128 ≤ r) (hp : IsPoint r) (h3 : r ≠ 65533) : Calls Tryz.prog 216 #[.string hexT, .int .i32 r] w fun e w' => e = .returned (.int .i64 (-1)) ∧ Below w.heap.size w w' := by
 have hr : r ≤ 1114111 := hp.2.1
 have hv := validRune_of hp
 have hd := encode_facts r (valid_of hp) h
 obtain ⟨x, hx⟩ : ∃ x, Utf8.encode r = x := ⟨_, rfl⟩
 rw [hx] at hd
 obtain ⟨h2, h4, hl⟩ := hd
 have hcv : ∀ w' : World, (convert 21 9 (.int .i32 r)).run Tryz.prog w' = .ok (.string x) w' := fun w' => by rw [← hx]; exact run_convert_int_string w' 21 9 .i32 r (by kernel_rfl) Tryz.underlying9
 clear hx
 unfold hexT
 rcases Nat.eq_or_lt_of_le (show 2 ≤ x.size by omega) with hsz | hsz
 · replace hsz := hsz.symm
   have hb := hl (by omega)
   obtain ⟨a, b, rfl⟩ : ∃ a b : UInt8, x = ⟨#[a, b]⟩ := by
    obtain ⟨⟨l⟩⟩ := x
    match l, hsz with
    | [a, b], _ => exact ⟨a, b, rfl⟩
   have hb' : 128 ≤ b.toNat := hb
   have hne : ((((⟨#[48, 49, 50, 51, 52, 53, 54, 55, 56, 57, 97, 98, 99, 100, 101, 102]⟩ : ByteArray)[1]'(by decide)).toNat : Int) != (((⟨#[a, b]⟩ : ByteArray)[1]'(by show 1 < 2; omega)).toNat : Int)) = true := by
    show ((49 : Int) != (b.toNat : Int)) = true
    simp
    omega
   have hix : indexByte [50, 51, 52, 53, 54, 55, 56, 57, 97, 98, 99, 100, 101, 102] ((⟨#[a, b]⟩ : ByteArray)[1]'(by show 1 < 2; omega)) < 0 := by
    show indexByte [50, 51, 52, 53, 54, 55, 56, 57, 97, 98, 99, 100, 101, 102] b < 0
    have : ∀ c : UInt8, 128 ≤ c.toNat → indexByte [50, 51, 52, 53, 54, 55, 56, 57, 97, 98, 99, 100, 101, 102] c < 0 := forall_u8 (by decide +kernel)
    exact this _ hb'
   clear hb hl
   go_enter Tryz.func216, Tryz.ntmps216
   go_wp2_with (go_at_call 241; refine (Tryz.utf8_ValidRune _ _).mono ?_; rintro e w' ⟨rfl, rfl⟩; rw [hv])
   refine wp_scope_straight ?_
   go_wp2
   refine wp_loop_rounds 1 ?_
   rw [rounds_succ]
   go_wp2
   refine wp_scope_straight ?_
   go_wp2
   go_quiet (fail)
   go_wp2
   obtain ⟨w1, hw1⟩ : ∃ w1, w'.drewN nq = w1 := ⟨_, rfl⟩
   have hB : Below w'.heap.size w' w1 := by rw [← hw1]; exact below_drewN _ _
   rw [hw1]
   clear hw1
   go_quiet ((go_at_call 162; exact Calls.quiet_of_same (Tryz.strings_IndexByte _ _ _)))
   go_wp2
   dsimp only [Exit.noGoto, Exit.inBlock, Exit.then]
   go_ret
   exact ⟨rfl, hB.trans (below_draws (Below.refl _ _) _ |>.mono hB.size)⟩
 rcases Nat.eq_or_lt_of_le (show 3 ≤ x.size by omega) with hsz | hsz
 · replace hsz := hsz.symm
   have hb := hl (by omega)
   obtain ⟨a, b, c, rfl⟩ : ∃ a b c : UInt8, x = ⟨#[a, b, c]⟩ := by
    obtain ⟨⟨l⟩⟩ := x
    match l, hsz with
    | [a, b, c], _ => exact ⟨a, b, c, rfl⟩
   have hb' : 128 ≤ c.toNat := hb
   have hne : ((((⟨#[48, 49, 50, 51, 52, 53, 54, 55, 56, 57, 97, 98, 99, 100, 101, 102]⟩ : ByteArray)[2]'(by decide)).toNat : Int) != (((⟨#[a, b, c]⟩ : ByteArray)[2]'(by show 2 < 3; omega)).toNat : Int)) = true := by
    show ((50 : Int) != (c.toNat : Int)) = true
    simp
    omega
   have hix : indexByte [51, 52, 53, 54, 55, 56, 57, 97, 98, 99, 100, 101, 102] ((⟨#[a, b, c]⟩ : ByteArray)[2]'(by show 2 < 3; omega)) < 0 := by
    show indexByte [51, 52, 53, 54, 55, 56, 57, 97, 98, 99, 100, 101, 102] c < 0
    have : ∀ c : UInt8, 128 ≤ c.toNat → indexByte [51, 52, 53, 54, 55, 56, 57, 97, 98, 99, 100, 101, 102] c < 0 := forall_u8 (by decide +kernel)
    exact this _ hb'
   clear hb hl
   go_enter Tryz.func216, Tryz.ntmps216
   go_wp2_with (go_at_call 241; refine (Tryz.utf8_ValidRune _ _).mono ?_; rintro e w' ⟨rfl, rfl⟩; rw [hv])
   refine wp_scope_straight ?_
   go_wp2
   refine wp_loop_rounds 1 ?_
   rw [rounds_succ]
   go_wp2
   refine wp_scope_straight ?_
   go_wp2
   go_quiet (fail)
   go_wp2
   obtain ⟨w1, hw1⟩ : ∃ w1, w'.drewN nq = w1 := ⟨_, rfl⟩
   have hB : Below w'.heap.size w' w1 := by rw [← hw1]; exact below_drewN _ _
   rw [hw1]
   clear hw1
   go_quiet ((go_at_call 162; exact Calls.quiet_of_same (Tryz.strings_IndexByte _ _ _)))
   go_wp2
   dsimp only [Exit.noGoto, Exit.inBlock, Exit.then]
   go_ret
   exact ⟨rfl, hB.trans (below_draws (Below.refl _ _) _ |>.mono hB.size)⟩
 · replace hsz : x.size = 4 := by omega
   have hb := hl (by omega)
   obtain ⟨a, b, c, d, rfl⟩ : ∃ a b c d : UInt8, x = ⟨#[a, b, c, d]⟩ := by
    obtain ⟨⟨l⟩⟩ := x
    match l, hsz with
    | [a, b, c, d], _ => exact ⟨a, b, c, d, rfl⟩
   have hb' : 128 ≤ d.toNat := hb
   have hne : ((((⟨#[48, 49, 50, 51, 52, 53, 54, 55, 56, 57, 97, 98, 99, 100, 101, 102]⟩ : ByteArray)[3]'(by decide)).toNat : Int) != (((⟨#[a, b, c, d]⟩ : ByteArray)[3]'(by show 3 < 4; omega)).toNat : Int)) = true := by
    show ((51 : Int) != (d.toNat : Int)) = true
    simp
    omega
   have hix : indexByte [52, 53, 54, 55, 56, 57, 97, 98, 99, 100, 101, 102] ((⟨#[a, b, c, d]⟩ : ByteArray)[3]'(by show 3 < 4; omega)) < 0 := by
    show indexByte [52, 53, 54, 55, 56, 57, 97, 98, 99, 100, 101, 102] d < 0
    have : ∀ c : UInt8, 128 ≤ c.toNat → indexByte [52, 53, 54, 55, 56, 57, 97, 98, 99, 100, 101, 102] c < 0 := forall_u8 (by decide +kernel)
    exact this _ hb'
   clear hb hl
   go_enter Tryz.func216, Tryz.ntmps216
   go_wp2_with (go_at_call 241; refine (Tryz.utf8_ValidRune _ _).mono ?_; rintro e w' ⟨rfl, rfl⟩; rw [hv])
   refine wp_scope_straight ?_
   go_wp2
   refine wp_loop_rounds 1 ?_
   rw [rounds_succ]
   go_wp2
   refine wp_scope_straight ?_
   go_wp2
   go_quiet (fail)
   go_wp2
   obtain ⟨w1, hw1⟩ : ∃ w1, w'.drewN nq = w1 := ⟨_, rfl⟩
   have hB : Below w'.heap.size w' w1 := by rw [← hw1]; exact below_drewN _ _
   rw [hw1]
   clear hw1
   go_quiet ((go_at_call 162; exact Calls.quiet_of_same (Tryz.strings_IndexByte _ _ _)))
   go_wp2
   dsimp only [Exit.noGoto, Exit.inBlock, Exit.then]
   go_ret
   exact ⟨rfl, hB.trans (below_draws (Below.refl _ _) _ |>.mono hB.size)⟩
end Go.Proofs.Jt
