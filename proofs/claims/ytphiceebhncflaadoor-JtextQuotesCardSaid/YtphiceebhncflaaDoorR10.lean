/- The walk of the reference's Next. Printed by gen_r10.py. -/
import Derived.Test.YtphiceebhncflaaDoorR9
namespace Go.Proofs.Jt
open Go.RowKit Go.Proofs Go.Lib Go.Proofs.Utf

def nxIs (l : List UInt8) (i : Nat) (v : Value) : Prop :=
  match nextL (l.drop i) with
  | some r => v = .agg #[.int .i64 (r.1 : Nat), .string ⟨r.2.1.toArray⟩, .int .i64 (i : Nat), .int .i64 ((i + r.2.2 : Nat) : Int)]
  | none => ∃ (k : Int) (x : ByteArray) (f : Int), v = .agg #[.int .i64 k, .string x, .int .i64 f, .int .i64 0] ∧ k ≠ 3
theorem nx_some {l : List UInt8} {i : Nat} {v : Value} {k : Nat} {x : List UInt8} {m : Nat} (h : nextL (l.drop i) = some (k, x, m)) (hv : v = .agg #[.int .i64 (k : Nat), .string ⟨x.toArray⟩, .int .i64 (i : Nat), .int .i64 ((i + m : Nat) : Int)]) : nxIs l i v := by
  unfold nxIs; rw [h]; exact hv
theorem nx_none {l : List UInt8} {i : Nat} {v : Value} (h : nextL (l.drop i) = none) {k : Int} {x : ByteArray} {f : Int} (hv : v = .agg #[.int .i64 k, .string x, .int .i64 f, .int .i64 0]) (hk : k ≠ 3) : nxIs l i v := by
  unfold nxIs; rw [h]; exact ⟨k, x, f, hv, hk⟩
theorem cut_arr (s : ByteArray) (i m : Nat) : (⟨((s.data.toList.drop i).take m).toArray⟩ : ByteArray) = s.extract i (i + m) := by
  apply ByteArray.ext
  apply Array.toList_inj.1
  rw [Lib.extract_data, Nat.add_sub_cancel_left]
theorem bcell {W w1 : World} (hb : Below W.heap.size W w1) : (∀ b o, b < W.heap.size → w1.cell? ⟨b, o, none⟩ = W.cell? ⟨b, o, none⟩) ∧ (∀ b o, b < W.heap.size → w1.frozen? ⟨b, o, none⟩ = W.frozen? ⟨b, o, none⟩) :=
  ⟨fun b o h => hb.cell (p := ⟨b, o, none⟩) h, fun b o h => hb.frozen (p := ⟨b, o, none⟩) h⟩
def Nx (s : ByteArray) (i : Nat) (w : World) (e : Ending) (w' : World) : Prop := ∃ v, e = .returned v ∧ nxIs s.data.toList i v ∧ Below w.heap.size w w'
theorem mark_six {c : UInt8} (h : isMarkB c = true) : c = 123 ∨ c = 125 ∨ c = 91 ∨ c = 93 ∨ c = 58 ∨ c = 44 := by
  have : ∀ c : UInt8, isMarkB c = true → c = 123 ∨ c = 125 ∨ c = 91 ∨ c = 93 ∨ c = 58 ∨ c = 44 := forall_u8 (by decide +kernel)
  exact this c h
theorem mark_none {c : UInt8} (h : isMarkB c = false) : c ≠ 123 ∧ c ≠ 125 ∧ c ≠ 91 ∧ c ≠ 93 ∧ c ≠ 58 ∧ c ≠ 44 := by
  have : ∀ c : UInt8, isMarkB c = false → c ≠ 123 ∧ c ≠ 125 ∧ c ≠ 91 ∧ c ≠ 93 ∧ c ≠ 58 ∧ c ≠ 44 := forall_u8 (by decide +kernel)
  exact this c h
set_option maxRecDepth 100000 in
set_option maxHeartbeats 2000000 in
theorem next_mark (s : ByteArray) (i : Nat) (w : World) (hs : s.size ≤ 16777216) (hi : i < s.size) (hm : isMarkB s[i] = true) : Calls Tryd.prog 36 #[.string s, .int .i64 i] w (Nx s i w) := by
  have hn : nextL (s.data.toList.drop i) = some (1, [s[i]], 1) := by rw [drop_cons s i hi, nextL_cons, if_pos hm]
  have hx : (⟨[s[i]].toArray⟩ : ByteArray) = s.extract i (i + 1) := by rw [← cut_arr, drop_cons s i hi]; rfl
  have hv : ∀ v, v = .agg #[.int .i64 1, .string (s.extract i (i + 1)), .int .i64 (i : Nat), .int .i64 ((i : Int) + 1)] → nxIs s.data.toList i v := fun v h => nx_some hn (by rw [h, hx]; rfl)
  have hi' : (i : Int) < (s.size : Int) := by omega
  have HV := Lib.hid hv
  clear hn hx hv
  rcases mark_six hm with h0 | h1 | h2 | h3 | h4 | h5
  · as_aux_lemma =>
      have t0 : ((s[i].toNat : Int) == 123) = true := by rw [h0]; rfl
      clear hm h0
      go_enter Tryd.func36, Tryd.ntmps36
      go_wp2_with (fail)
      exact bodyPost_ret (v := .agg #[.int .i64 1, .string (s.extract i (i + 1)), .int .i64 (i : Nat), .int .i64 ((i : Int) + 1)]) (by simp [results, Tryd.results36, go_sem]) rfl ⟨_, rfl, HV.out _ rfl, (Below.refl _ _).alloc (Nat.le_refl _) _⟩
  · as_aux_lemma =>
      have t0 : ((s[i].toNat : Int) == 123) = false := by rw [h1]; rfl
      have t1 : ((s[i].toNat : Int) == 125) = true := by rw [h1]; rfl
      clear hm h1
      go_enter Tryd.func36, Tryd.ntmps36
      go_wp2_with (fail)
      exact bodyPost_ret (v := .agg #[.int .i64 1, .string (s.extract i (i + 1)), .int .i64 (i : Nat), .int .i64 ((i : Int) + 1)]) (by simp [results, Tryd.results36, go_sem]) rfl ⟨_, rfl, HV.out _ rfl, (Below.refl _ _).alloc (Nat.le_refl _) _⟩
  · as_aux_lemma =>
      have t0 : ((s[i].toNat : Int) == 123) = false := by rw [h2]; rfl
      have t1 : ((s[i].toNat : Int) == 125) = false := by rw [h2]; rfl
      have t2 : ((s[i].toNat : Int) == 91) = true := by rw [h2]; rfl
      clear hm h2
      go_enter Tryd.func36, Tryd.ntmps36
      go_wp2_with (fail)
      exact bodyPost_ret (v := .agg #[.int .i64 1, .string (s.extract i (i + 1)), .int .i64 (i : Nat), .int .i64 ((i : Int) + 1)]) (by simp [results, Tryd.results36, go_sem]) rfl ⟨_, rfl, HV.out _ rfl, (Below.refl _ _).alloc (Nat.le_refl _) _⟩
  · as_aux_lemma =>
      have t0 : ((s[i].toNat : Int) == 123) = false := by rw [h3]; rfl
      have t1 : ((s[i].toNat : Int) == 125) = false := by rw [h3]; rfl
      have t2 : ((s[i].toNat : Int) == 91) = false := by rw [h3]; rfl
      have t3 : ((s[i].toNat : Int) == 93) = true := by rw [h3]; rfl
      clear hm h3
      go_enter Tryd.func36, Tryd.ntmps36
      go_wp2_with (fail)
      exact bodyPost_ret (v := .agg #[.int .i64 1, .string (s.extract i (i + 1)), .int .i64 (i : Nat), .int .i64 ((i : Int) + 1)]) (by simp [results, Tryd.results36, go_sem]) rfl ⟨_, rfl, HV.out _ rfl, (Below.refl _ _).alloc (Nat.le_refl _) _⟩
  · as_aux_lemma =>
      have t0 : ((s[i].toNat : Int) == 123) = false := by rw [h4]; rfl
      have t1 : ((s[i].toNat : Int) == 125) = false := by rw [h4]; rfl
      have t2 : ((s[i].toNat : Int) == 91) = false := by rw [h4]; rfl
      have t3 : ((s[i].toNat : Int) == 93) = false := by rw [h4]; rfl
      have t4 : ((s[i].toNat : Int) == 58) = true := by rw [h4]; rfl
      clear hm h4
      go_enter Tryd.func36, Tryd.ntmps36
      go_wp2_with (fail)
      exact bodyPost_ret (v := .agg #[.int .i64 1, .string (s.extract i (i + 1)), .int .i64 (i : Nat), .int .i64 ((i : Int) + 1)]) (by simp [results, Tryd.results36, go_sem]) rfl ⟨_, rfl, HV.out _ rfl, (Below.refl _ _).alloc (Nat.le_refl _) _⟩
  · as_aux_lemma =>
      have t0 : ((s[i].toNat : Int) == 123) = false := by rw [h5]; rfl
      have t1 : ((s[i].toNat : Int) == 125) = false := by rw [h5]; rfl
      have t2 : ((s[i].toNat : Int) == 91) = false := by rw [h5]; rfl
      have t3 : ((s[i].toNat : Int) == 93) = false := by rw [h5]; rfl
      have t4 : ((s[i].toNat : Int) == 58) = false := by rw [h5]; rfl
      have t5 : ((s[i].toNat : Int) == 44) = true := by rw [h5]; rfl
      clear hm h5
      go_enter Tryd.func36, Tryd.ntmps36
      go_wp2_with (fail)
      exact bodyPost_ret (v := .agg #[.int .i64 1, .string (s.extract i (i + 1)), .int .i64 (i : Nat), .int .i64 ((i : Int) + 1)]) (by simp [results, Tryd.results36, go_sem]) rfl ⟨_, rfl, HV.out _ rfl, (Below.refl _ _).alloc (Nat.le_refl _) _⟩
set_option maxRecDepth 100000 in
set_option maxHeartbeats 2000000 in
theorem next_str (s : ByteArray) (i : Nat) (w : World) (hs : s.size ≤ 16777216) (hi : i < s.size) (hm : s[i] = 34) : Calls Tryd.prog 36 #[.string s, .int .i64 i] w (Nx s i w) := by
  have hq := fun w => quoted_ref s i w hs hi
  have hi' : (i : Int) < (s.size : Int) := by omega
  have hn : nextL (s.data.toList.drop i) = (qq (s.data.toList.drop (i + 1))).map fun r => (4, r.1, r.2 + 1) := by
    rw [drop_cons s i hi, nextL_cons, if_neg (by rw [hm]; decide), if_pos hm]
  have t0 : ((s[i].toNat : Int) == 123) = false := by rw [hm]; rfl
  have t1 : ((s[i].toNat : Int) == 125) = false := by rw [hm]; rfl
  have t2 : ((s[i].toNat : Int) == 91) = false := by rw [hm]; rfl
  have t3 : ((s[i].toNat : Int) == 93) = false := by rw [hm]; rfl
  have t4 : ((s[i].toNat : Int) == 58) = false := by rw [hm]; rfl
  have t5 : ((s[i].toNat : Int) == 44) = false := by rw [hm]; rfl
  have t6 : ((s[i].toNat : Int) == 34) = true := by rw [hm]; rfl
  cases hqq : qq (s.data.toList.drop (i + 1)) with
  | none =>
    have hv : ∀ v, v = .agg #[.int .i64 4, .string ⟨#[]⟩, .int .i64 (i : Nat), .int .i64 0] → nxIs s.data.toList i v := fun v h => nx_none (by rw [hn, hqq]; rfl) h (by decide)
    have HV := Lib.hid hv
    have he : quV (qAt s.data.toList [] (i + 1)) 0 = .tuple #[.string ⟨#[]⟩, .int .i64 0] := by unfold qAt; rw [hqq]; rfl
    rw [he] at hq
    clear hn hv hm hqq he
    go_enter Tryd.func36, Tryd.ntmps36
    go_wp2_with (first
      | (go_at_call 59; refine (hq _).mono ?_; rintro e w1 ⟨rfl, hb1⟩
         obtain ⟨hc, hf⟩ := bcell hb1
         have hz := hb1.size
         simp at hz))
    exact bodyPost_ret (v := .agg #[.int .i64 4, .string ⟨#[]⟩, .int .i64 (i : Nat), .int .i64 0]) (by simp [results, Tryd.results36, go_sem, hc, hz]) rfl ⟨_, rfl, HV.out _ rfl, (((((((Below.refl _ _).alloc (Nat.le_refl _) _).trans (hb1.mono (by simp))).setCell (Nat.le_refl _) _).setCell (Nat.le_refl _) _).setCell (Nat.le_refl _) _).setCell (Nat.le_refl _) _)⟩
  | some r =>
    have he : quV (qAt s.data.toList [] (i + 1)) 0 = .tuple #[.string ⟨r.1.toArray⟩, .int .i64 ((i + 1 + r.2 : Nat) : Int)] := by unfold qAt; rw [hqq]; simp [quV]
    have hv : ∀ v, v = .agg #[.int .i64 4, .string ⟨r.1.toArray⟩, .int .i64 (i : Nat), .int .i64 ((i + 1 + r.2 : Nat) : Int)] → nxIs s.data.toList i v := fun v h => by
      refine nx_some (k := 4) (x := r.1) (m := r.2 + 1) (by rw [hn, hqq]; rfl) ?_
      rw [h, show i + (r.2 + 1) = i + 1 + r.2 by omega]
      rfl
    rw [he] at hq
    obtain ⟨q, hqe⟩ : ∃ q, i + 1 + r.2 = q := ⟨_, rfl⟩
    obtain ⟨X, hX⟩ : ∃ X : ByteArray, (⟨r.1.toArray⟩ : ByteArray) = X := ⟨_, rfl⟩
    simp only [hqe, hX] at hq hv
    have HV := Lib.hid hv
    clear hn hv hm hqq he hqe hX
    go_enter Tryd.func36, Tryd.ntmps36
    go_wp2_with (first
      | (go_at_call 59; refine (hq _).mono ?_; rintro e w1 ⟨rfl, hb1⟩
         obtain ⟨hc, hf⟩ := bcell hb1
         have hz := hb1.size
         simp at hz))
    exact bodyPost_ret (v := .agg #[.int .i64 4, .string X, .int .i64 (i : Nat), .int .i64 q]) (by simp [results, Tryd.results36, go_sem, hc, hz]) rfl ⟨_, rfl, HV.out _ rfl, (((((((Below.refl _ _).alloc (Nat.le_refl _) _).trans (hb1.mono (by simp))).setCell (Nat.le_refl _) _).setCell (Nat.le_refl _) _).setCell (Nat.le_refl _) _).setCell (Nat.le_refl _) _)⟩
end Go.Proofs.Jt
