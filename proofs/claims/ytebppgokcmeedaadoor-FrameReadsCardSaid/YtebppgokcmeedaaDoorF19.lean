/- The reference of frames: Length. -/
import Derived.Test.YtebppgokcmeedaaDoorF18
namespace Go.Proofs.Fr
open Go.RowKit Go.Maps Go.Proofs Go.Lib

def refGo : List (List UInt8) → Int → Nat → Nat → Int
  | [], n, a, t => if a ≠ 1 ∨ 1 < t then -1 else n
  | l :: ls, n, a, t =>
    match named l nameLen with
    | some v => if numV v < 0 then -1 else refGo ls (numV v) (a + 1) t
    | none =>
      match named l nameTyp with
      | some v => if plainB v = true then refGo ls n a (t + 1) else -1
      | none => -1
theorem ref_bad : ∀ (ls : List (List UInt8)) (n : Int) (a t : Nat), 1 < a ∨ 1 < t → refGo ls n a t = -1
  | [], n, a, t, h => by
    unfold refGo
    rw [if_pos]
    rcases h with h | h
    · exact .inl (by omega)
    · exact .inr h
  | l :: ls, n, a, t, h => by
    unfold refGo
    split
    · split
      · rfl
      · exact ref_bad ls _ _ _ (by omega)
    · split
      · split
        · exact ref_bad ls _ _ _ (by omega)
        · rfl
      · rfl
theorem ref_go : ∀ (ls : List (List UInt8)) (n : Int) (a t : Nat), (a = 0 ∧ n = -1) ∨ (a = 1 ∧ 0 ≤ n) → t ≤ 1 → refGo ls n a t = headGo ls n t
  | [], n, a, t, h, ht => by
    unfold refGo headGo
    rcases h with ⟨h1, h2⟩ | ⟨h1, h2⟩
    · rw [if_pos (.inl (by omega)), h2]
    · rw [if_neg]
      rintro (h | h)
      · exact h h1
      · omega
  | l :: ls, n, a, t, h, ht => by
    unfold refGo headGo
    cases named l nameLen with
    | some v =>
      simp only
      have hge := numV_ge v
      by_cases hv : numV v < 0
      · rw [if_pos hv, if_neg]
        rintro ⟨_, h2⟩
        omega
      · rw [if_neg hv]
        rcases h with ⟨h1, h2⟩ | ⟨h1, h2⟩
        · rw [if_pos ⟨h2, by omega⟩]
          exact ref_go ls _ _ _ (.inr ⟨by omega, by omega⟩) ht
        · rw [if_neg (by rintro ⟨h3, _⟩; omega)]
          exact ref_bad ls _ _ _ (.inl (by omega))
    | none =>
      simp only
      cases named l nameTyp with
      | none => rfl
      | some v =>
        simp only
        by_cases hp : plainB v = true
        · rw [if_pos hp]
          by_cases ht0 : t = 0
          · rw [if_pos ⟨ht0, hp⟩]
            exact ref_go ls _ _ _ h (by omega)
          · rw [if_neg (fun h => ht0 h.1)]
            exact ref_bad ls _ _ _ (.inr (by omega))
        · rw [if_neg hp, if_neg (fun h => hp h.2)]
theorem ref_head (s : List UInt8) : refGo (lns s) (-1) 0 0 = headL s := ref_go _ _ _ _ (.inl ⟨rfl, rfl⟩) (Nat.zero_le _)
theorem plain_cons (c : UInt8) (t : List UInt8) : plainB (c :: t) = (decide (32 ≤ c.toNat ∧ c.toNat ≤ 126) && plainB t) := rfl
theorem nameLenB_list : nameLenB.data.toList = nameLen := rfl
theorem nameTypB_list : nameTypB.data.toList = nameTyp := rfl
theorem lns_len (s : List UInt8) : ∀ l ∈ lns s, l.length ≤ s.length := splitK_len crlf _ _
theorem lns_count (s : List UInt8) : (lns s).length ≤ s.length + 1 := by
  have key : ∀ (k : Nat) (s : List UInt8), (splitK crlf 0 k s).length ≤ k + 1 := by
    intro k
    induction k with
    | zero => intro s; rw [splitK]; simp
    | succ k ih =>
      intro s
      rw [splitK]
      split
      · simp
      · rw [List.length_cons]; have := ih (s.drop ((index s crlf).toNat + crlf.length)); omega
  exact key _ _
set_option maxRecDepth 100000 in
set_option maxHeartbeats 4000000 in
theorem length_ref (s : ByteArray) (w : World) (hs : s.size ≤ 16777216) : Calls Tryd.prog 30 #[.string s] w fun e w' => e = .returned (.int .i64 (headL s.data.toList)) ∧ Below w.heap.size w w' := by
  have hli := lines_any s w hs
  obtain ⟨R, hR⟩ : ∃ R, headL s.data.toList = R := ⟨_, rfl⟩
  rw [hR]
  have h0 := ref_head s.data.toList
  rw [hR] at h0
  have hlen := lns_len s.data.toList
  have hcnt := lns_count s.data.toList
  rw [← Lib.size_eq] at hlen hcnt
  obtain ⟨L, hL⟩ : ∃ L, lns s.data.toList = L := ⟨_, rfl⟩
  rw [hL] at hli h0 hlen hcnt
  have H0 := Lib.hid h0
  have HLEN := Lib.hid hlen
  clear hR h0 hlen hL
  go_enter Tryd.func30, Tryd.ntmps30
  go_wp2_with (first
    | (go_at_call 48; refine hli.mono ?_; rintro e w1 ⟨v1, rfl, ho, b1⟩
       obtain ⟨p1, c1, rfl⟩ := row_shape ho))
  go_loop [4, 5, 6, 7] (fun vn va vt vi => ∃ (n : Int) (a t k : Nat), vn = .int .i64 n ∧ va = .int .i64 a ∧ vt = .int .i64 t ∧ vi = .int .i64 k ∧ k ≤ L.length ∧ a ≤ k ∧ t ≤ k ∧ refGo (L.drop k) n a t = R) (fun _ _ _ vi => L.length - (RowKit.intOf vi).toNat)
  case atStart => exact ⟨-1, 0, 0, 0, rfl, rfl, rfl, rfl, Nat.zero_le _, Nat.zero_le _, Nat.zero_le _, H0.out⟩
  case round =>
    obtain ⟨n, a, t, k, rfl, rfl, rfl, rfl, hk, ha, ht, hg⟩ := hrel
    by_cases hkn : (k : Int) < (L.length : Int)
    · have hkl : k < L.length := by omega
      obtain ⟨l, hl⟩ : ∃ l, L[k]? = some l := ⟨_, List.getElem?_eq_getElem hkl⟩
      have hd : L.drop k = l :: L.drop (k + 1) := by
        rw [List.drop_eq_getElem_cons hkl]
        rw [List.getElem?_eq_getElem hkl] at hl
        rw [Option.some.inj hl]
      have hll := HLEN.out l (List.mem_of_getElem? hl)
      obtain ⟨g, cap, hv, hcap, hgl, hcell⟩ := strs_at ho (by omega)
      cases hv
      have hc1 := hcell k l hl
      rw [hd, refGo] at hg
      have hn1 : ∀ w, Calls Tryd.prog 49 #[.string ⟨l.toArray⟩, .string nameLenB] w fun e w' => e = .returned (namedV (named l nameLen)) ∧ w = w' := fun w => named_ref ⟨l.toArray⟩ nameLenB w (by rw [size_mk']; omega) (by decide)
      have hn2 : ∀ w, Calls Tryd.prog 49 #[.string ⟨l.toArray⟩, .string nameTypB] w fun e w' => e = .returned (namedV (named l nameTyp)) ∧ w = w' := fun w => named_ref ⟨l.toArray⟩ nameTypB w (by rw [size_mk']; omega) (by decide)
      unfold nameLenB at hn1
      unfold nameTypB at hn2
      obtain ⟨X, hX⟩ : ∃ X : ByteArray, (⟨l.toArray⟩ : ByteArray) = X := ⟨_, rfl⟩
      rw [hX] at hc1
      simp only [hX] at hn1 hn2
      have hlb1 := fun v (h : named l nameLen = some v) => named_len h
      have hlb2 := fun v (h : named l nameTyp = some v) => named_len h
      obtain ⟨o1, ho1⟩ : ∃ o, named l nameLen = o := ⟨_, rfl⟩
      obtain ⟨o2, ho2⟩ : ∃ o, named l nameTyp = o := ⟨_, rfl⟩
      rw [ho1] at hn1 hg hlb1
      rw [ho2] at hn2 hg hlb2
      clear hl hd hcell hX ho1 ho2
      cases o1 with
      | some v =>
        have hvl := hlb1 v rfl
        have hnm : ∀ w, Calls Tryd.prog 50 #[.string ⟨v.toArray⟩] w fun e w' => e = .returned (.int .i64 (numV v)) ∧ w = w' := fun w => number_ref ⟨v.toArray⟩ w (by rw [size_mk']; omega)
        simp only at hg
        obtain ⟨m, hm⟩ : ∃ m, numV v = m := ⟨_, rfl⟩
        rw [hm] at hg
        simp only [hm] at hnm
        simp only [namedV] at hn1
        clear hlb1 hlb2 hn2 hm hvl
        by_cases hneg : m < 0
        · rw [if_pos hneg] at hg
          have HG := Lib.hid hg
          clear hg
          go_wp2_with (first
            | (go_at_call 49; refine (hn1 _).mono ?_; rintro e w2 ⟨rfl, hw⟩; subst hw)
            | (go_at_call 50; refine (hnm _).mono ?_; rintro e w2 ⟨rfl, hw⟩; subst hw))
          go_ret
          exact ⟨ret_int HG.out, b1⟩
        · rw [if_neg hneg] at hg
          have HG := Lib.hid hg
          clear hg
          go_wp2_with (first
            | (go_at_call 49; refine (hn1 _).mono ?_; rintro e w2 ⟨rfl, hw⟩; subst hw)
            | (go_at_call 50; refine (hnm _).mono ?_; rintro e w2 ⟨rfl, hw⟩; subst hw))
          go_round
          case rel => exact ⟨m, a + 1, t, k + 1, rfl, by go_num, rfl, by go_num, by omega, by omega, by omega, HG.out⟩
          case measure => simp [RowKit.intOf]; omega
      | none =>
        simp only at hg
        simp only [namedV] at hn1
        cases o2 with
        | none =>
          simp only at hg
          simp only [namedV] at hn2
          have HG := Lib.hid hg
          clear hg hlb1 hlb2
          go_wp2_with (first
            | (go_at_call 49; (with_reducible show Calls _ _ #[_, Value.string ⟨#[99, 111, 110, 116, 101, 110, 116, 45, 116, 121, 112, 101]⟩] _ _); refine (hn2 _).mono ?_; rintro e w2 ⟨rfl, hw⟩; subst hw)
            | (go_at_call 49; refine (hn1 _).mono ?_; rintro e w2 ⟨rfl, hw⟩; subst hw))
          go_ret
          exact ⟨ret_int HG.out, b1⟩
        | some v =>
          have hvl := hlb2 v rfl
          simp only at hg
          simp only [namedV] at hn2
          obtain ⟨V, hV⟩ : ∃ V : ByteArray, (⟨v.toArray⟩ : ByteArray) = V := ⟨_, rfl⟩
          have hVl : V.data.toList = v := by rw [← hV]
          have hVs : V.size ≤ 16777216 := by rw [← hV, size_mk']; omega
          simp only [hV] at hn2
          rw [← hVl] at hg
          have HG := Lib.hid hg
          clear hg hlb1 hlb2 hVl hV hvl
          go_wp2_with (first
            | (go_at_call 49; (with_reducible show Calls _ _ #[_, Value.string ⟨#[99, 111, 110, 116, 101, 110, 116, 45, 116, 121, 112, 101]⟩] _ _); refine (hn2 _).mono ?_; rintro e w2 ⟨rfl, hw⟩; subst hw)
            | (go_at_call 49; refine (hn1 _).mono ?_; rintro e w2 ⟨rfl, hw⟩; subst hw))
          go_loop [10] (fun v => ∃ j : Nat, v = .int .i64 j ∧ j ≤ V.size ∧ plainB V.data.toList = plainB (V.data.toList.drop j)) (fun v => V.size - (RowKit.intOf v).toNat)
          case atStart => exact ⟨0, rfl, Nat.zero_le _, by rw [List.drop_zero]⟩
          case round =>
            obtain ⟨j, rfl, hj, hp⟩ := hrel
            have HP := Lib.hid hp
            clear hp
            by_cases hjn : (j : Int) < (V.size : Int)
            · have hjs : j < V.size := by omega
              have hc : plainB (V.data.toList.drop j) = (decide (32 ≤ V[j].toNat ∧ V[j].toNat ≤ 126) && plainB (V.data.toList.drop (j + 1))) := by
                have hd : V.data.toList.drop j = V[j] :: V.data.toList.drop (j + 1) := List.drop_eq_getElem_cons (by rw [← Lib.size_eq]; exact hjs)
                rw [hd, plain_cons]
              have HC := Lib.hid hc
              clear hc
              have bad : ¬ (32 ≤ V[j].toNat ∧ V[j].toNat ≤ 126) → R = -1 := fun h => by
                rw [← HG.out, if_neg]
                rw [HP.out, HC.out, decide_eq_false h, Bool.false_and]
                decide
              by_cases h1 : V[j].toNat < 32
              · have u1 : decide ((V[j].toNat : Int) < 32) = true := by simp; omega
                have hr := bad (by omega)
                have H1 := Lib.hid hr
                clear hr bad h1
                go_wp2
                go_ret
                exact ⟨ret_int H1.out.symm, b1⟩
              · have u1 : decide ((V[j].toNat : Int) < 32) = false := by simp; omega
                by_cases h2 : 126 < V[j].toNat
                · have u2 : decide ((126 : Int) < (V[j].toNat : Int)) = true := by simp; omega
                  have hr := bad (by omega)
                  have H1 := Lib.hid hr
                  clear hr bad h1 h2
                  go_wp2
                  go_ret
                  exact ⟨ret_int H1.out.symm, b1⟩
                · have u2 : decide ((126 : Int) < (V[j].toNat : Int)) = false := by simp; omega
                  have hr : plainB V.data.toList = plainB (V.data.toList.drop (j + 1)) := by rw [HP.out, HC.out, decide_eq_true ⟨by omega, by omega⟩]; rfl
                  have H1 := Lib.hid hr
                  clear hr bad h1 h2
                  go_wp2
                  go_round
                  case rel => exact ⟨j + 1, by go_num, by omega, H1.out⟩
                  case measure => simp [RowKit.intOf]; omega
            · have hr : refGo (L.drop (k + 1)) n a (t + 1) = R := by
                rw [← HG.out, if_pos]
                rw [HP.out, List.drop_eq_nil_of_le (by rw [← Lib.size_eq]; omega)]
                rfl
              have H1 := Lib.hid hr
              clear hr
              go_wp2
              go_round
              case rel => exact ⟨n, a, t + 1, k + 1, rfl, rfl, by go_num, by go_num, by omega, by omega, by omega, H1.out⟩
              case measure => simp [RowKit.intOf]; omega
    · have hnil : L.drop k = [] := List.drop_eq_nil_of_le (by omega)
      rw [hnil, refGo] at hg
      clear hnil
      by_cases h1 : a = 1
      · have u1 : ((a : Int) != 1) = false := by simp; omega
        by_cases h2 : (1 : Int) < (t : Int)
        · rw [if_pos (.inr (by omega))] at hg
          have HG := Lib.hid hg
          clear hg h1
          go_wp2
          go_ret
          exact ⟨ret_int HG.out, b1⟩
        · rw [if_neg (by omega)] at hg
          have HG := Lib.hid hg
          clear hg h1
          go_wp2
          go_ret
          exact ⟨ret_int HG.out, b1⟩
      · have u1 : ((a : Int) != 1) = true := by simp; omega
        rw [if_pos (.inl h1)] at hg
        have HG := Lib.hid hg
        clear hg h1
        go_wp2
        go_ret
        exact ⟨ret_int HG.out, b1⟩
end Go.Proofs.Fr
