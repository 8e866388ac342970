/- Plain laws: the program's answers are the reference's; places and units; joined texts; a point's bytes. -/
import Derived.Test.YtphiceebhncflaaDoorPlain2
namespace Go.Proofs.Utf
open Go.Lib

theorem units_eq : ∀ (t : List (Nat × Nat)) (pos : Nat), unitsR (rowsP t pos) = unitsP t
  | [], _ => rfl
  | (w, r) :: t, pos => by simp only [rowsP, unitsR, unitsP]; rw [units_eq t]
theorem byte_eq : ∀ (t : List (Nat × Nat)) (pos acc : Nat) (want : Int), (acc : Int) ≤ want → byteR (rowsP t pos) acc want (pos + widthP t) = byteP t pos acc want
  | [], pos, acc, want, _ => rfl
  | (w, r) :: t, pos, acc, want, h => by
    simp only [rowsP, byteR, byteP, widthP]
    by_cases h2 : want < ((acc + wt r : Nat) : Int)
    · rw [if_pos ⟨h, by omega⟩, if_pos h2]
    · rw [if_neg (by omega), if_neg h2, ← byte_eq t (pos + w) (acc + wt r) want (by omega), Nat.add_assoc]
theorem byte_neg (t : List (Nat × Nat)) (want : Int) (h : want < 0) : byteP t 0 0 want = 0 := by
  cases t with
  | nil => rfl
  | cons x t => obtain ⟨w, r⟩ := x; simp only [byteP]; rw [if_pos (by omega)]
def Wide (t : List (Nat × Nat)) : Prop := ∀ x ∈ t, 1 ≤ x.1 ∧ x.1 ≤ 4
theorem Wide.tail {x : Nat × Nat} {t : List (Nat × Nat)} (h : Wide (x :: t)) : Wide t := fun y hy => h y (List.mem_cons_of_mem _ hy)
theorem Wide.head {x : Nat × Nat} {t : List (Nat × Nat)} (h : Wide (x :: t)) : 1 ≤ x.1 ∧ x.1 ≤ 4 := h x List.mem_cons_self
theorem wide_pieces : ∀ (k : Nat) (l : List UInt8), l.length ≤ k → Wide (pieces l)
  | 0, l, h => by
    have : l = [] := List.eq_nil_of_length_eq_zero (by omega)
    subst this; intro x hx; cases hx
  | k + 1, l, h => by
    by_cases hne : l = []
    · subst hne; intro x hx; cases hx
    · have hl : 0 < l.length := List.length_pos_iff.2 hne
      rw [pieces_step l hne]
      intro x hx
      rcases List.mem_cons.1 hx with rfl | hx
      · exact ⟨headW_pos l, headW_le4 l⟩
      · exact wide_pieces k _ (by rw [List.length_drop]; have := headW_pos l; omega) x hx
theorem ua_zero : ∀ (t : List (Nat × Nat)) (pos : Nat) (a : Int), Wide t → a ≤ pos → uaR (rowsP t pos) a = 0
  | [], _, _, _, _ => rfl
  | (w, r) :: t, pos, a, hw, h => by
    have h1 : 1 ≤ w := hw.head.1
    simp only [rowsP, uaR]
    rw [if_neg (by omega), ua_zero t (pos + w) a hw.tail (by omega)]
theorem ua_past : ∀ (t : List (Nat × Nat)) (pos n last : Nat) (a : Int), a < (pos : Int) → uaP t pos n last a = n - last
  | [], pos, n, last, a, h => by simp only [uaP]; rw [if_pos h]
  | (w, r) :: t, pos, n, last, a, h => by simp only [uaP]; rw [if_pos h]
theorem ua_eq : ∀ (t : List (Nat × Nat)) (pos n last : Nat) (a : Int), Wide t → (pos : Int) ≤ a → uaP t pos n last a = n + uaR (rowsP t pos) a
  | [], pos, n, last, a, _, h => by simp only [uaP, rowsP, uaR]; rw [if_neg (by omega)]; rfl
  | (w, r) :: t, pos, n, last, a, hw, h => by
    have h1 : 1 ≤ w := hw.head.1
    simp only [uaP]
    rw [if_neg (by omega)]
    by_cases he : (pos : Int) = a
    · rw [if_pos he, ua_zero ((w, r) :: t) pos a hw (by omega)]; rfl
    · rw [if_neg he]
      simp only [rowsP, uaR]
      by_cases hc : ((pos + w : Nat) : Int) ≤ a
      · rw [if_pos hc, ua_eq t (pos + w) (n + wt r) (wt r) a hw.tail hc]; omega
      · rw [if_neg hc, ua_past t _ _ _ a (by omega), ua_zero t (pos + w) a hw.tail (by omega)]; omega
theorem ua_same (t : List (Nat × Nat)) (a : Int) (hw : Wide t) : uaP t 0 0 0 a = uaR (rowsP t 0) a := by
  by_cases h : (0 : Int) ≤ a
  · rw [ua_eq t 0 0 0 a hw (by omega), Nat.zero_add]
  · rw [ua_past t 0 0 0 a (by omega), ua_zero t 0 a hw (by omega)]
theorem valid_eq : ∀ (k : Nat) (l : List UInt8) (pos : Nat), l.length ≤ k → validR (rowsP (pieces l) pos) = validD l
  | 0, l, pos, h => by
    have : l = [] := List.eq_nil_of_length_eq_zero (by omega)
    subst this; rfl
  | k + 1, l, pos, h => by
    by_cases hne : l = []
    · subst hne; rfl
    · have hl : 0 < l.length := List.length_pos_iff.2 hne
      rw [pieces_step l hne, validD_step l hne]
      simp only [rowsP, validR, ptP]
      rw [valid_eq k _ _ (by rw [List.length_drop]; have := headW_pos l; omega)]
      unfold headW
      by_cases hh : (decodeL l).1 = 65533 ∧ (decodeL l).2 = 1 <;> simp [hh]

/-! ### places and units, piece by piece -/
def U : List (Nat × Nat) → Nat → Nat
  | [], _ => 0
  | (w, r) :: t, a => if a < w then 0 else wt r + U t (a - w)
def B : List (Nat × Nat) → Nat → Nat
  | [], _ => 0
  | (w, r) :: t, u => if u < wt r then 0 else w + B t (u - wt r)
theorem U_in {w r : Nat} {t : List (Nat × Nat)} {a : Nat} (h : a < w) : U ((w, r) :: t) a = 0 := if_pos h
theorem U_out {w r : Nat} {t : List (Nat × Nat)} {a : Nat} (h : ¬ a < w) : U ((w, r) :: t) a = wt r + U t (a - w) := if_neg h
theorem B_in {w r : Nat} {t : List (Nat × Nat)} {u : Nat} (h : u < wt r) : B ((w, r) :: t) u = 0 := if_pos h
theorem B_out {w r : Nat} {t : List (Nat × Nat)} {u : Nat} (h : ¬ u < wt r) : B ((w, r) :: t) u = w + B t (u - wt r) := if_neg h
theorem ua_U : ∀ (t : List (Nat × Nat)) (pos a : Nat), Wide t → pos ≤ a → uaR (rowsP t pos) a = U t (a - pos)
  | [], _, _, _, _ => rfl
  | (w, r) :: t, pos, a, hw, h => by
    simp only [rowsP, uaR, U]
    by_cases hc : a - pos < w
    · rw [if_neg (by omega), if_pos hc, ua_zero t (pos + w) a hw.tail (by omega)]
    · rw [if_pos (by omega), if_neg hc, ua_U t (pos + w) a hw.tail (by omega), show a - (pos + w) = a - pos - w from by omega]
theorem byte_B : ∀ (t : List (Nat × Nat)) (pos acc want : Nat), acc ≤ want → byteP t pos acc want = pos + B t (want - acc)
  | [], _, _, _, _ => rfl
  | (w, r) :: t, pos, acc, want, h => by
    simp only [byteP, B]
    by_cases hc : want - acc < wt r
    · rw [if_pos (by omega), if_pos hc]; rfl
    · rw [if_neg (by omega), if_neg hc, byte_B t (pos + w) (acc + wt r) want (by omega), show want - (acc + wt r) = want - acc - wt r from by omega]; omega
theorem BU_le : ∀ (t : List (Nat × Nat)) (a : Nat), Wide t → a ≤ widthP t → B t (U t a) ≤ a ∧ a ≤ B t (U t a) + 3
  | [], a, _, h => by simp only [widthP] at h; simp only [B]; omega
  | (w, r) :: t, a, hw, h => by
    have hp := wt_pos r
    have h1 : 1 ≤ w ∧ w ≤ 4 := hw.head
    by_cases hc : a < w
    · rw [U_in hc, B_in (by omega)]; omega
    · rw [U_out hc, B_out (by omega), show wt r + U t (a - w) - wt r = U t (a - w) from by omega]
      simp only [widthP] at h
      have := BU_le t (a - w) hw.tail (by omega)
      omega
theorem UB_le : ∀ (t : List (Nat × Nat)) (u : Nat), Wide t → u ≤ unitsP t → U t (B t u) ≤ u ∧ u ≤ U t (B t u) + 1
  | [], u, _, h => by simp only [unitsP] at h; simp only [U]; omega
  | (w, r) :: t, u, hw, h => by
    have hp := wt_pos r
    have hp2 := wt_le r
    have h1 : 1 ≤ w ∧ w ≤ 4 := hw.head
    by_cases hc : u < wt r
    · rw [B_in hc, U_in (by omega)]; omega
    · rw [B_out hc, U_out (by omega), show w + B t (u - wt r) - w = B t (u - wt r) from by omega]
      simp only [unitsP] at h
      have := UB_le t (u - wt r) hw.tail (by omega)
      omega
theorem UBU : ∀ (t : List (Nat × Nat)) (a : Nat), Wide t → U t (B t (U t a)) = U t a
  | [], a, _ => rfl
  | (w, r) :: t, a, hw => by
    have hp := wt_pos r
    have h1 : 1 ≤ w ∧ w ≤ 4 := hw.head
    by_cases hc : a < w
    · rw [U_in hc, B_in (by omega), U_in (by omega)]
    · rw [U_out hc, B_out (by omega), show wt r + U t (a - w) - wt r = U t (a - w) from by omega, U_out (by omega), show w + B t (U t (a - w)) - w = B t (U t (a - w)) from by omega, UBU t (a - w) hw.tail]
theorem U_mono : ∀ (t : List (Nat × Nat)) (a : Nat), Wide t → U t a ≤ U t (a + 1)
  | [], _, _ => Nat.le_refl _
  | (w, r) :: t, a, hw => by
    by_cases hc : a < w
    · rw [U_in hc]; omega
    · rw [U_out hc, U_out (by omega), show a + 1 - w = (a - w) + 1 from by omega]
      have := U_mono t (a - w) hw.tail
      omega
theorem B_mono : ∀ (t : List (Nat × Nat)) (u : Nat), B t u ≤ B t (u + 1)
  | [], _ => Nat.le_refl _
  | (w, r) :: t, u => by
    by_cases hc : u < wt r
    · rw [B_in hc]; omega
    · rw [B_out hc, B_out (by omega), show u + 1 - wt r = (u - wt r) + 1 from by omega]
      have := B_mono t (u - wt r)
      omega
theorem U_all : ∀ (t : List (Nat × Nat)), U t (widthP t) = unitsP t
  | [] => rfl
  | (w, r) :: t => by
    show U ((w, r) :: t) (w + widthP t) = wt r + unitsP t
    rw [U_out (by omega), show w + widthP t - w = widthP t from by omega, U_all t]
theorem B_all : ∀ (t : List (Nat × Nat)), B t (unitsP t) = widthP t
  | [] => rfl
  | (w, r) :: t => by
    show B ((w, r) :: t) (wt r + unitsP t) = w + widthP t
    rw [B_out (by omega), show wt r + unitsP t - wt r = unitsP t from by omega, B_all t]

/-! ### a text behind a valid one -/
theorem cand_take (l m : List UInt8) (k : Nat) (h1 : 1 ≤ k) (h4 : k ≤ 4) (hk : k ≤ l.length) : candL (l ++ m) k = candL l k := by
  have g (i : Nat) (hi : i < l.length) : (l ++ m).getD i 0 = l.getD i 0 := by simp [List.getD, List.getElem?_append_left hi]
  unfold candL
  rcases (show k = 1 ∨ k = 2 ∨ k = 3 ∨ k = 4 from by omega) with rfl | rfl | rfl | rfl
  · rw [cand1, g 0 (by omega)]; exact (cand1 _ _ _ _).symm
  · rw [cand2, g 0 (by omega), g 1 (by omega)]; exact (cand2 _ _ _ _).symm
  · rw [cand3, g 0 (by omega), g 1 (by omega), g 2 (by omega)]; exact (cand3 _ _ _ _).symm
  · rw [g 0 (by omega), g 1 (by omega), g 2 (by omega), g 3 (by omega)]
theorem hit_append (l m : List UInt8) (k : Nat) (h1 : 1 ≤ k) (h4 : k ≤ 4) (hk : k ≤ l.length) (h : Hit l k) : Hit (l ++ m) k := by
  unfold Hit at *
  rw [cand_take l m k h1 h4 hk, List.take_append_of_le_length hk]
  exact h
theorem pt_hit (l : List UInt8) (hne : l ≠ []) (h : isPt l = true) : ∃ k, 1 ≤ k ∧ k ≤ 4 ∧ k ≤ l.length ∧ Hit l k := by
  have hl : 0 < l.length := List.length_pos_iff.2 hne
  by_cases hc : ∀ k, 1 ≤ k → k ≤ 4 → k ≤ l.length → ¬ Hit l k
  · have := missed l hl hc
    unfold isPt at h
    rw [this] at h
    simp at h
  · simp only [Classical.not_forall, Classical.not_not] at hc
    obtain ⟨k, a, b, c, d⟩ := hc
    exact ⟨k, a, b, c, d⟩
theorem dec_append (l m : List UInt8) (hne : l ≠ []) (h : isPt l = true) : decodeL (l ++ m) = decodeL l := by
  obtain ⟨k, h1, h4, hk, hh⟩ := pt_hit l hne h
  rw [found l k h1 h4 hk hh, found (l ++ m) k h1 h4 (by rw [List.length_append]; omega) (hit_append l m k h1 h4 hk hh), cand_take l m k h1 h4 hk]
theorem valid_step (l : List UInt8) (hne : l ≠ []) (h : validD l = true) : isPt l = true ∧ validD (l.drop (headW l)) = true := by
  rw [validD_step l hne] at h
  unfold isPt headW
  by_cases hh : (decodeL l).1 = 65533 ∧ (decodeL l).2 = 1
  · rw [if_pos hh] at h; cases h
  · rw [if_neg hh] at h
    exact ⟨decide_eq_true hh, h⟩
theorem pieces_append : ∀ (k : Nat) (l m : List UInt8), l.length ≤ k → validD l = true → pieces (l ++ m) = pieces l ++ pieces m
  | 0, l, m, h, _ => by
    have : l = [] := List.eq_nil_of_length_eq_zero (by omega)
    subst this; rfl
  | k + 1, l, m, h, hv => by
    by_cases hne : l = []
    · subst hne; rfl
    · have hl : 0 < l.length := List.length_pos_iff.2 hne
      obtain ⟨hp, hv2⟩ := valid_step l hne hv
      have hd := dec_append l m hne hp
      have hw : headW (l ++ m) = headW l := by unfold headW; rw [hd]
      have hle := headW_le l hl
      rw [pieces_step (l ++ m) (by simp [hne]), hd, hw, pieces_step l hne, List.drop_append_of_le_length hle,
        pieces_append k (l.drop (headW l)) m (by rw [List.length_drop]; have := headW_pos l; omega) hv2, List.cons_append]
theorem valid_append : ∀ (k : Nat) (l m : List UInt8), l.length ≤ k → validD l = true → validD (l ++ m) = validD m
  | 0, l, m, h, _ => by
    have : l = [] := List.eq_nil_of_length_eq_zero (by omega)
    subst this; rfl
  | k + 1, l, m, h, hv => by
    by_cases hne : l = []
    · subst hne; rfl
    · have hl : 0 < l.length := List.length_pos_iff.2 hne
      obtain ⟨hp, hv2⟩ := valid_step l hne hv
      have hd := dec_append l m hne hp
      have hle := headW_le l hl
      unfold headW at hle hv2
      rw [validD_step (l ++ m) (by simp [hne]), hd]
      have hh : ¬ ((decodeL l).1 = 65533 ∧ (decodeL l).2 = 1) := of_decide_eq_true hp
      rw [if_neg hh, List.drop_append_of_le_length hle]
      exact valid_append k (l.drop (decodeL l).2) m (by rw [List.length_drop]; have := decodeL_width l; omega) hv2
theorem unitsP_append : ∀ (t u : List (Nat × Nat)), unitsP (t ++ u) = unitsP t + unitsP u
  | [], u => by simp [unitsP]
  | (w, r) :: t, u => by simp only [List.cons_append, unitsP]; rw [unitsP_append t u]; omega
theorem U_append : ∀ (t u : List (Nat × Nat)) (a : Nat), U (t ++ u) (widthP t + a) = unitsP t + U u a
  | [], u, a => by simp [unitsP, widthP]
  | (w, r) :: t, u, a => by
    show U ((w, r) :: (t ++ u)) (w + widthP t + a) = wt r + unitsP t + U u a
    rw [U_out (by omega), show w + widthP t + a - w = widthP t + a from by omega, U_append t u a]; omega
theorem B_append : ∀ (t u : List (Nat × Nat)) (a : Nat), B (t ++ u) (unitsP t + a) = widthP t + B u a
  | [], u, a => by simp [unitsP, widthP]
  | (w, r) :: t, u, a => by
    show B ((w, r) :: (t ++ u)) (wt r + unitsP t + a) = w + widthP t + B u a
    rw [B_out (by omega), show wt r + unitsP t + a - wt r = unitsP t + a from by omega, B_append t u a]; omega
theorem U_zero (t : List (Nat × Nat)) (hw : Wide t) : U t 0 = 0 := by
  cases t with
  | nil => rfl
  | cons x t => obtain ⟨w, r⟩ := x; exact U_in hw.head.1
theorem B_zero (t : List (Nat × Nat)) : B t 0 = 0 := by
  cases t with
  | nil => rfl
  | cons x t => obtain ⟨w, r⟩ := x; exact B_in (wt_pos r)

/-! ### a point's bytes -/
theorem enc_hit (n : Int) (hp : IsPoint n) (m : List UInt8) : 1 ≤ (encodeRune n).length ∧ (encodeRune n).length ≤ 4 ∧ candL (encodeRune n ++ m) (encodeRune n).length = n ∧ Hit (encodeRune n ++ m) (encodeRune n).length := by
  have hc : (candL (encodeRune n ++ m) (encodeRune n).length : Int) = n ∧ 1 ≤ (encodeRune n).length ∧ (encodeRune n).length ≤ 4 := by
    obtain ⟨h0, h1, h2⟩ := id hp
    rcases len_cases n hp with ⟨a, hl⟩ | ⟨a, b, hl⟩ | ⟨a, hl⟩ | ⟨a, hl⟩
    · refine ⟨?_, by omega, by omega⟩
      rw [hl, enc1 n ⟨h0, a⟩]
      simp [candL, cand]
      omega
    · refine ⟨?_, by omega, by omega⟩
      rw [hl, enc2 n ⟨a, b⟩]
      simp [candL, cand]
      omega
    · refine ⟨?_, by omega, by omega⟩
      rw [hl, enc3 n a]
      simp [candL, cand]
      omega
    · refine ⟨?_, by omega, by omega⟩
      rw [hl, enc4 n ⟨a, h1⟩]
      simp [candL, cand]
      omega
  refine ⟨hc.2.1, hc.2.2, hc.1, ?_⟩
  unfold Hit
  rw [hc.1]
  exact ⟨hp, by simp⟩
theorem enc_head (n : Int) (hp : IsPoint n) (m : List UInt8) : headP (encodeRune n ++ m) = n ∧ headW (encodeRune n ++ m) = (encodeRune n).length := by
  obtain ⟨h1, h4, hc, hh⟩ := enc_hit n hp m
  have := head_found _ _ h1 h4 (by rw [List.length_append]; omega) hh
  rw [hc] at this
  exact this
theorem enc_valid (n : Int) (hp : IsPoint n) : validD (encodeRune n) = true := by
  obtain ⟨h1, h4, hc, hh⟩ := enc_hit n hp []
  rw [List.append_nil] at hc hh
  have hne : encodeRune n ≠ [] := by intro e; rw [e] at h1; simp at h1
  have hf := found _ _ h1 h4 (Nat.le_refl _) hh
  have hn := cand_ne _ _ h1 h4 (Nat.le_refl _) hh
  rw [validD_step _ hne, hf, if_neg hn]
  simp [validD_nil]
theorem enc_prefix (a b : Int) (ha : IsPoint a) (hb : IsPoint b) : (encodeRune b).isPrefixOf (encodeRune a) = (a == b) := by
  by_cases h : a = b
  · subst h
    simp
  · have h' : (a == b) = false := by simpa using h
    rw [h']
    cases hc : (encodeRune b).isPrefixOf (encodeRune a) with
    | false => rfl
    | true =>
      obtain ⟨m, hm⟩ := List.isPrefixOf_iff_prefix.1 hc
      have e1 := enc_head a ha []
      have e2 := enc_head b hb m
      rw [List.append_nil, ← hm, e2.1] at e1
      exact absurd e1.1.symm h
end Go.Proofs.Utf
