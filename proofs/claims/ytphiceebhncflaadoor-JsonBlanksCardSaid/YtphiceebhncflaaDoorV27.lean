/- JsonBlanks, plain: blanks between the words of a list of values make no difference. No program in sight. -/
import Derived.Test.YtphiceebhncflaaDoorVE
namespace Go.Proofs.Jt
open Go.Lib Go.Proofs.Utf

/-- the items of a list, with blanks about the commas -/
def listG (g : List UInt8) : List JV → Bool → List UInt8
  | [], _ => []
  | x :: t, first => (if first then [] else g ++ 44 :: g) ++ (x.text ++ listG g t false)
theorem listG_snoc (g : List UInt8) : ∀ (l : List JV) (first : Bool) (x : JV), listG g (l ++ [x]) first = listG g l first ++ ((if first && l.isEmpty then [] else g ++ 44 :: g) ++ x.text)
  | [], first, x => by cases first <;> simp [listG]
  | y :: t, first, x => by
    rw [List.cons_append, listG, listG, listG_snoc g t false x]
    simp
theorem soft_app {g : List UInt8} (hg : ∀ b ∈ g, isBlankB b = true) {l : List UInt8} (hl : ∀ c, l[0]? = some c → softB c = true) : ∀ c, (g ++ l)[0]? = some c → softB c = true := fun c hc => by
  cases g with
  | nil => exact hl c hc
  | cons b t =>
    obtain rfl : b = c := Option.some.inj hc
    exact soft_blank (hg b List.mem_cons_self)
theorem soft_one {c : UInt8} {l : List UInt8} (h : softB c = true) : ∀ d, (c :: l)[0]? = some d → softB d = true := fun d hd => by
  obtain rfl := Option.some.inj hd
  exact h
theorem listG_LK {g : List UInt8} (hg : ∀ b ∈ g, isBlankB b = true) : ∀ (l : List JV), (∀ x ∈ l, x.fnd = 0) → ∀ (r : List UInt8) (K : List KT), LK r K → (∀ c, r[0]? = some c → softB c = true) → LK (listG g l true ++ r) (ktL false l [] true ++ K)
  | [], _, r, K, hr, _ => by simpa [listG, ktL] using hr
  | x :: t, hx, r, K, hr, hs => by
    have h1 := listG_LK hg t (fun y hy => hx y (List.mem_cons_of_mem _ hy)) r K hr hs
    have h2 : LK (listG g t false ++ r) (ktL false t [] false ++ K) ∧ ∀ c, (listG g t false ++ r)[0]? = some c → softB c = true := by
      cases t with
      | nil => exact ⟨by simpa [listG, ktL] using hr, by simpa [listG] using hs⟩
      | cons y u =>
        have h3 := ((h1.blanks g hg).mark 44 (by decide)).blanks g hg
        have e : listG g (y :: u) false ++ r = g ++ (44 :: (g ++ (listG g (y :: u) true ++ r))) := by simp [listG]
        rw [e, ktL_false]
        exact ⟨h3, soft_app hg (soft_one (by decide))⟩
    have h4 := text_LK x (hx x List.mem_cons_self) _ _ h2.1 h2.2
    rw [listG, ktL]
    simpa using h4
/-- the whole text -/
def wholeG (g : List UInt8) (l : List JV) : List UInt8 := (g ++ 91 :: (g ++ listG g l true)) ++ (g ++ 93 :: g)
theorem fndL_all : ∀ (l : List JV), (∀ x ∈ l, x.fnd = 0) → fndL false l [] [] = 0
  | [], _ => by rw [fndL]
  | x :: t, h => by
    rw [fndL, if_neg (by simp), if_neg (by simp), if_pos (h x List.mem_cons_self), List.tail_nil, fndL_false]
    exact fndL_all t fun y hy => h y (List.mem_cons_of_mem _ hy)
theorem list_fnd {l : List JV} (h : ∀ x ∈ l, x.fnd = 0) : (JV.mk 5 [] [] l).fnd = 0 := by
  have h1 := fndL_all l h
  rw [JV.fnd, if_neg (by simp [JV.shaped]), if_neg (by simp)]
  exact h1
theorem list_kts (l : List JV) : (JV.mk 5 [] [] l).kts = (1, [91]) :: (ktL false l [] true ++ [(1, [93])]) := by rw [JV.kts]; simp
theorem wholeG_LK {g : List UInt8} (hg : ∀ b ∈ g, isBlankB b = true) {l : List JV} (hx : ∀ x ∈ l, x.fnd = 0) : LK (wholeG g l) (JV.mk 5 [] [] l).kts := by
  have h1 := (LK.blanks g hg LK.nil).mark 93 (by decide)
  rw [List.append_nil] at h1
  have h2 := listG_LK hg l hx (g ++ 93 :: g) [(1, [93])] (h1.blanks g hg) (soft_app hg (soft_one (by decide)))
  have h3 := ((h2.blanks g hg).mark 91 (by decide)).blanks g hg
  rw [list_kts]
  unfold wholeG
  simpa using h3
theorem blanks_valid {g : List UInt8} (hg : ∀ b ∈ g, isBlankB b = true) (r : List UInt8) : validD (g ++ r) = validD r := by
  refine valid_append _ _ _ (Nat.le_refl _) ?_
  exact ascii_valid _ fun b hb => blank_low b (hg b hb)
theorem listG_valid {g : List UInt8} (hg : ∀ b ∈ g, isBlankB b = true) : ∀ (l : List JV) (first : Bool), (∀ x ∈ l, x.fnd = 0) → ∀ r, validD (listG g l first ++ r) = validD r
  | [], _, _, r => by rw [listG]; rfl
  | x :: t, first, hx, r => by
    have h1 := listG_valid hg t false (fun y hy => hx y (List.mem_cons_of_mem _ hy)) r
    have h2 : validD (x.text ++ (listG g t false ++ r)) = validD r := by rw [valid_append _ _ _ (Nat.le_refl _) (text_valid x (hx x List.mem_cons_self))]; exact h1
    rw [listG]
    cases first with
    | true => simpa using h2
    | false =>
      simp only [Bool.false_eq_true, if_false, List.append_assoc, List.cons_append]
      rw [blanks_valid hg, valid_cons _ _ (by decide), blanks_valid hg]
      exact h2
theorem wholeG_valid {g : List UInt8} (hg : ∀ b ∈ g, isBlankB b = true) {l : List JV} (hx : ∀ x ∈ l, x.fnd = 0) : validD (wholeG g l) = true := by
  unfold wholeG
  simp only [List.append_assoc, List.cons_append]
  rw [blanks_valid hg, valid_cons _ _ (by decide), blanks_valid hg, listG_valid hg l true hx, blanks_valid hg, valid_cons _ _ (by decide)]
  have := blanks_valid hg []
  rw [List.append_nil] at this
  rw [this]
  rfl
/-- what such a text says -/
theorem wholeG_par {g : List UInt8} (hg : ∀ b ∈ g, isBlankB b = true) {l : List JV} (hx : ∀ x ∈ l, x.fnd = 0) : parV (wholeG g l) = if 64 < (JV.mk 5 [] [] l).dep then (jn 0, 3) else (JV.mk 5 [] [] l, 0) := by
  rw [par_K (wholeG_LK hg hx) (wholeG_valid hg hx), parK_kts _ (list_fnd hx)]
theorem listG_len (g : List UInt8) (hg : g.length ≤ 20) : ∀ (l : List JV) (first : Bool), (∀ x ∈ l, x.wt < 1500) → (listG g l first).length ≤ l.length * 14000
  | [], _, _ => by rw [listG]; simp
  | x :: t, first, h => by
    have h1 := listG_len g hg t false fun y hy => h y (List.mem_cons_of_mem _ hy)
    have h2 := text_len x
    have h3 := h x List.mem_cons_self
    rw [listG]
    cases first <;> simp <;> omega
end Go.Proofs.Jt
