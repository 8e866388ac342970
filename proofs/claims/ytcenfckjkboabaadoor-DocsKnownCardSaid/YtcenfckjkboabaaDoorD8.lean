/- docs.Change. -/
import Derived.Test.YtcenfckjkboabaaDoorD7
namespace Go.Proofs.Dc
open Go.RowKit Go.Proofs Go.Lib Go.Maps

def textB (d : Doc) : ByteArray := ⟨d.text.toArray⟩
/-- what Change answers -/
def chgE (L : List Doc) (u : List UInt8) (v : Int) (cs : List Chg) : Int :=
  match getD? L u with
  | none => 5
  | some d => if v ≤ d.ver then 18 else (afterV (textB d) cs).2
def chgL (L : List Doc) (u : List UInt8) (v : Int) (cs : List Chg) : List Doc :=
  match getD? L u with
  | none => L
  | some d => if v ≤ d.ver then L else if (afterV (textB d) cs).2 = 0 then putD ⟨u, (afterV (textB d) cs).1.data.toList, v⟩ L else L
set_option maxRecDepth 100000 in
set_option maxHeartbeats 4000000 in
theorem change_any (w : World) (hT : Tabs w) (b M : Nat) (L : List Doc) (h : DV w b M L) (_hM : 5 < M) (u : ByteArray) (v : Int) (p : Option Addr) (n c : Nat) (cs : List Chg) (hu : u.size ≤ 1000000) (hn : n = cs.length) (hn2 : n ≤ maxLen) (hI : ChgsAt w p cs) (hL : L.length ≤ 1000000) (hS : ∀ d ∈ L, d.text.length ≤ 65536) (hXs : ∀ x ∈ cs, x.text.size ≤ 1000000) :
    Calls Tryd.prog 15 #[.pointer (some ⟨b, 0, none⟩), .string u, .int .i64 v, .slice p n c] w fun e w' => e = .returned (.int .i64 (chgE L u.data.toList v cs)) ∧ DV w' b M (chgL L u.data.toList v cs) ∧ w.grownBy w' (some M) := by
  have hi := is_any w b M L h
  have hlook := h.look u (by unfold maxLen; omega)
  have hput := fun w t (h : DV w b M L) => h.put u t v (by unfold maxLen; omega) (by unfold maxLen; omega)
  have hcell := h.cell
  have H := Lib.hid h
  have hlt := h.lt
  have HI := Lib.hid hI
  clear h hI
  cases hg : getD? L u.data.toList with
  | none =>
    have e1 : chgE L u.data.toList v cs = 5 := by unfold chgE; rw [hg]
    have e2 : chgL L u.data.toList v cs = L := by unfold chgL; rw [hg]
    rw [e1, e2]
    rw [hg] at hlook
    have hl : (Instr.lookup 57 (.map (some M)) (.string u) true).run Tryd.prog w = .ok (.tuple #[.agg #[.string ⟨#[]⟩, .string ⟨#[]⟩, .int .i64 0], .bool false]) w := hlook
    have HF : Hid (DV (w.alloc (.cells #[.string ⟨#[]⟩, .string ⟨#[]⟩, .int .i64 0] 38)) b M L) := Lib.hid (H.out.below ((Below.refl w.heap.size w).alloc (Nat.le_refl _) _))
    clear hlook e1 e2 hg hn
    go_enter Tryd.func15, Tryd.ntmps15
    go_wp2_with (first
      | (go_at_call 34; refine hi.mono ?_; rintro e w1 ⟨rfl, hw⟩; subst w1))
    go_ret
    exact ⟨rfl, HF.out, gb_below ((Below.refl _ w).alloc (Nat.le_refl _) _)⟩
  | some d =>
    have hdm := get_mem hg
    have hds := hS d hdm.1
    have hx : (Instr.lookup 57 (.map (some M)) (.string u) true).run Tryd.prog w = .ok (.tuple #[.agg #[.string ⟨d.uri.toArray⟩, .string (textB d), .int .i64 d.ver], .bool true]) w := by rw [hg] at hlook; exact hlook
    obtain ⟨U, hU⟩ : ∃ U : ByteArray, (⟨d.uri.toArray⟩ : ByteArray) = U := ⟨_, rfl⟩
    obtain ⟨T, hTx⟩ : ∃ T : ByteArray, textB d = T := ⟨_, rfl⟩
    have hTs : T.size ≤ 65536 := by rw [← hTx]; unfold textB; rw [size_mk]; exact hds
    obtain ⟨E, hE⟩ : ∃ E, chgE L u.data.toList v cs = E := ⟨_, rfl⟩
    obtain ⟨LL, hLL⟩ : ∃ l, chgL L u.data.toList v cs = l := ⟨_, rfl⟩
    rw [hE, hLL]
    unfold chgE at hE
    unfold chgL at hLL
    rw [hg] at hE hLL
    simp only [hTx] at hE hLL
    rw [hU, hTx] at hx
    obtain ⟨V, hV⟩ : ∃ V, d.ver = V := ⟨_, rfl⟩
    rw [hV] at hE hLL hx
    have bA : Below w.heap.size w (w.alloc (.cells #[.string U, .string T, .int .i64 V] 38)) := (Below.refl _ _).alloc (Nat.le_refl _) _
    have H2 : Hid (DV (w.alloc (.cells #[.string U, .string T, .int .i64 V] 38)) b M L) := Lib.hid (H.out.below bA)
    have haf := after_any (w.alloc (.cells #[.string U, .string T, .int .i64 V] 38)) (hT.below bA) T (by omega) p n c cs hn hn2 (HI.out.below bA) hXs
    clear hg hlook hdm hds hU hTx hV hn
    have HE := Lib.hid hE
    have HLL := Lib.hid hLL
    clear hE hLL
    by_cases hv : v ≤ V
    · have he : E = 18 := by rw [← HE.out, if_pos hv]
      have hl : LL = L := by rw [← HLL.out, if_pos hv]
      subst he hl
      clear HE HLL haf
      go_enter Tryd.func15, Tryd.ntmps15
      go_wp2_with (first
        | (go_at_call 34; refine hi.mono ?_; rintro e w1 ⟨rfl, hw⟩; subst w1))
      go_ret
      exact ⟨rfl, H2.out, gb_below bA⟩
    · have he : E = (afterV T cs).2 := by rw [← HE.out, if_neg hv]
      have hl : LL = if (afterV T cs).2 = 0 then putD ⟨u.data.toList, (afterV T cs).1.data.toList, v⟩ L else L := by rw [← HLL.out, if_neg hv]
      obtain ⟨R1, hR1⟩ : ∃ R, (afterV T cs).1 = R := ⟨_, rfl⟩
      obtain ⟨R2, hR2⟩ : ∃ R, (afterV T cs).2 = R := ⟨_, rfl⟩
      rw [hR1, hR2] at haf
      rw [hR1, hR2] at hl
      rw [hR2] at he
      clear HE HLL hR1 hR2
      subst he
      have hput2 := fun w h => hput w R1 h
      clear hput
      by_cases h0 : E = 0
      · rw [if_pos h0] at hl
        subst h0 hl
        go_enter Tryd.func15, Tryd.ntmps15
        go_wp2_with (first
          | (go_at_call 34; refine hi.mono ?_; rintro e w1 ⟨rfl, hw⟩; subst w1)
          | (go_at_call 36; refine haf.mono ?_; rintro e w2 ⟨rfl, hb2⟩
             have h3 := H2.out.below hb2
             have c3 := h3.cell
             have b3 := bA.trans (hb2.mono bA.size)
             obtain ⟨w4, hrun4, hd4, hg4⟩ := hput2 _ h3
             have HD4 := Lib.hid hd4
             have HG4 := Lib.hid hg4
             clear hd4 hg4 h3))
        go_ret
        exact ⟨rfl, HD4.out, (gb_below b3).trans HG4.out⟩
      · rw [if_neg h0] at hl
        subst hl
        have u0 : (E == 0) = false := by simpa using h0
        clear h0
        go_enter Tryd.func15, Tryd.ntmps15
        go_wp2_with (first
          | (go_at_call 34; refine hi.mono ?_; rintro e w1 ⟨rfl, hw⟩; subst w1)
          | (go_at_call 36; refine haf.mono ?_; rintro e w2 ⟨rfl, hb2⟩
             have b3 := bA.trans (hb2.mono bA.size)
             have H3 := Lib.hid (H2.out.below hb2)))
        go_ret
        exact ⟨rfl, H3.out, gb_below b3⟩
end Go.Proofs.Dc
