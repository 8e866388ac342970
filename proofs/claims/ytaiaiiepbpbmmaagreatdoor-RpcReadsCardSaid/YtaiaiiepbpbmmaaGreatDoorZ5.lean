/- spoil: what was answered is changed; nothing else is. -/
import Derived.Test.YtaiaiiepbpbmmaaGreatDoorVF2
namespace Go.Proofs.Jt
open Go.RowKit Go.Maps Go.Lib Go.Proofs.Utf Go.Proofs

/-- keys that are strings -/
def ShK (w : World) (P : Nat → Prop) (kp : Option Addr) (kn : Nat) : Prop := kn = 0 ∨ ∃ g cs, kp = some ⟨g, 0, none⟩ ∧ P g ∧ w.heap[g]? = some (.cells cs 9 (0, 0)) ∧ ∀ i, i < kn → ∃ S, cs[i]? = some (.string S)
/-- a value's slices, down to a depth -/
def Sh (w : World) (P : Nat → Prop) : Nat → Option Addr → Nat → Option Addr → Nat → Prop
 | 0, kp, kn, _, n => ShK w P kp kn ∧ n = 0
 | m + 1, kp, kn, ip, n => ShK w P kp kn ∧ (n = 0 ∨ ∃ g cs, ip = some ⟨g, 0, none⟩ ∧ P g ∧ w.heap[g]? = some (.cells cs 25 (0, 0)) ∧ ∀ i, i < n → ∃ k S kp' kn' kc' ip' n' ic', cs[i * 4]? = some (.int .i64 k) ∧ cs[i * 4 + 1]? = some (.string S) ∧ cs[i * 4 + 2]? = some (.slice kp' kn' kc') ∧ cs[i * 4 + 3]? = some (.slice ip' n' ic') ∧ n' ≤ maxLen ∧ kn' ≤ maxLen ∧ Sh w P m kp' kn' ip' n')
theorem Sh.keys {w : World} {P : Nat → Prop} {m : Nat} {kp ip : Option Addr} {kn n : Nat} (h : Sh w P m kp kn ip n) : ShK w P kp kn := by
 cases m with
 | zero => exact h.1
 | succ m => exact h.1
theorem Sh.nil (w : World) (P : Nat → Prop) : ∀ m, Sh w P m none 0 none 0
 | 0 => ⟨.inl rfl, rfl⟩
 | _ + 1 => ⟨.inl rfl, .inl rfl⟩
/-- what spoil does -/
structure Spr (P : Nat → Prop) (w w' : World) : Prop where
 fr : FrP P w w'
 str : ∀ g cs, P g → w.heap[g]? = some (.cells cs 9 (0, 0)) → ∃ cs', w'.heap[g]? = some (.cells cs' 9 (0, 0)) ∧ ∀ (i : Nat) (S : ByteArray), cs[i]? = some (.string S) → ∃ S', cs'[i]? = some (.string S')
 val : ∀ g cs, P g → w.heap[g]? = some (.cells cs 25 (0, 0)) → ∃ cs', w'.heap[g]? = some (.cells cs' 25 (0, 0)) ∧ ∀ i : Nat, (cs'[i * 4]? = cs[i * 4]? ∧ cs'[i * 4 + 1]? = cs[i * 4 + 1]? ∧ cs'[i * 4 + 2]? = cs[i * 4 + 2]? ∧ cs'[i * 4 + 3]? = cs[i * 4 + 3]?) ∨ (cs'[i * 4]? = some (.int .i64 77) ∧ cs'[i * 4 + 1]? = some (.string ⟨#[]⟩) ∧ cs'[i * 4 + 2]? = some (.slice none 0 0) ∧ cs'[i * 4 + 3]? = some (.slice none 0 0))
theorem Spr.trans {P : Nat → Prop} {a b c : World} (h : Spr P a b) (k : Spr P b c) : Spr P a c := by
 refine ⟨h.fr.trans k.fr, fun g cs hg h1 => ?_, fun g cs hg h1 => ?_⟩
 · obtain ⟨cs', h2, h3⟩ := h.str g cs hg h1
   obtain ⟨cs'', h4, h5⟩ := k.str g cs' hg h2
   refine ⟨cs'', h4, fun i S hi => ?_⟩
   obtain ⟨S', h6⟩ := h3 i S hi
   exact h5 i S' h6
 · obtain ⟨cs', h2, h3⟩ := h.val g cs hg h1
   obtain ⟨cs'', h4, h5⟩ := k.val g cs' hg h2
   refine ⟨cs'', h4, fun i => ?_⟩
   rcases h5 i with ⟨a0, a1, a2, a3⟩ | h6
   · rcases h3 i with ⟨b0, b1, b2, b3⟩ | ⟨b0, b1, b2, b3⟩
     · exact .inl ⟨a0.trans b0, a1.trans b1, a2.trans b2, a3.trans b3⟩
     · exact .inr ⟨a0.trans b0, a1.trans b1, a2.trans b2, a3.trans b3⟩
   · exact .inr h6
theorem ShK.step {P : Nat → Prop} {w w' : World} {kp : Option Addr} {kn : Nat} (h : ShK w P kp kn) (s : Spr P w w') : ShK w' P kp kn := by
 rcases h with h | ⟨g, cs, h1, h2, h3, h4⟩
 · exact .inl h
 · obtain ⟨cs', h5, h6⟩ := s.str g cs h2 h3
   refine .inr ⟨g, cs', h1, h2, h5, fun i hi => ?_⟩
   obtain ⟨S, h7⟩ := h4 i hi
   exact h6 i S h7
theorem Sh.step {P : Nat → Prop} {w w' : World} (s : Spr P w w') : ∀ (m : Nat) (kp : Option Addr) (kn : Nat) (ip : Option Addr) (n : Nat), Sh w P m kp kn ip n → Sh w' P m kp kn ip n
 | 0, _, _, _, _, h => ⟨h.1.step s, h.2⟩
 | m + 1, kp, kn, ip, n, h => by
  refine ⟨h.1.step s, ?_⟩
  rcases h.2 with h0 | ⟨g, cs, h1, h2, h3, h4⟩
  · exact .inl h0
  · obtain ⟨cs', h5, h6⟩ := s.val g cs h2 h3
    refine .inr ⟨g, cs', h1, h2, h5, fun i hi => ?_⟩
    rcases h6 i with ⟨a0, a1, a2, a3⟩ | ⟨a0, a1, a2, a3⟩
    · obtain ⟨k, S, kp', kn', kc', ip', n', ic', b0, b1, b2, b3, b4, b5, b6⟩ := h4 i hi
      exact ⟨k, S, kp', kn', kc', ip', n', ic', a0.trans b0, a1.trans b1, a2.trans b2, a3.trans b3, b4, b5, Sh.step s m kp' kn' ip' n' b6⟩
    · exact ⟨77, _, none, 0, 0, none, 0, 0, a0, a1, a2, a3, Nat.zero_le _, Nat.zero_le _, Sh.nil w' P m⟩
end Go.Proofs.Jt
