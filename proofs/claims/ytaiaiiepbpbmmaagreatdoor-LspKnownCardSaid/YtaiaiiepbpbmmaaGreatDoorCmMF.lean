/- lsp.Note at any text. Printed by gen_mf.py. -/
import Derived.Test.YtaiaiiepbpbmmaaGreatDoorCmKB
import Derived.Test.YtaiaiiepbpbmmaaGreatDoorCmMD
import Derived.Test.YtaiaiiepbpbmmaaGreatDoorCmME
namespace Go.Proofs.Ls
open Go.RowKit Go.Maps Go.Lib Go.Proofs.Utf Go.Proofs.Jt Go.Proofs

def zeroOp : OpV := ⟨0, [], [], 0, [], []⟩
/-- a value that is what a notification says -/
def OpP (w : World) (t : TypeId) (B : Nat) (v : Value) (o : OpV) : Prop := ∃ p c, v = .agg #[.int .i64 o.k, .string ⟨o.uri.toArray⟩, .string ⟨o.text.toArray⟩, .int .i64 o.ver, .slice p o.ch.length c, .string ⟨o.id.toArray⟩] ∧ w.ownsRow B t 6 (.slice p o.ch.length c) o.ch.length (chC o.ch)
theorem OpP.flat {w : World} {t : TypeId} {B : Nat} {v : Value} {o : OpV} (hc : o.ch = []) (hv : v = .agg #[.int .i64 o.k, .string ⟨o.uri.toArray⟩, .string ⟨o.text.toArray⟩, .int .i64 o.ver, .slice none 0 0, .string ⟨o.id.toArray⟩]) : OpP w t B v o := ⟨none, 0, by rw [hv, hc]; rfl, by rw [hc]; exact World.ownsRow_nil _ _ _ _⟩
theorem OpP.below {w w' : World} {t : TypeId} {B : Nat} {v : Value} {o : OpV} (h : OpP w t B v o) (hb : Below w.heap.size w w') : OpP w' t B v o := by
  obtain ⟨p, c, h1, h2⟩ := h
  exact ⟨p, c, h1, own_below h2 hb⟩
theorem meth_ne {m : List UInt8} {M : ByteArray} (hM : (⟨m.toArray⟩ : ByteArray) = M) {k : List UInt8} (h : ¬ m = k) : (M.toList == k) = false := by
  rw [← hM]
  exact beq_eq_false_iff_ne.2 (fun e => h (by simpa using e))
theorem note_any {w : World} (hE : ∀ V, Below w.heap.size w V → Env V) {x : JV} {S : ByteArray} {kp ip : Option Addr} {kc ic : Nat} (h : KI w x kp kc ip ic) (hwt : x.wt ≤ 1000000) (hS : (⟨x.str.toArray⟩ : ByteArray) = S) (m : List UInt8) (M : ByteArray) (hM : (⟨m.toArray⟩ : ByteArray) = M) (o : OpV) (bad : Bool) (hn : noteR m x = (o, bad)) :
    Calls Tryz.prog 17 #[.string M, .agg #[.int .i64 x.kind, .string S, .slice kp x.keys.length kc, .slice ip x.items.length ic]] w fun e w' => ∃ v, e = .returned (.tuple #[v, .bool (!bad)]) ∧ OpP w' 117 w.heap.size v (if bad = true then zeroOp else o) ∧ Below w.heap.size w w' := by
  by_cases m1 : m = mOpen
  · subst m1
    obtain rfl : (⟨#[116, 101, 120, 116, 68, 111, 99, 117, 109, 101, 110, 116, 47, 100, 105, 100, 79, 112, 101, 110]⟩ : ByteArray) = M := hM
    unfold noteR at hn
    rw [if_pos rfl] at hn
    simp only [Prod.mk.injEq] at hn
    obtain ⟨rfl, hb⟩ := hn
    refine (note_open hE h hwt hS _ _ rfl _ _ rfl _ rfl _ _ rfl _ rfl _ bad (Prod.ext rfl hb)).mono ?_
    rintro e w' ⟨rfl, hw⟩
    refine ⟨_, rfl, ?_, hw⟩
    cases bad
    · exact OpP.flat rfl rfl
    · exact OpP.flat rfl rfl
  by_cases m2 : m = mChange
  · subst m2
    obtain rfl : (⟨#[116, 101, 120, 116, 68, 111, 99, 117, 109, 101, 110, 116, 47, 100, 105, 100, 67, 104, 97, 110, 103, 101]⟩ : ByteArray) = M := hM
    unfold noteR at hn
    rw [if_neg (by decide), if_pos rfl] at hn
    simp only [Prod.mk.injEq] at hn
    obtain ⟨rfl, hb⟩ := hn
    refine (note_change hE h hwt hS _ _ rfl _ _ rfl _ rfl _ _ rfl _ _ rfl _ bad (Prod.ext rfl hb)).mono ?_
    rintro e w' ⟨p, c, rfl, hr, hw⟩
    refine ⟨_, rfl, ?_, hw⟩
    cases bad
    · exact ⟨p, c, rfl, hr⟩
    · exact OpP.flat rfl rfl
  by_cases m3 : m = mClose
  · subst m3
    obtain rfl : (⟨#[116, 101, 120, 116, 68, 111, 99, 117, 109, 101, 110, 116, 47, 100, 105, 100, 67, 108, 111, 115, 101]⟩ : ByteArray) = M := hM
    unfold noteR at hn
    rw [if_neg (by decide), if_neg (by decide), if_pos rfl] at hn
    simp only [Prod.mk.injEq] at hn
    obtain ⟨rfl, hb⟩ := hn
    refine (note_close h hwt hS _ _ rfl _ bad (Prod.ext rfl hb) _ rfl).mono ?_
    rintro e w' ⟨rfl, hw⟩
    refine ⟨_, rfl, ?_, hw⟩
    cases bad
    · exact OpP.flat rfl rfl
    · exact OpP.flat rfl rfl
  by_cases m4 : m = mCancel
  · subst m4
    obtain rfl : (⟨#[36, 47, 99, 97, 110, 99, 101, 108, 82, 101, 113, 117, 101, 115, 116]⟩ : ByteArray) = M := hM
    unfold noteR at hn
    rw [if_neg (by decide), if_neg (by decide), if_neg (by decide), if_pos rfl] at hn
    simp only [Prod.mk.injEq] at hn
    obtain ⟨rfl, hb⟩ := hn
    refine (note_cancel hE h hwt hS _ bad (Prod.ext rfl hb) _ rfl).mono ?_
    rintro e w' ⟨rfl, hw⟩
    refine ⟨_, rfl, ?_, hw⟩
    cases bad
    · exact OpP.flat rfl rfl
    · exact OpP.flat rfl rfl
  unfold noteR at hn
  rw [if_neg m1, if_neg m2, if_neg m3, if_neg m4] at hn
  simp only [Prod.mk.injEq] at hn
  obtain ⟨rfl, rfl⟩ := hn
  refine (note_other M (meth_ne hM m1) (meth_ne hM m2) (meth_ne hM m3) (meth_ne hM m4)).mono ?_
  rintro e w' ⟨rfl, hw⟩
  exact ⟨_, rfl, OpP.flat rfl rfl, hw⟩
end Go.Proofs.Ls
