/- Messages among the arguments. -/
import Derived.Test.YtaiaiiepbpbmmaaGreatDoorP1
import Derived.Test.YtaiaiiepbpbmmaaGreatDoorA1
namespace Go.Proofs.Rp
open Go.RowKit Go.Maps Go.Proofs Go.Lib Go.ChangeShapes Go.WideShapes Go.Deep Go.Proofs.Utf Go.Proofs.Jt

theorem cn2 : Tryz.prog.cellsOf 2 = 1 := by kernel_rfl
theorem cn57 : Tryz.prog.cellsOf 57 = 3 := by kernel_rfl
theorem cn59 : Tryz.prog.cellsOf 59 = 9 := by kernel_rfl
section
variable {H : Type} {enc : TypeId × Value → H} {w : World} {base : Nat} {spare : Nat → Bool} {held : Bool}
set_option maxRecDepth 100000 in
theorem id_trod {fuel : Nat} {cs : List Value} {x : DataW H × List MemPlace} (h : DataW.trod enc Tryz.prog w base spare held fuel 57 cs = some x) :
 ∃ (i : IdV) (I : ByteArray), cs = [.int .i64 i.k, .int .i64 i.n, .string I] ∧ (⟨i.s.toArray⟩ : ByteArray) = I ∧ -9223372036854775808 ≤ i.n ∧ i.n ≤ 9223372036854775807 := by
 obtain ⟨xs, m, _, _, hlen, hl, hfd⟩ := DataW.trod_struct Tryz.underlying57 h
 rw [cn57] at hlen
 match xs, hl with
 | [y0, y1, y2], _ =>
  have h0 := hfd 0 _ rfl
  have h1 := hfd 1 _ rfl
  have h2 := hfd 2 _ rfl
  simp [cn3] at h0
  simp [cn2] at h1
  simp [cn9] at h2
  match cs, hlen with
  | [u0, u1, u2], _ =>
   simp at h0 h1 h2
   obtain ⟨k, e0, _⟩ := DataW.trod_int (k := .i64) Tryz.underlying3 h0
   obtain ⟨n, e1, wn⟩ := DataW.trod_int (k := .i64) Tryz.underlying2 h1
   obtain ⟨t, e2, _, _⟩ := DataW.trod_string Tryz.underlying9 h2
   simp at e0 e1 e2
   subst e0 e1 e2
   have wb : -9223372036854775808 ≤ n ∧ n ≤ 9223372036854775807 := by simpa [Lit.wf, IntKind.min, IntKind.max, IntKind.signed, IntKind.bits] using wn.2
   exact ⟨⟨k, n, t.data.toList⟩, t, rfl, arr_back t, wb.1, wb.2⟩
end
/-- a message among the arguments -/
def MArg (w : World) (v : Value) (k : Int) (i : IdV) (ms : List UInt8) (p : JV) : Prop := ∃ (I M P : ByteArray) (kp : Option Addr) (kc : Nat) (ip : Option Addr) (ic : Nat), v = .agg #[.int .i64 k, .int .i64 i.k, .int .i64 i.n, .string I, .string M, .int .i64 p.kind, .string P, .slice kp p.keys.length kc, .slice ip p.items.length ic] ∧ (⟨i.s.toArray⟩ : ByteArray) = I ∧ (⟨ms.toArray⟩ : ByteArray) = M ∧ (⟨p.str.toArray⟩ : ByteArray) = P ∧ -9223372036854775808 ≤ i.n ∧ i.n ≤ 9223372036854775807 ∧ p.str.length ≤ maxLen ∧ KI w p kp kc ip ic
section
variable {H : Type} {enc : TypeId × Value → H} {w : World} {base : Nat}
set_option maxRecDepth 100000 in
theorem msg_arg {v : Value} {d : DataW H} {ps : List MemPlace} (hv : Value.okWide Tryz.prog w .any base 59 v) (h : DataW.Trod enc Tryz.prog w 0 (fun _ => true) true 59 v d ps) : ∃ k i ms p, MArg w v k i ms p := by
 obtain ⟨cs, rfl, _⟩ := okWide_struct Tryz.underlying59 hv
 obtain ⟨fuel, hf⟩ := h
 obtain ⟨xs, m, _, _, hlen, hl, hfd⟩ := DataW.trod_struct Tryz.underlying59 hf
 rw [cn59] at hlen
 match xs, hl with
 | [y0, y1, y2, y3], _ =>
  have h0 := hfd 0 _ rfl
  have h1 := hfd 1 _ rfl
  have h2 := hfd 2 _ rfl
  have h3 := hfd 3 _ rfl
  simp [cn3] at h0
  simp [cn57] at h1
  simp [cn9] at h2
  simp [cn45] at h3
  simp only [Value.cells] at hlen h0 h1 h2 h3
  obtain ⟨L, hL⟩ : ∃ L, cs.toList = L := ⟨_, rfl⟩
  rw [hL] at hlen h0 h1 h2 h3
  match L, hlen with
  | [u0, u1, u2, u3, u4, u5, u6, u7, u8], _ =>
   simp at h0 h1 h2 h3
   obtain ⟨k, e0, _⟩ := DataW.trod_int (k := .i64) Tryz.underlying3 h0
   obtain ⟨i, I, e1, hI, hi0, hi1⟩ := id_trod h1
   obtain ⟨t, e2, _, _⟩ := DataW.trod_string Tryz.underlying9 h2
   obtain ⟨c, e3, hk, hs⟩ := jv_trod _ _ _ h3
   unfold IC.cells at e3
   simp only [List.cons.injEq, and_true] at e0 e1 e2 e3
   obtain rfl := e0
   obtain ⟨rfl, rfl, rfl⟩ := e1
   obtain rfl := e2
   obtain ⟨rfl, rfl, rfl, rfl⟩ := e3
   obtain rfl : cs = #[_, _, _, _, _, _, _, _, _] := Array.toList_inj.1 hL
   exact ⟨k, i, t.data.toList, c.y, I, t, _, c.kp, c.kc, c.ip, c.ic, rfl, hI, arr_back t, rfl, hi0, hi1, hs, hk⟩
end
end Go.Proofs.Rp
