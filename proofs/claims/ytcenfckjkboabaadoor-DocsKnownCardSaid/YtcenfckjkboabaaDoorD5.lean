/- Open documents in memory; New, is, Valid, may, Get. -/
import Derived.Test.YtcenfckjkboabaaDoorD1
import Derived.Maps.OwnSet
import Derived.Maps.Own
import Derived.Shelf.SlMaps.Clone
import Derived.StringKeys
namespace Go.Proofs.Dc
open Go.RowKit Go.Proofs Go.Lib Go.Maps

theorem law9 : Keyed Tryd.prog 9 := string_keyed Tryd.underlying9
theorem zero38 (w : World) : (zeroValue 38).run Tryd.prog w = .ok (.agg #[.string ⟨#[]⟩, .string ⟨#[]⟩, .int .i64 0]) w := by kernel_rfl
def doc0 : Doc := ⟨[], [], 0⟩
theorem docEl0 : docEl (.agg #[.string ⟨#[]⟩, .string ⟨#[]⟩, .int .i64 0]) = some (docD doc0, []) := rfl
theorem own_tight {w : World} {M n : Nat} {L : List Doc} (h : w.ownsMap Tryd.prog 9 docEl M n (DD L)) : w.ownsMap Tryd.prog 9 docEl M L.length (DD L) := by
  obtain ⟨es, clock, h1, h2, _, h4⟩ := h
  refine ⟨es, clock, h1, h2, ?_, h4⟩
  have := congrArg Maps.size h4
  rw [DD_size] at this
  rw [this]
  simp [Maps.size, length_sorted]
/-- documents in memory -/
structure DV (w : World) (b M : Nat) (L : List Doc) : Prop where
  hd : w.heap[b]? = some (.cells #[.map (some M)] 59 (0, 0))
  mp : w.ownsMap Tryd.prog 9 docEl M L.length (DD L)
theorem DV.kept {w w' : World} {b M : Nat} {L : List Doc} (h : DV w b M L) {row : Option Nat} (hg : w.grownBy w' row) (h1 : some b ≠ row) (h2 : some M ≠ row) : DV w' b M L :=
  ⟨(hg.block b (Array.getElem?_eq_some_iff.1 h.hd).1 h1).trans h.hd, h.mp.kept hg h2⟩
theorem DV.below {w w' : World} {b M : Nat} {L : List Doc} (h : DV w b M L) (hb : Below w.heap.size w w') : DV w' b M L := h.kept (row := none) (gb_below hb) (by simp) (by simp)
theorem DV.lt {w : World} {b M : Nat} {L : List Doc} (h : DV w b M L) : b < w.heap.size ∧ M < w.heap.size := ⟨(Array.getElem?_eq_some_iff.1 h.hd).1, h.mp.lt⟩
theorem DV.ne {w : World} {b M : Nat} {L : List Doc} (h : DV w b M L) : b ≠ M := by
  rintro rfl
  obtain ⟨es, clock, h1, _⟩ := h.mp
  have := h.hd.symm.trans h1
  cases this
theorem DV.cell {w : World} {b M : Nat} {L : List Doc} (h : DV w b M L) : w.cell? ⟨b, 0, none⟩ = some (.map (some M)) := by
  have := h.hd
  simp [World.cell?, this]
theorem bytes_eta (x : ByteArray) : (⟨x.data.toList.toArray⟩ : ByteArray) = x := rfl
/-- what a lookup with ok gives -/
theorem DV.look {w : World} {b M : Nat} {L : List Doc} (h : DV w b M L) (u : ByteArray) (hu : u.size ≤ maxLen) :
    (Instr.lookup 57 (.map (some M)) (.string u) true).run Tryd.prog w = .ok (.tuple #[docVal ((getD? L u.data.toList).getD doc0), .bool (getD? L u.data.toList).isSome]) w := by
  obtain ⟨v, ps, hrun, hv⟩ := h.mp.look_ok law9 Tryd.underlying57 (zero38 w) docEl0 (Go.WideMaps.keyOf_string_mk Tryd.underlying9 hu)
  rw [DD_has] at hrun
  rw [DD_at] at hv
  have hv2 : docEl v = some (docD ((getD? L u.data.toList).getD doc0), ps) := by
    rw [hv]
    cases getD? L u.data.toList <;> rfl
  rw [docEl_inv hv2] at hrun
  exact hrun
theorem DV.put {w : World} {b M : Nat} {L : List Doc} (h : DV w b M L) (u t : ByteArray) (v : Int) (hu : u.size ≤ maxLen) (hL : L.length < maxLen) :
    ∃ w', (Instr.mapUpdate 57 (.map (some M)) (.string u) (.agg #[.string u, .string t, .int .i64 v])).run Tryd.prog w = .ok () w' ∧ DV w' b M (putD ⟨u.data.toList, t.data.toList, v⟩ L) ∧ w.grownBy w' (some M) := by
  obtain ⟨w', hrun, hown, hg⟩ := h.mp.update law9 Tryd.underlying57 hL (Go.WideMaps.keyOf_string_mk Tryd.underlying9 hu) (docEl_mk u t v)
  refine ⟨w', hrun, ⟨(hg.block b h.lt.1 (by intro e; exact h.ne (Option.some.inj e))).trans h.hd, ?_⟩, hg⟩
  have := DD_put L ⟨u.data.toList, t.data.toList, v⟩
  rw [this] at hown
  exact own_tight hown
theorem DV.size {w : World} {b M : Nat} {L : List Doc} (h : DV w b M L) (ty : TypeId) : (Builtin.len_ #[57] ty #[.map (some M)]).run Tryd.prog w = .ok (.int .i64 (L.length : Nat)) w := by
  have := h.mp.len Tryd.underlying57 ty
  rw [DD_size] at this
  exact this
theorem run_neq_map (p : Option Nat) (w : World) : (binOp .neq 57 (.map p) (.map none)).run Tryd.prog w = .ok (.bool (!p.isNone)) w := by
  simp only [binOp]
  simp [show Op.equal 57 (.map p) (.map none) = Op.equalIn (9999 + 1) 57 (.map p) (.map none) from rfl, run_equalIn_map_nil_sl w 9999 57 9 38 p Tryd.underlying57]
set_option maxRecDepth 100000 in
theorem is_any (w : World) (b M : Nat) (L : List Doc) (h : DV w b M L) : Calls Tryd.prog 34 #[.pointer (some ⟨b, 0, none⟩)] w fun e w' => e = .returned (.bool true) ∧ w = w' := by
  have c := h.cell
  have hr := run_neq_map (some M)
  clear h
  go_enter Tryd.func34, Tryd.ntmps34
  go_wp2
  go_ret
  exact ⟨rfl, rfl⟩
end Go.Proofs.Dc
