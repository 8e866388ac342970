/- Values of JSON among the arguments. -/
import Derived.Test.YtaiaiiepbpbmmaaGreatDoorVZ
import Derived.Deep.Slices
import Derived.SliceStrings
import Derived.Deep.Fields
import Derived.ChangeSame
import Derived.OpenShut
import Derived.SizedLaws
import Derived.Carry
import Derived.Deep.DeepWitnessRowRef
namespace Go.Proofs.Jt
open Go.RowKit Go.Maps Go.Proofs Go.Lib Go.ChangeShapes Go.WideShapes Go.Deep

theorem laid_out : laidOutB Tryz.prog = true := by kernel_rfl
theorem cn3 : Tryz.prog.cellsOf 3 = 1 := by kernel_rfl
theorem cn9 : Tryz.prog.cellsOf 9 = 1 := by kernel_rfl
theorem cn41 : Tryz.prog.cellsOf 22 = 1 := by kernel_rfl
theorem cn43 : Tryz.prog.cellsOf 23 = 1 := by kernel_rfl
theorem cn45 : Tryz.prog.cellsOf 25 = 4 := by kernel_rfl
theorem add_at (a : Addr) (i j : Nat) (hj : 0 < j) : a.add (i + j) = ⟨(a.add i).block, (a.add i).off + j, none⟩ := by
 unfold Addr.add
 rw [if_neg (by omega)]
 split
 · rename_i h
   subst h
   simp
 · simp; omega
theorem list_of {α : Type} (n : Nat) (p : Nat → α → Prop) (h : ∀ i, i < n → ∃ y, p i y) : ∃ l : List α, l.length = n ∧ ∀ i y, l[i]? = some y → p i y := by
 induction n with
 | zero => exact ⟨[], rfl, fun i y h => by simp at h⟩
 | succ n ih =>
  obtain ⟨l, hl, hp⟩ := ih fun i hi => h i (by omega)
  obtain ⟨y, hy⟩ := h n (by omega)
  refine ⟨l ++ [y], by simp [hl], fun i z hz => ?_⟩
  by_cases hi : i < n
  · rw [List.getElem?_append_left (by omega)] at hz
    exact hp i z hz
  · have hi2 : i = n := by
     have := (List.getElem?_eq_some_iff.1 hz).1
     simp [hl] at this
     omega
    subst hi2
    rw [List.getElem?_append_right (by omega), hl, Nat.sub_self] at hz
    obtain rfl := Option.some.inj hz
    exact hy
theorem arr_back (t : ByteArray) : (⟨t.data.toList.toArray⟩ : ByteArray) = t := by cases t; rfl
section
variable {H : Type} {enc : TypeId × Value → H} {w : World} {base : Nat} {spare : Nat → Bool} {held : Bool}
set_option maxRecDepth 100000 in
theorem strs_trod {fuel : Nat} {cs : List Value} {x : DataW H × List MemPlace} (h : DataW.trod enc Tryz.prog w base spare held fuel 22 cs = some x) :
 ∃ (p : Option Addr) (c : Nat) (l : List (List UInt8)), cs = [.slice p l.length c] ∧ l.length ≤ maxLen ∧ (∀ s ∈ l, s.length ≤ maxLen) ∧ StrsP w p l := by
 rcases open_slice Tryz.underlying22 h with ⟨hcs, _⟩ | ⟨a, len, cap, m, n, D, Pl, hcs, _, hl, hm, hz, _, hcell⟩
 · exact ⟨none, 0, [], hcs, Nat.zero_le _, fun s hs => (by cases hs), fun i s hs => (by cases hs)⟩
 · have hlm : len ≤ m := by rw [hz]; split <;> omega
   obtain ⟨l, hll, hp⟩ := list_of len (fun i (s : List UInt8) => s.length ≤ maxLen ∧ w.cell? (a.add i) = some (.string ⟨s.toArray⟩)) fun i hi => by
    obtain ⟨cs', hc, ht⟩ := hcell i (by omega)
    rw [cn9, Nat.mul_one] at hc
    obtain ⟨t, e5, _, hs⟩ := DataW.trod_string Tryz.underlying9 ht
    subst e5
    refine ⟨t.data.toList, by rw [Array.length_toList]; exact hs, ?_⟩
    rw [arr_back]
    exact cell_of_cells?_one hc
   refine ⟨some a, cap, l, by rw [hll]; exact hcs, by omega, fun s hs => ?_, fun i s hs => ⟨a, rfl, (hp i s hs).2, ?_⟩⟩
   · obtain ⟨i, hi⟩ := List.getElem?_of_mem hs
     exact (hp i s hi).1
   · have := World.block_lt_of_cell? w _ (hp i s hs).2
     rwa [add_blk] at this
end
/-- a list of values: items as they lie in a row -/
def JRow (w : World) (p : Option Addr) (L : List IC) : Prop := ∀ (i : Nat) (c : IC), L[i]? = some c → (∃ a, p = some a ∧ JC w (a.add (i * 4)) c.y c.kp c.kc c.ip c.ic) ∧ KI w c.y c.kp c.kc c.ip c.ic ∧ c.y.str.length ≤ maxLen
theorem JRow.below {w w' : World} {p : Option Addr} {L : List IC} (h : JRow w p L) (hb : Below w.heap.size w w') : JRow w' p L := fun i c hc => by
 obtain ⟨⟨a, h1, h2⟩, h3, h4⟩ := h i c hc
 exact ⟨⟨a, h1, h2.below hb⟩, h3.stay hb, h4⟩
/-- a value of such rows -/
theorem KI.rows {w : World} {k : Int} {s : List UInt8} {ks : List (List UInt8)} {L : List IC} {kp ip : Option Addr} {kc ic : Nat} (hk : StrsP w kp ks) (hz : L.length ≤ maxLen ∧ ks.length ≤ maxLen ∧ ∀ s ∈ ks, s.length ≤ maxLen) (hi : JRow w ip L) : KI w (.mk k s ks (L.map (·.y))) kp kc ip ic := by
 have d0 : IC := ⟨jn 0, none, 0, none, 0⟩
 have hget : ∀ (i : Nat) (y : JV), (L.map (·.y))[i]? = some y → ∃ c, L[i]? = some c ∧ c.y = y := fun i y h => by
  rw [List.getElem?_map] at h
  cases hl : L[i]? with
  | none => rw [hl] at h; cases h
  | some c => rw [hl] at h; exact ⟨c, rfl, Option.some.inj h⟩
 refine .mk _ kp kc ip ic (fun i => (L.getD i d0).kp) (fun i => (L.getD i d0).kc) (fun i => (L.getD i d0).ip) (fun i => (L.getD i d0).ic) hk ⟨by show (L.map (·.y)).length ≤ _; rw [List.length_map]; exact hz.1, hz.2⟩ (fun i y h => ?_) (fun i y h => ?_)
 · obtain ⟨c, hc1, rfl⟩ := hget i y h
   have hd : L.getD i d0 = c := by rw [List.getD_eq_getElem?_getD, hc1]; rfl
   obtain ⟨⟨a, q1, q2⟩, _, q3⟩ := hi i c hc1
   simp only [hd]
   exact ⟨q3, a, q1, q2⟩
 · obtain ⟨c, hc1, rfl⟩ := hget i y h
   have hd : L.getD i d0 = c := by rw [List.getD_eq_getElem?_getD, hc1]; rfl
   simp only [hd]
   exact (hi i c hc1).2.1
section
variable {H : Type} {enc : TypeId × Value → H} {w : World} {base : Nat} {spare : Nat → Bool} {held : Bool}
theorem ic_at {a : Addr} {i : Nat} {c : IC} (q1 : w.cells? base (a.add (i * 4)) 4 = some c.cells) : JC w (a.add (i * 4)) c.y c.kp c.kc c.ip c.ic := by
 obtain ⟨_, _, hat⟩ := World.cells?_some q1
 have g0 : w.cell? (a.add (i * 4)) = some (.int .i64 c.y.kind) := by
  have := hat 0 (by omega)
  rw [show (a.add (i * 4)).add 0 = a.add (i * 4) by simp [Addr.add]] at this
  exact this
 have hx : ∀ (j : Nat) (v : Value), 0 < j → j < 4 → c.cells[j]? = some v → w.cell? ⟨(a.add (i * 4)).block, (a.add (i * 4)).off + j, none⟩ = some v := fun j v hj0 hj hv => by
  rw [← add_at a (i * 4) j hj0, ← Go.Deep.add_add, hat j hj]
  exact hv
 exact ⟨g0, hx 1 _ (by omega) (by omega) rfl, hx 2 _ (by omega) (by omega) rfl, hx 3 _ (by omega) (by omega) rfl, World.block_lt_of_cell? w _ g0⟩
set_option maxRecDepth 100000 in
theorem jv_trod : ∀ (fuel : Nat) (cs : List Value) (x : DataW H × List MemPlace), DataW.trod enc Tryz.prog w base spare held fuel 25 cs = some x → ∃ c : IC, cs = c.cells ∧ KI w c.y c.kp c.kc c.ip c.ic ∧ c.y.str.length ≤ maxLen := by
 intro fuel
 induction fuel using Nat.strongRecOn with
 | ind fuel ih =>
  intro cs x h
  obtain ⟨xs, m, hfu, _, hlen, hl, hfd⟩ := DataW.trod_struct Tryz.underlying25 h
  rw [cn45] at hlen
  match xs, hl with
  | [y0, y1, y2, y3], _ =>
   have h0 := hfd 0 _ rfl
   have h1 := hfd 1 _ rfl
   have h2 := hfd 2 _ rfl
   have h3 := hfd 3 _ rfl
   simp [cn3] at h0
   simp [cn9] at h1
   simp [cn41] at h2
   simp [cn43] at h3
   match cs, hlen with
   | [u0, u1, u2, u3], _ =>
    simp at h0 h1 h2 h3
    obtain ⟨k, e0, _⟩ := DataW.trod_int (k := .i64) Tryz.underlying3 h0
    obtain ⟨t, e1, _, hs⟩ := DataW.trod_string Tryz.underlying9 h1
    obtain ⟨kp, kc, ks, e2, hk1, hk2, hk3⟩ := strs_trod h2
    simp at e0 e1 e2
    subst e0 e1 e2
    have hsl : t.data.toList.length ≤ maxLen := by rw [Array.length_toList]; exact hs
    rcases DataW.trod_slice Tryz.underlying23 h3 with ⟨e3, _⟩ | ⟨a, len, cap, elems, rest, n, hn, e3, _, _, hlc, hm, hel, hit, _⟩
    · simp at e3
      subst e3
      refine ⟨⟨.mk k t.data.toList ks [], kp, kc, none, 0⟩, ?_, KI.rows (L := []) hk3 ⟨Nat.zero_le _, hk1, hk2⟩ (fun i y h => by cases h), hsl⟩
      show _ = [_, _, _, _]
      rw [show (JV.mk k t.data.toList ks []).str = t.data.toList from rfl, arr_back]
      rfl
    · simp at e3
      subst e3
      obtain ⟨L, hLl, hp⟩ := list_of len (fun i (c : IC) => w.cells? base (a.add (i * 4)) 4 = some c.cells ∧ KI w c.y c.kp c.kc c.ip c.ic ∧ c.y.str.length ≤ maxLen) fun i hi => by
       have h1 := hit i hi
       rw [List.getElem?_eq_getElem (by omega), Option.bind_eq_some_iff, cn45] at h1
       obtain ⟨cs', hc, ht⟩ := h1
       obtain ⟨c, rfl, hc2⟩ := ih n (by omega) cs' _ ht
       exact ⟨c, hc, hc2⟩
      refine ⟨⟨.mk k t.data.toList ks (L.map (·.y)), kp, kc, some a, cap⟩, ?_, KI.rows hk3 ⟨by omega, hk1, hk2⟩ (fun i c hc => ?_), hsl⟩
      · show _ = [_, _, _, _]
        rw [show (JV.mk k t.data.toList ks (L.map (·.y))).str = t.data.toList from rfl, arr_back, show (JV.mk k t.data.toList ks (L.map (·.y))).items.length = L.length from List.length_map .., hLl]
        rfl
      · obtain ⟨q1, q2⟩ := hp i c hc
        exact ⟨⟨a, rfl, ic_at q1⟩, q2⟩
set_option maxRecDepth 100000 in
theorem jv_arg {v : Value} {d : DataW H} {ps : List MemPlace} (hv : Value.okWide Tryz.prog w .any base 25 v) (h : DataW.Trod enc Tryz.prog w 0 (fun _ => true) true 25 v d ps) : ∃ x, JArg w v x := by
 obtain ⟨cs, rfl, _⟩ := okWide_struct Tryz.underlying25 hv
 obtain ⟨fuel, hf⟩ := h
 obtain ⟨c, hc, hk, hs⟩ := jv_trod _ _ _ hf
 obtain rfl : cs = c.cells.toArray := Array.toList_inj.1 (by simpa [Value.cells] using hc)
 exact ⟨c.y, c.kp, c.kc, c.ip, c.ic, rfl, hk, hs⟩
end
end Go.Proofs.Jt
