/- docs.Close, Copy; documents that are none. -/
import Derived.Test.YtcenfckjkboabaaDoorD17
import Derived.Test.YtcenfckjkboabaaDoorD8
namespace Go.Proofs.Dc
open Go.RowKit Go.Proofs Go.Lib Go.Maps Go.Shelf

def closeE (L : List Doc) (u : List UInt8) : Int := if (getD? L u).isSome = true then 0 else 5
theorem without_none {L : List Doc} {u : List UInt8} (h : getD? L u = none) : without u L = L := by
  unfold without
  refine List.filter_eq_self.2 fun d hd => ?_
  unfold getD? at h
  rw [List.find?_eq_none] at h
  simpa using h d hd
theorem DV.drop {w : World} {b M : Nat} {L : List Doc} (h : DV w b M L) (u : ByteArray) (hu : u.size ≤ maxLen) :
    ∃ w', (∀ ty, (Builtin.delete_ #[57, 9] ty #[.map (some M), .string u]).run Tryd.prog w = .ok (.tuple #[]) w') ∧ DV w' b M (without u.data.toList L) ∧ w.grownBy w' (some M) := by
  have hd := fun ty => h.mp.drop law9 Tryd.underlying57 (Go.WideMaps.keyOf_string_mk Tryd.underlying9 hu) ty
  obtain ⟨w', h1, h2, ht⟩ := hd 0
  have h3 := World.mapTurned.grown ht
  refine ⟨w', fun ty => h1, ⟨(h3.block b h.lt.1 (by intro e; exact h.ne (Option.some.inj e))).trans h.hd, ?_⟩, h3⟩
  rw [DD_del] at h2
  exact own_tight h2
set_option maxRecDepth 100000 in
set_option maxHeartbeats 1000000 in
theorem close_any (w : World) (b M : Nat) (L : List Doc) (h : DV w b M L) (u : ByteArray) (hu : u.size ≤ maxLen) :
    Calls Tryd.prog 19 #[.pointer (some ⟨b, 0, none⟩), .string u] w fun e w' => e = .returned (.int .i64 (closeE L u.data.toList)) ∧ DV w' b M (without u.data.toList L) ∧ w.grownBy w' (some M) := by
  have hi := is_any w b M L h
  have hlook := h.look u hu
  have hcell := h.cell
  have hlt := h.lt
  unfold closeE
  obtain ⟨th, hth⟩ : ∃ x, (getD? L u.data.toList).isSome = x := ⟨_, rfl⟩
  rw [hth] at hlook ⊢
  have hno : th = false → without u.data.toList L = L := fun e => without_none (by rw [e] at hth; simpa using hth)
  clear hth
  generalize (getD? L u.data.toList).getD doc0 = D at hlook
  unfold docVal at hlook
  obtain ⟨A1, hA1⟩ : ∃ A : ByteArray, (⟨D.uri.toArray⟩ : ByteArray) = A := ⟨_, rfl⟩
  obtain ⟨A2, hA2⟩ : ∃ A : ByteArray, (⟨D.text.toArray⟩ : ByteArray) = A := ⟨_, rfl⟩
  simp only [hA1, hA2] at hlook
  have bA : Below w.heap.size w (w.alloc (.cells #[.string A1, .string A2, .int .i64 D.ver] 38)) := (Below.refl _ _).alloc (Nat.le_refl _) _
  have h2 := h.below bA
  have c2 := h2.cell
  obtain ⟨w4, hdel, hd4, hg4⟩ := h2.drop u hu
  have H2 := Lib.hid h2
  have H4 := Lib.hid hd4
  have G4 := Lib.hid hg4
  have HNO := Lib.hid hno
  clear h h2 hd4 hg4 hno hA1 hA2
  cases th with
  | false =>
    clear hdel
    rw [if_neg (by decide), HNO.out rfl]
    go_enter Tryd.func19, Tryd.ntmps19
    go_wp2_with (first | (go_at_call 34; refine hi.mono ?_; rintro e w1 ⟨rfl, hw⟩; subst w1))
    go_ret
    exact ⟨rfl, H2.out, gb_below bA⟩
  | true =>
    rw [if_pos rfl]
    go_enter Tryd.func19, Tryd.ntmps19
    go_wp2_with (first | (go_at_call 34; refine hi.mono ?_; rintro e w1 ⟨rfl, hw⟩; subst w1))
    go_ret
    exact ⟨rfl, H4.out, (gb_below bA).trans G4.out⟩
set_option maxRecDepth 100000 in
set_option maxHeartbeats 1000000 in
theorem copy_any (w : World) (b M : Nat) (L : List Doc) (h : DV w b M L) : Calls Tryd.prog 25 #[.pointer (some ⟨b, 0, none⟩)] w fun e w' => ∃ b2 M2, e = .returned (.pointer (some ⟨b2, 0, none⟩)) ∧ DV w' b2 M2 L ∧ Below w.heap.size w w' ∧ w.heap.size ≤ b2 ∧ w.heap.size ≤ M2 := by
  have hi := is_any w b M L h
  have hcell := h.cell
  have hcl := AnyW.maps_Clone_owns Tryd.cloneL 9 docEl M L.length (DD L) w h.mp
  clear h
  go_enter Tryd.func25, Tryd.ntmps25
  go_wp2_with (first
    | (go_at_call 34; refine hi.mono ?_; rintro e w1 ⟨rfl, hw⟩; subst w1)
    | (go_at_call 41; refine hcl.mono ?_; rintro e w2 ⟨rfl, h1, h2, h3⟩))
  go_ret
  exact ⟨w2.heap.size, w.heap.size, rfl, ⟨World.alloc_heap_new w2 _, h1.alloc _⟩, h3.trans ((Below.refl _ _).alloc h3.size _), h3.size, Nat.le_refl _⟩
/-- documents that New did not make -/
theorem is_nil (w : World) : Calls Tryd.prog 34 #[.pointer none] w fun e w' => e = .returned (.bool false) ∧ w = w' := by
  go_enter Tryd.func34, Tryd.ntmps34
  go_wp2
  go_ret
  exact ⟨rfl, rfl⟩
theorem is_zero (w : World) (b : Nat) (h : w.heap[b]? = some (.cells #[.map none] 59 (0, 0))) : Calls Tryd.prog 34 #[.pointer (some ⟨b, 0, none⟩)] w fun e w' => e = .returned (.bool false) ∧ w = w' := by
  have c : w.cell? ⟨b, 0, none⟩ = some (.map none) := by simp [World.cell?, h]
  have hr := run_neq_map none
  clear h
  go_enter Tryd.func34, Tryd.ntmps34
  go_wp2
  go_ret
  exact ⟨rfl, rfl⟩
/-- none, or an empty one -/
def NoneV (w : World) (p : Option Addr) : Prop := p = none ∨ ∃ b, p = some ⟨b, 0, none⟩ ∧ w.heap[b]? = some (.cells #[.map none] 59 (0, 0))
theorem is_none (w : World) (p : Option Addr) (h : NoneV w p) : Calls Tryd.prog 34 #[.pointer p] w fun e w' => e = .returned (.bool false) ∧ w = w' := by
  rcases h with rfl | ⟨b, rfl, h⟩
  · exact is_nil w
  · exact is_zero w b h
theorem NoneV.below {w w' : World} {p : Option Addr} (h : NoneV w p) (hb : Below w.heap.size w w') : NoneV w' p := by
  rcases h with rfl | ⟨b, rfl, h⟩
  · exact .inl rfl
  · exact .inr ⟨b, rfl, (hb.block b (Array.getElem?_eq_some_iff.1 h).1).trans h⟩
set_option maxRecDepth 100000 in
theorem open_none (w : World) (p : Option Addr) (h : NoneV w p) (u t : ByteArray) (v : Int) : Calls Tryd.prog 13 #[.pointer p, .string u, .string t, .int .i64 v] w fun e w' => e = .returned (.int .i64 1) ∧ w = w' := by
  have hi := is_none w p h
  clear h
  go_enter Tryd.func13, Tryd.ntmps13
  go_wp2_with (first | (go_at_call 34; refine hi.mono ?_; rintro e w1 ⟨rfl, hw⟩; subst w1))
  go_ret
  exact ⟨rfl, rfl⟩
set_option maxRecDepth 100000 in
theorem change_none (w : World) (p : Option Addr) (h : NoneV w p) (u : ByteArray) (v : Int) (x : Value) : Calls Tryd.prog 15 #[.pointer p, .string u, .int .i64 v, x] w fun e w' => e = .returned (.int .i64 1) ∧ w = w' := by
  have hi := is_none w p h
  clear h
  go_enter Tryd.func15, Tryd.ntmps15
  go_wp2_with (first | (go_at_call 34; refine hi.mono ?_; rintro e w1 ⟨rfl, hw⟩; subst w1))
  go_ret
  exact ⟨rfl, rfl⟩
set_option maxRecDepth 100000 in
theorem close_none (w : World) (p : Option Addr) (h : NoneV w p) (u : ByteArray) : Calls Tryd.prog 19 #[.pointer p, .string u] w fun e w' => e = .returned (.int .i64 1) ∧ w = w' := by
  have hi := is_none w p h
  clear h
  go_enter Tryd.func19, Tryd.ntmps19
  go_wp2_with (first | (go_at_call 34; refine hi.mono ?_; rintro e w1 ⟨rfl, hw⟩; subst w1))
  go_ret
  exact ⟨rfl, rfl⟩
set_option maxRecDepth 100000 in
theorem get_none (w : World) (p : Option Addr) (h : NoneV w p) (u : ByteArray) : Calls Tryd.prog 16 #[.pointer p, .string u] w fun e w' => e = .returned (.tuple #[docVal doc0, .bool false]) ∧ Below w.heap.size w w' := by
  have bV : Below w.heap.size w (w.alloc (.cells #[.string ⟨#[]⟩, .string ⟨#[]⟩, .int .i64 0] 38)) := (Below.refl w.heap.size w).alloc (Nat.le_refl _) _
  have hi := is_none _ p (h.below bV)
  clear h
  go_enter Tryd.func16, Tryd.ntmps16
  go_wp2_with (first | (go_at_call 34; refine hi.mono ?_; rintro e w1 ⟨rfl, hw⟩; subst w1))
  exact bodyPost_ret (v := .tuple #[.agg #[.string ⟨#[]⟩, .string ⟨#[]⟩, .int .i64 0], .bool false]) (by simp [results, Tryd.results16, go_sem]) rfl ⟨rfl, bV⟩
set_option maxRecDepth 100000 in
theorem copy_none (w : World) (p : Option Addr) (h : NoneV w p) : Calls Tryd.prog 25 #[.pointer p] w fun e w' => e = .returned (.pointer none) ∧ w = w' := by
  have hi := is_none w p h
  clear h
  go_enter Tryd.func25, Tryd.ntmps25
  go_wp2_with (first | (go_at_call 34; refine hi.mono ?_; rintro e w1 ⟨rfl, hw⟩; subst w1))
  go_ret
  exact ⟨rfl, rfl⟩
set_option maxRecDepth 100000 in
theorem all_none (w : World) (p : Option Addr) (h : NoneV w p) : Calls Tryd.prog 20 #[.pointer p] w fun e w' => e = .returned (.slice none 0 0) ∧ w = w' := by
  have hi := is_none w p h
  clear h
  go_enter Tryd.func20, Tryd.ntmps20
  go_wp2_with (first | (go_at_call 34; refine hi.mono ?_; rintro e w1 ⟨rfl, hw⟩; subst w1))
  go_ret
  exact ⟨rfl, rfl⟩
end Go.Proofs.Dc
