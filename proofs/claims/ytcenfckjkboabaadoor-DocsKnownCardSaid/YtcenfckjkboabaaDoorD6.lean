/- docs.New, may, Get, Open. -/
import Derived.Test.YtcenfckjkboabaaDoorD5
import Derived.Shelf.Unicode.DecodeSlow
namespace Go.Proofs.Dc
open Go.RowKit Go.Proofs Go.Lib Go.Maps

theorem space_grown {w w' : World} {row : Option Nat} (h : SpaceV w) (hg : w.grownBy w' row) (hr : some 2 ≠ row) : SpaceV w' := by
  have hgn : Tryd.prog.globalNamed "strings.asciiSpace" = some 2 := by kernel_rfl
  unfold SpaceV Lib.TabIs World.var? at h ⊢
  rw [hgn] at h ⊢
  simp only [Option.bind_some] at h ⊢
  have hlt : 2 < w.heap.size := by
    rcases Nat.lt_or_ge 2 w.heap.size with h' | h'
    · exact h'
    · rw [Array.getElem?_eq_none h'] at h; cases h
  rw [hg.block 2 hlt hr]
  exact h
theorem below_gb {w w' : World} {b B : Nat} (hB : B ≤ b) (hz : B ≤ w.heap.size) (hg : w.grownBy w' (some b)) : Below B w w' := (Below.refl B w).grown hg hz (fun k hk => by cases hk; omega)
/-- the tables lie in the first six blocks -/
theorem Tabs.six {w w' : World} (h : Tabs w) (hb : Below 6 w w') : Tabs w' := by
  have hlo := h.lo
  refine ⟨?_, ?_, ?_, Nat.lt_of_lt_of_le h.lo hb.size⟩
  · obtain ⟨m, hm⟩ := h.mx
    exact ⟨m, (hb.cell (p := ⟨3, 0, none⟩) (by show 3 < 6; omega)).trans hm⟩
  · have hgn : Tryd.prog.globalNamed "strings.asciiSpace" = some 2 := by kernel_rfl
    have h2 := h.sp
    unfold SpaceV Lib.TabIs World.var? at h2 ⊢
    rw [hgn] at h2 ⊢
    simp only [Option.bind_some] at h2 ⊢
    rw [hb.block 2 (by omega)]
    exact h2
  · have h3 := h.u8
    exact ⟨fun c hc => (hb.cell (by show 0 < 6; omega)).trans (h3.1 c hc), fun i hi => ⟨(hb.cell (by show 1 < 6; omega)).trans (h3.2 i hi).1, (hb.cell (by show 1 < 6; omega)).trans (h3.2 i hi).2⟩⟩
theorem Tabs.below {w w' : World} (h : Tabs w) (hb : Below w.heap.size w w') : Tabs w' := h.six (hb.mono (by have := h.lo; omega))
theorem Tabs.grown {w w' : World} (h : Tabs w) {M : Nat} (hg : w.grownBy w' (some M)) (hM : 5 < M) : Tabs w' := h.six (below_gb (by omega) (by have := h.lo; omega) hg)
theorem valid_any (s : ByteArray) (w : World) (hs : s.size ≤ 9223372036854775807) (hT : Lib.Utf8Tabs 0 1 w) : Calls Tryd.prog 10 #[.string s] w fun e w' => e = .returned (.bool (Lib.validD s.data.toList)) ∧ Below w.heap.size w w' := by
  have h := Tryd.utf8_ValidString s w hs hT
  go_enter Tryd.func10, Tryd.ntmps10
  go_wp2_with (first | (go_at_call 33; refine h.mono ?_; rintro e w1 ⟨rfl, hb⟩))
  go_ret
  exact ⟨rfl, hb⟩
def mayE (t : List UInt8) : Int := if validD t = false then 8 else if 65536 < t.length then 3 else 0
set_option maxRecDepth 100000 in
theorem may_any (s : ByteArray) (w : World) (hs : s.size ≤ 9223372036854775807) (hT : Lib.Utf8Tabs 0 1 w) : Calls Tryd.prog 35 #[.string s] w fun e w' => e = .returned (.int .i64 (mayE s.data.toList)) ∧ Below w.heap.size w w' := by
  have h := valid_any s w hs hT
  obtain ⟨E, hE⟩ : ∃ E, mayE s.data.toList = E := ⟨_, rfl⟩
  rw [hE]
  unfold mayE at hE
  rw [← Lib.size_eq] at hE
  obtain ⟨v, hv⟩ : ∃ v, validD s.data.toList = v := ⟨_, rfl⟩
  rw [hv] at hE h
  clear hv
  cases v with
  | false =>
    rw [if_pos rfl] at hE
    subst hE
    go_enter Tryd.func35, Tryd.ntmps35
    go_wp2_with (first | (go_at_call 10; refine h.mono ?_; rintro e w1 ⟨rfl, hb⟩))
    go_ret
    exact ⟨rfl, hb⟩
  | true =>
    rw [if_neg (by decide)] at hE
    by_cases hl : (65536 : Int) < (s.size : Int)
    · rw [if_pos (by omega)] at hE
      subst hE
      go_enter Tryd.func35, Tryd.ntmps35
      go_wp2_with (first | (go_at_call 10; refine h.mono ?_; rintro e w1 ⟨rfl, hb⟩))
      go_ret
      exact ⟨rfl, hb⟩
    · rw [if_neg (by omega)] at hE
      subst hE
      go_enter Tryd.func35, Tryd.ntmps35
      go_wp2_with (first | (go_at_call 10; refine h.mono ?_; rintro e w1 ⟨rfl, hb⟩))
      go_ret
      exact ⟨rfl, hb⟩
set_option maxRecDepth 100000 in
theorem new_any (w : World) : Calls Tryd.prog 12 #[] w fun e w' => ∃ b M, e = .returned (.pointer (some ⟨b, 0, none⟩)) ∧ DV w' b M [] ∧ Below w.heap.size w w' ∧ w.heap.size ≤ b ∧ w.heap.size ≤ M := by
  have hmm := @run_makeMap Tryd.prog
  go_enter Tryd.func12, Tryd.ntmps12
  go_wp2
  go_ret
  refine ⟨w.heap.size + 1, w.heap.size, rfl, ⟨alloc_new _ _ _ (by simp), ?_⟩, ((Below.refl _ _).alloc (Nat.le_refl _) _).alloc (by simp) _, by omega, Nat.le_refl _⟩
  exact (World.ownsMap_made w Tryd.prog 9 docEl).alloc _
set_option maxRecDepth 100000 in
set_option maxHeartbeats 1000000 in
theorem get_any (w : World) (b M : Nat) (L : List Doc) (h : DV w b M L) (u : ByteArray) (hu : u.size ≤ maxLen) : Calls Tryd.prog 16 #[.pointer (some ⟨b, 0, none⟩), .string u] w fun e w' =>
    e = .returned (.tuple #[docVal ((getD? L u.data.toList).getD doc0), .bool (getD? L u.data.toList).isSome]) ∧ Below w.heap.size w w' := by
  have hi := fun w h => is_any w b M L h
  have hlook := fun w (h : DV w b M L) => h.look u hu
  have H := Lib.hid h
  have hlt := h.lt.1
  clear h
  generalize (getD? L u.data.toList).getD doc0 = D at hlook ⊢
  generalize (getD? L u.data.toList).isSome = B at hlook ⊢
  have hV := H.out.below ((Below.refl w.heap.size w).alloc (Nat.le_refl _) (.cells #[.string ⟨#[]⟩, .string ⟨#[]⟩, .int .i64 0] 38))
  have bV : Below w.heap.size w (w.alloc (.cells #[.string ⟨#[]⟩, .string ⟨#[]⟩, .int .i64 0] 38)) := (Below.refl w.heap.size w).alloc (Nat.le_refl _) _
  have hrun := hlook _ hV
  have hc := hV.cell
  have hi2 := hi _ hV
  unfold docVal at hrun ⊢
  obtain ⟨A, hA⟩ : ∃ A : ByteArray, (⟨D.uri.toArray⟩ : ByteArray) = A := ⟨_, rfl⟩
  obtain ⟨E, hE⟩ : ∃ A : ByteArray, (⟨D.text.toArray⟩ : ByteArray) = A := ⟨_, rfl⟩
  rw [hA, hE] at hrun ⊢
  clear hlook hi hA hE hV
  go_enter Tryd.func16, Tryd.ntmps16
  go_wp2_with (first | (go_at_call 34; refine hi2.mono ?_; rintro e w1 ⟨rfl, hw⟩; subst w1))
  exact bodyPost_ret (v := .tuple #[.agg #[.string A, .string E, .int .i64 D.ver], .bool B]) (by simp [results, Tryd.results16, go_sem]) rfl ⟨rfl, ((Below.refl _ _).alloc (Nat.le_refl _) _).alloc (by simp) _⟩
/-- what Open answers -/
def openE (L : List Doc) (u t : List UInt8) : Int := if (dirV u).isSome = false then 9 else if (getD? L u).isSome = true then 6 else if 32 ≤ L.length then 7 else mayE t
def openL (L : List Doc) (u t : List UInt8) (v : Int) : List Doc := if openE L u t = 0 then putD ⟨u, t, v⟩ L else L
theorem mayE_le (t : List UInt8) : 0 ≤ mayE t ∧ mayE t ≤ 8 := by
  unfold mayE
  split
  · omega
  · split <;> omega
theorem dirVal_ok (o : Option (List UInt8)) : ∃ x : ByteArray, dirVal o = .tuple #[.string x, .bool o.isSome] := by
  cases o with
  | none => exact ⟨_, rfl⟩
  | some d => exact ⟨_, rfl⟩
set_option maxRecDepth 100000 in
set_option maxHeartbeats 4000000 in
theorem open_any (w : World) (hT : Tabs w) (b M : Nat) (L : List Doc) (h : DV w b M L) (_hM : 5 < M) (u t : ByteArray) (v : Int) (hu : u.size ≤ 1000000) (ht : t.size ≤ 9223372036854775807) (hL : L.length ≤ 1000000) :
    Calls Tryd.prog 13 #[.pointer (some ⟨b, 0, none⟩), .string u, .string t, .int .i64 v] w fun e w' => e = .returned (.int .i64 (openE L u.data.toList t.data.toList)) ∧ DV w' b M (openL L u.data.toList t.data.toList v) ∧ w.grownBy w' (some M) := by
  have hi := is_any w b M L h
  have hdir := dir_any u w hu hT.mx (fun w' hb => (hT.below hb).sp)
  obtain ⟨dn, hdn⟩ := dirVal_ok (dirV u.data.toList)
  rw [hdn] at hdir
  obtain ⟨ok, hok⟩ : ∃ x, (dirV u.data.toList).isSome = x := ⟨_, rfl⟩
  obtain ⟨th, hth⟩ : ∃ x, (getD? L u.data.toList).isSome = x := ⟨_, rfl⟩
  have hlook := fun w (h : DV w b M L) => h.look u (by unfold maxLen; omega)
  have hsize := fun w (h : DV w b M L) ty => h.size ty
  have hput := fun w (h : DV w b M L) => h.put u t v (by unfold maxLen; omega) (by unfold maxLen; omega)
  have hmay := fun w hT => may_any t w ht hT
  obtain ⟨E, hE⟩ : ∃ E, openE L u.data.toList t.data.toList = E := ⟨_, rfl⟩
  obtain ⟨LL, hLL⟩ : ∃ l, openL L u.data.toList t.data.toList v = l := ⟨_, rfl⟩
  unfold openL at hLL
  rw [hE] at hLL ⊢
  unfold openL
  rw [hE, hLL]
  unfold openE at hE
  rw [hok, hth] at hE
  rw [hok] at hdir
  simp only [hth] at hlook
  generalize (getD? L u.data.toList).getD doc0 = D at hlook
  unfold docVal at hlook
  obtain ⟨A1, hA1⟩ : ∃ A : ByteArray, (⟨D.uri.toArray⟩ : ByteArray) = A := ⟨_, rfl⟩
  obtain ⟨A2, hA2⟩ : ∃ A : ByteArray, (⟨D.text.toArray⟩ : ByteArray) = A := ⟨_, rfl⟩
  simp only [hA1, hA2] at hlook
  have H := Lib.hid h
  have hlt := h.lt
  have HLL := Lib.hid hLL
  have HE := Lib.hid hE
  clear h hok hth hdn hA1 hA2 hLL hE
  cases ok with
  | false =>
    have he : E = 9 := by rw [← HE.out]; rfl
    subst he
    have hl : LL = L := by rw [← HLL.out]; exact if_neg (by decide)
    subst hl
    clear HE HLL
    go_enter Tryd.func13, Tryd.ntmps13
    go_wp2_with (first
      | (go_at_call 34; refine hi.mono ?_; rintro e w1 ⟨rfl, hw⟩; subst w1)
      | (go_at_call 8; refine hdir.mono ?_; rintro e w1 ⟨rfl, hb1⟩
         have h1 := H.out.below hb1
         have hr := hlook _ h1
         have c1 := h1.cell
         have bA : Below w1.heap.size w1 (w1.alloc (.cells #[.string A1, .string A2, .int .i64 D.ver] 38)) := (Below.refl _ _).alloc (Nat.le_refl _) _
         have h2 := h1.below bA
         have c2 := h2.cell
         have hz := hsize _ h2
         have b2 := hb1.trans (bA.mono hb1.size)
         have H2 := Lib.hid h2
         clear h1 h2))
    go_ret
    exact ⟨rfl, H2.out, gb_below b2⟩
  | true =>
  cases th with
  | true =>
    have he : E = 6 := by rw [← HE.out]; rfl
    subst he
    have hl : LL = L := by rw [← HLL.out]; exact if_neg (by decide)
    subst hl
    clear HE HLL
    go_enter Tryd.func13, Tryd.ntmps13
    go_wp2_with (first
      | (go_at_call 34; refine hi.mono ?_; rintro e w1 ⟨rfl, hw⟩; subst w1)
      | (go_at_call 8; refine hdir.mono ?_; rintro e w1 ⟨rfl, hb1⟩
         have h1 := H.out.below hb1
         have hr := hlook _ h1
         have c1 := h1.cell
         have bA : Below w1.heap.size w1 (w1.alloc (.cells #[.string A1, .string A2, .int .i64 D.ver] 38)) := (Below.refl _ _).alloc (Nat.le_refl _) _
         have h2 := h1.below bA
         have c2 := h2.cell
         have hz := hsize _ h2
         have b2 := hb1.trans (bA.mono hb1.size)
         have H2 := Lib.hid h2
         clear h1 h2))
    go_ret
    exact ⟨rfl, H2.out, gb_below b2⟩
  | false =>
  by_cases h32 : (32 : Int) ≤ (L.length : Int)
  · have he : E = 7 := by rw [← HE.out]; rw [if_neg (by decide), if_neg (by decide), if_pos (by omega)]
    subst he
    have hl : LL = L := by rw [← HLL.out]; exact if_neg (by decide)
    subst hl
    clear HE HLL
    go_enter Tryd.func13, Tryd.ntmps13
    go_wp2_with (first
      | (go_at_call 34; refine hi.mono ?_; rintro e w1 ⟨rfl, hw⟩; subst w1)
      | (go_at_call 8; refine hdir.mono ?_; rintro e w1 ⟨rfl, hb1⟩
         have h1 := H.out.below hb1
         have hr := hlook _ h1
         have c1 := h1.cell
         have bA : Below w1.heap.size w1 (w1.alloc (.cells #[.string A1, .string A2, .int .i64 D.ver] 38)) := (Below.refl _ _).alloc (Nat.le_refl _) _
         have h2 := h1.below bA
         have c2 := h2.cell
         have hz := hsize _ h2
         have b2 := hb1.trans (bA.mono hb1.size)
         have H2 := Lib.hid h2
         clear h1 h2))
    go_ret
    exact ⟨rfl, H2.out, gb_below b2⟩
  have hE2 : E = mayE t.data.toList := by rw [← HE.out, if_neg (by decide), if_neg (by decide), if_neg (by omega)]
  rw [← hE2] at hmay
  clear HE
  by_cases hE0 : E = 0
  · subst hE0
    clear hE2
    have hl : LL = putD ⟨u.data.toList, t.data.toList, v⟩ L := by rw [← HLL.out]; exact if_pos rfl
    subst hl
    clear HLL
    go_enter Tryd.func13, Tryd.ntmps13
    go_wp2_with (first
      | (go_at_call 34; refine hi.mono ?_; rintro e w1 ⟨rfl, hw⟩; subst w1)
      | (go_at_call 8; refine hdir.mono ?_; rintro e w1 ⟨rfl, hb1⟩
         have h1 := H.out.below hb1
         have hr := hlook _ h1
         have c1 := h1.cell
         have bA : Below w1.heap.size w1 (w1.alloc (.cells #[.string A1, .string A2, .int .i64 D.ver] 38)) := (Below.refl _ _).alloc (Nat.le_refl _) _
         have h2 := h1.below bA
         have c2 := h2.cell
         have hz := hsize _ h2
         have b2 := hb1.trans (bA.mono hb1.size)
         have H2 := Lib.hid h2
         clear h1 h2)
      | (go_at_call 35; refine (hmay _ (hT.below b2).u8).mono ?_; rintro e w3 ⟨rfl, hb3⟩
         have h3 := H2.out.below hb3
         have c3 := h3.cell
         have b3 := b2.trans (hb3.mono b2.size)
         have H3 := Lib.hid h3
         clear h3
         obtain ⟨w4, hrun4, hd4, hg4⟩ := hput _ H3.out
         have HD4 := Lib.hid hd4
         have HG4 := Lib.hid hg4
         clear hd4 hg4))
    go_ret
    exact ⟨rfl, HD4.out, (gb_below b3).trans HG4.out⟩
  · have hl : LL = L := by rw [← HLL.out]; exact if_neg hE0
    subst hl
    have u0 : (E == 0) = false := by simpa using hE0
    clear HLL hE0 hE2
    go_enter Tryd.func13, Tryd.ntmps13
    go_wp2_with (first
      | (go_at_call 34; refine hi.mono ?_; rintro e w1 ⟨rfl, hw⟩; subst w1)
      | (go_at_call 8; refine hdir.mono ?_; rintro e w1 ⟨rfl, hb1⟩
         have h1 := H.out.below hb1
         have hr := hlook _ h1
         have c1 := h1.cell
         have bA : Below w1.heap.size w1 (w1.alloc (.cells #[.string A1, .string A2, .int .i64 D.ver] 38)) := (Below.refl _ _).alloc (Nat.le_refl _) _
         have h2 := h1.below bA
         have c2 := h2.cell
         have hz := hsize _ h2
         have b2 := hb1.trans (bA.mono hb1.size)
         have H2 := Lib.hid h2
         clear h1 h2)
      | (go_at_call 35; refine (hmay _ (hT.below b2).u8).mono ?_; rintro e w3 ⟨rfl, hb3⟩
         have h3 := H2.out.below hb3
         have c3 := h3.cell
         have b3 := b2.trans (hb3.mono b2.size)
         have H3 := Lib.hid h3
         clear h3))
    go_ret
    exact ⟨rfl, H3.out, gb_below b3⟩
end Go.Proofs.Dc
