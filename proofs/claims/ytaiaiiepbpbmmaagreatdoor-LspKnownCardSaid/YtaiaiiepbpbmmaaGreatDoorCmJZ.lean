/- Merged texts: J10, J11. -/
import Derived.Test.YtaiaiiepbpbmmaaGreatDoorCmKJ
import Derived.Maps.RangeWalk
/- J10: jtext's Quote. -/
namespace Go.Proofs.Jt
open Go.RowKit Go.Proofs Go.Lib Go.Proofs.Utf Go.Maps

/-- for which byte an escape stands, the other way round -/
def backLook (r : Int) : Option Int := if r = 34 then some 34 else if r = 92 then some 92 else if r = 8 then some 98 else if r = 12 then some 102 else if r = 10 then some 110 else if r = 13 then some 114 else if r = 9 then some 116 else none
theorem look_back {x c : Int} (h : escLook x = some c) (hc : c ≠ 47) : backLook c = some x := by
 unfold escLook at h
 repeat' split at h
 all_goals first | (injection h with h; subst h; subst_vars; first | rfl | (exact absurd rfl hc)) | cases h
theorem back_look {r k : Int} (h : backLook r = some k) : escLook k = some r ∧ r ≠ 47 ∧ k ≠ 47 := by
 unfold backLook at h
 repeat' split at h
 all_goals first | (injection h with h; subst h; subst_vars; decide) | cases h
def BackIs (D : DataW Unit) (left : Lit → Bool) : Prop :=
 IsMap D ∧ (∀ r : Int, Maps.has D (.int .i32 r) = match backLook r with | some k => !left (.int .i32 k) | none => false) ∧
  ∀ r k : Int, backLook r = some k → left (.int .i32 k) = false → D.atKey (.int .i32 r) (.lit (.int .i32 0)) = .lit (.int .i32 k)
theorem BackIs.start : BackIs (.map []) (Maps.has escD) := by
 refine ⟨isMap_empty, fun r => ?_, fun r k h hl => ?_⟩
 · cases h : backLook r with
   | none => rfl
   | some k =>
    simp only
    rw [(escD_has k).1, (back_look h).1]
    rfl
 · rw [(escD_has k).1, (back_look h).1] at hl
   cases hl
theorem BackIs.put {D : DataW Unit} {left : Lit → Bool} (h : BackIs D left) {x c : Int} (hx : escLook x = some c) (hc : c ≠ 47) : BackIs (D.put (.int .i32 c) (.lit (.int .i32 x))) (fun z => left z && !z.sameKey (.int .i32 x)) := by
 obtain ⟨h1, h2, h3⟩ := h
 have hk : WideAt.IsKeyLit (.int .i32 c) := by simp [WideAt.IsKeyLit]
 have hb := look_back hx hc
 have hsx : ∀ k, k ≠ x → (Lit.int .i32 k).sameKey (.int .i32 x) = false := fun k hk => sameKey_ne (lit_ne hk)
 have hne : ∀ r k, r ≠ c → backLook r = some k → k ≠ x := fun r k hr hk e => by
  subst e
  have := (back_look hk).1
  rw [hx] at this
  exact hr (Option.some.inj this).symm
 refine ⟨h1.put _ _, fun r => ?_, fun r k hr hl => ?_⟩
 · by_cases e : r = c
   · subst e
     rw [has_put_same h1 hk, hb]
     simp [Lit.sameKey]
   · rw [has_put_other (lit_ne e), h2 r]
     cases hr : backLook r with
     | none => rfl
     | some k => simp only; rw [hsx k (hne r k e hr)]; simp
 · by_cases e : r = c
   · subst e
     rw [atKey_put_same h1 hk]
     rw [hb] at hr
     rw [Option.some.inj hr]
   · rw [atKey_put_other (lit_ne e)]
     refine h3 r k hr ?_
     have hl' : (left (.int .i32 k) && !(Lit.int .i32 k).sameKey (.int .i32 x)) = false := hl
     rw [hsx k (hne r k e hr)] at hl'
     simpa using hl'
theorem BackIs.pass {D : DataW Unit} {left : Lit → Bool} (h : BackIs D left) {x : Int} (hx : escLook x = some 47) : BackIs D (fun z => left z && !z.sameKey (.int .i32 x)) := by
 obtain ⟨h1, h2, h3⟩ := h
 have hsx : ∀ r k, backLook r = some k → (Lit.int .i32 k).sameKey (.int .i32 x) = false := fun r k hk => sameKey_ne (lit_ne fun e => by
  subst e
  have := back_look hk
  rw [hx] at this
  exact this.2.1 (Option.some.inj this.1).symm)
 refine ⟨h1, fun r => ?_, fun r k hr hl => ?_⟩
 · rw [h2 r]
   cases hr : backLook r with
   | none => rfl
   | some k => simp only; rw [hsx r k hr]; simp
 · refine h3 r k hr ?_
   have hl' : (left (.int .i32 k) && !(Lit.int .i32 k).sameKey (.int .i32 x)) = false := hl
   rw [hsx r k hr] at hl'
   simpa using hl'
/-- the way back, whole -/
def BackAll (D : DataW Unit) : Prop := ∀ r : Int, Maps.has D (.int .i32 r) = (backLook r).isSome ∧ (∀ k, backLook r = some k → D.atKey (.int .i32 r) (.lit (.int .i32 0)) = .lit (.int .i32 k))
theorem BackIs.all {D : DataW Unit} {left : Lit → Bool} (h : BackIs D left) (hl : ∀ kl, left kl = false) : BackAll D := by
 obtain ⟨h1, h2, h3⟩ := h
 intro r
 refine ⟨?_, fun k hk => h3 r k hk (hl _)⟩
 rw [h2 r]
 cases hr : backLook r with
 | none => rfl
 | some k => simp only; rw [hl]; rfl
theorem escD_size : Maps.size escD = 8 := by decide
theorem own_low {P : Program} {w w' : World} {b n B : Nat} {D : DataW Unit} {k : TypeId} {R : Value → Option (DataW Unit × List MemPlace)} (h : w.ownsMap P k R b n D) (hb : Below B w w') (hlt : b < B) : w'.ownsMap P k R b n D := by
 obtain ⟨es, clock, hh, r⟩ := h
 exact ⟨es, clock, (hb.block b hlt).trans hh, r⟩
def qRune (r : Nat) : List UInt8 := match backLook r with | some k => [92, k.toNat.toUInt8] | none => if r < 32 then [92, 117, 48, 48, hexD (r / 16), hexD (r % 16)] else encodeRune r
theorem hex_at (n : Nat) (h : n < 16) : ((⟨#[48, 49, 50, 51, 52, 53, 54, 55, 56, 57, 97, 98, 99, 100, 101, 102]⟩ : ByteArray)[n]'h).toNat = (hexD n).toNat := by
 revert n
 decide
theorem bits15 : ∀ n : Nat, n < 32 → bits BinOp.and .i32 (n : Int) 15 = ((n % 16 : Nat) : Int) := by decide
theorem q_low : ∀ b : UInt8, b.toNat < 128 → qByte b = qRune b.toNat := forall_u8 (by decide +kernel)
theorem q_high : ∀ b : UInt8, 128 ≤ b.toNat → qByte b = [b] := forall_u8 (by decide +kernel)
theorem back_low {r k : Int} (h : backLook r = some k) : 0 ≤ r ∧ r < 128 ∧ 0 ≤ k ∧ k < 128 := by
 unfold backLook at h
 repeat' split at h
 all_goals first | (injection h with h; omega) | cases h
theorem flat_high : ∀ (p : List UInt8), (∀ b ∈ p, 128 ≤ b.toNat) → p.flatMap qByte = p
 | [], _ => rfl
 | b :: p, h => by
  rw [List.flatMap_cons, q_high b (h b List.mem_cons_self), flat_high p fun x hx => h x (List.mem_cons_of_mem _ hx)]
  rfl
theorem q_seg (l : List UInt8) (hne : l ≠ []) (hp : isPt l = true) : (l.take (decodeL l).2).flatMap qByte = qRune (decodeL l).1 := by
 obtain ⟨e1, e2, e3⟩ := dec_point_bytes l hne hp
 obtain ⟨b, t, rfl⟩ := List.exists_cons_of_ne_nil hne
 by_cases hb : b.toNat < 128
 · rw [decodeL_ascii b t hb]
   simp [q_low b hb]
 · have hh := dec_big_bytes (b :: t) hne hp (by simp; omega)
   have hd := dec_high b t (by omega)
   rw [flat_high _ (take_high _ _ e2 hh), ← e1]
   unfold qRune
   have : backLook ((decodeL (b :: t)).1 : Int) = none := by
    cases h : backLook ((decodeL (b :: t)).1 : Int) with
    | none => rfl
    | some k => have := back_low h; omega
   rw [this]
   simp only
   rw [if_neg (by omega)]
set_option maxRecDepth 100000 in
set_option maxHeartbeats 4000000 in
theorem quote_walk (s : ByteArray) (w : World) (hT : Tabs w) (hs : s.size ≤ 16777216) (hv : validD s.data.toList = true) :
 Calls Tryz.prog 128 #[.string s] w fun e w' => e = .returned (.tuple #[.string ⟨(quoteL s.data.toList).toArray⟩, .int .i64 0]) ∧ Below w.heap.size w w' := by
 have hval := Tryz.utf8_ValidString s w (by omega) hT.1
 rw [hv] at hval
 have hmm : ∀ w, (Instr.makeMap 237 none).run Tryz.prog w = .ok (.map (some w.heap.size)) (w.alloc (.map #[] 0)) := fun w => run_makeMap _ _
 go_enter Tryz.func128, Tryz.ntmps128
 go_wp2_with (first
  | (go_at_call 156; refine hval.mono ?_; rintro e w1 ⟨rfl, hb1⟩
     have o0 : (w1.alloc (.map #[] 0)).ownsMap Tryz.prog 21 (plainElem (H := Unit) Tryz.prog 21) w1.heap.size 0 (.map []) := World.ownsMap_made _ _ _ _
     have d0 : Below w1.heap.size w1 (w1.alloc (.map #[] 0)) := (Below.refl _ _).alloc (Nat.le_refl _) _)
  | (go_at_call 181; refine (escapes_any _).mono ?_; rintro e w2 ⟨rfl, o2, hb2⟩
     have hsz1 : (w1.alloc (.map #[] 0)).heap.size = w1.heap.size + 1 := by simp
     rw [hsz1] at o2 hb2)
  | (at_range; refine wpList_range_own _ rfl _ 237 rfl 21 21 law21 Tryz.underlying237 (plainElem (H := Unit) Tryz.prog 21) _ 8 escD rfl o2 ?_; intro w3 hrg3 hg3 hs3))
 go_frame
 have o0' : w2.ownsMap Tryz.prog 21 (plainElem (H := Unit) Tryz.prog 21) w1.heap.size 0 (.map []) := by
  obtain ⟨es, clock, hb, r⟩ := o0
  exact ⟨es, clock, (hb2.block _ (by omega)).trans hb, r⟩
 have o3 := o0'.kept hg3 (by simp)
 have d2 : Below w.heap.size w w2 := (hb1.trans (d0.mono hb1.size)).trans (hb2.mono (by have := hb1.size; omega))
 have d3 : Below w.heap.size w w3 := d2.grown hg3 d2.size (fun q hq => by cases hq)
 have hz1 := hb1.size
 have hz2 : w1.heap.size + 1 ≤ w2.heap.size := by have := hb2.size; simpa using this
 obtain ⟨b0, hb0⟩ : ∃ b0, w1.heap.size = b0 := ⟨_, rfl⟩
 rw [hb0] at o3 hz1 hz2 hrg3
 obtain ⟨ib, hib⟩ : ∃ ib, w2.heap.size = ib := ⟨_, rfl⟩
 rw [hib] at hz2 hrg3 hs3
 have hz3 : w.heap.size ≤ w3.heap.size := d3.size
 clear o0 o0' hb1 d0 hb2 hg3 hsz1 o2 d2 hval
 simp only [hb0, hib]
 clear hb0 hib
 go_loopw [] (fun wr => ∃ (left : Lit → Bool) (cnt n : Nat) (D : DataW Unit), wr.ranges Tryz.prog 21 (plainElem (H := Unit) Tryz.prog 21) (b0 + 1) ib 8 escD left cnt ∧ wr.ownsMap Tryz.prog 21 (plainElem (H := Unit) Tryz.prog 21) b0 n D ∧ n + cnt ≤ 8 ∧ BackIs D left ∧ (∀ kl, left kl = true → Maps.has escD kl = true) ∧ Below w.heap.size w wr)
  (fun wr => wr.rangeLeft (b0 + 1) ib)
 case atStart => exact ⟨_, _, 0, _, hrg3, o3, by rw [escD_size]; omega, BackIs.start, fun _ h => h, d3⟩
 case round =>
  obtain ⟨left, cnt, n, D, hrg, hown, hcn, hBK, hsub, hB⟩ := hrel
  go_wp2_with (first
   | (at_next; refine wpList_next_ranges_ii _ rfl _ rfl 21 21 .i32 .i32 law21 Tryz.underlying21 Tryz.underlying21 (b0 + 1) ib 8 escD left cnt rfl hrg ?_ ?_))
  · intro hc0 hl0
    have hall := hBK.all hl0
    clear hBK hsub hl0
    have hI0 := fresh66 wr
    have hBw : Below w.heap.size w (wr.alloc (.cells #[.pointer none, .slice none 0 0] 201)) := hB.alloc hB.size _
    have hbl : b0 < wr.heap.size := hown.lt
    have hownB : (wr.alloc (.cells #[.pointer none, .slice none 0 0] 201)).ownsMap Tryz.prog 21 (plainElem (H := Unit) Tryz.prog 21) b0 n D := hown.alloc _
    have hsz : (wr.alloc (.cells #[.pointer none, .slice none 0 0] 201)).heap.size = wr.heap.size + 1 := by simp
    go_wp2_with (first
     | (go_at_call 182; refine (Tryz.Builder_WriteByte_k wr.heap.size wr.heap.size _ 34 _ hI0 (by simp [Lib.byteCells]) (by rw [hsz]; omega)).mono ?_; rintro e w5 ⟨rfl, hI5, hb5, hk5⟩))
    have hI5' : Lib.IsBuilderF 201 5 wr.heap.size wr.heap.size (Lib.byteCells [34]) w5 := Or.inr hI5
    have hz5 := hb5.size
    rw [hsz] at hz5
    clear hrg hown hI0 hI5 hk5
    obtain ⟨B, hBB⟩ : ∃ B, wr.heap.size = B := ⟨_, rfl⟩
    obtain ⟨Wb, hWb⟩ : ∃ Wb, wr.alloc (.cells #[.pointer none, .slice none 0 0] 201) = Wb := ⟨_, rfl⟩
    have hBz := hB.size
    rw [hWb] at hBw hownB hb5
    rw [hBB] at hI5' hb5 hbl hz5 hBz
    simp only [hBB]
    clear hB hsz hWb hBB
    go_loopw [] (fun wq => ∃ (pos : Nat) (acc : List UInt8), Lib.IsBuilderF 201 5 B B (Lib.byteCells acc) wq ∧ wq.heap[w5.heap.size]? = some (.stringIter s pos) ∧ Below B Wb wq ∧ acc = 34 :: (s.data.toList.take pos).flatMap qByte ∧ pos ≤ s.size ∧ validD (s.data.toList.drop pos) = true ∧ acc.length ≤ 1 + 6 * pos)
     (fun wq => s.size - wq.iterPos w5.heap.size)
    case atStart =>
     refine ⟨0, [34], hI5'.alloc _, World.iter_heap w5 s 0, hb5.alloc (by omega) _, by simp, Nat.zero_le _, by simpa using hv, by simp⟩
    case round =>
     obtain ⟨pos, acc, hI, hit, hb, hacc, hp0, hvp, hal⟩ := hrel
     have hkz : w5.heap.size < wr.heap.size := (ltS hit)
     by_cases hp : pos < s.size
     · have hnx : ∀ ty, (Instr.next (.pointer (some ⟨w5.heap.size, 0, none⟩)) true ty).run Tryz.prog wr = _ := fun ty => Lib.run_next_any_at wr w5.heap.size s pos ty hit hp
       have hle := dec_le s pos hp
       have hpos := dec_pos s pos
       have hne : s.data.toList.drop pos ≠ [] := by
        intro e
        have := congrArg List.length e
        rw [List.length_drop, ← Lib.size_eq] at this
        simp at this
        omega
       obtain ⟨hpt, hvn⟩ := valid_step _ hne hvp
       have hseg := q_seg _ hne hpt
       unfold headW at hvn
       rw [decodeL_drop] at hseg hvn
       rw [List.drop_drop] at hvn
       have hrp := dec_at s pos hp
       have hI2 := hI.iterAt hit (pos + (Utf8.decode s pos).2)
       have hit2 := Lib.iterAt_heap wr w5.heap.size s pos (pos + (Utf8.decode s pos).2) hit
       have hb2 := Lib.below_iterAt hb (k := w5.heap.size) (by omega) s (pos + (Utf8.decode s pos).2)
       have hown2 := own_low hownB hb2 hbl
       have hz2 : B < (wr.iterAt w5.heap.size s (pos + (Utf8.decode s pos).2)).heap.size := by rw [Lib.iterAt_size]; omega
       have HACC := Lib.hid hacc
       have HSEG := Lib.hid hseg
       have HVN := Lib.hid hvn
       have hlk := hall (Utf8.decode s pos).1
       have hr31 : ((Utf8.decode s pos).1 : Int) ≤ 2147483647 := by
        rcases hrp with h | h
        · omega
        · unfold IsPoint at h; omega
       have hkey : keyOf Tryz.prog 21 (.int .i32 ((Utf8.decode s pos).1 : Int)) = some (.int .i32 ((Utf8.decode s pos).1 : Int)) := keyOf_int_mk Tryz.underlying21 (by simp [Lit.wf, IntKind.min, IntKind.max, IntKind.signed, IntKind.bits]; omega)
       have hadd : (s.data.toList.take (pos + (Utf8.decode s pos).2)).flatMap qByte = (s.data.toList.take pos).flatMap qByte ++ qRune (Utf8.decode s pos).1 := by
        rw [← HSEG.out, ← List.flatMap_append, ← List.take_add]
       have HADD := Lib.hid hadd
       clear hacc hseg hvn hadd hvp hpt
       cases hbk : backLook (Utf8.decode s pos).1 with
       | some k =>
        have hk := back_low hbk
        have hq : qRune (Utf8.decode s pos).1 = [92, k.toNat.toUInt8] := by unfold qRune; rw [hbk]
        rw [hbk] at hlk
        have hlk2 := hlk.2 k rfl
        have hlk1 := hlk.1
        simp only [Option.isSome_some] at hlk1
        have HQ := Lib.hid hq
        have he : encodeRune k = [k.toNat.toUInt8] := by
         have := enc1 k ⟨hk.2.2.1, by omega⟩
         exact this
        have HE := Lib.hid he
        clear hq hlk hbk he
        go_wp2_with (first
         | (at_lookup; refine wpList_lookup_own_ok _ rfl _ _ 237 rfl 21 21 law21 Tryz.underlying237 (plainElem (H := Unit) Tryz.prog 21) (zero21 _) (.lit (.int .i32 0)) [] (plainElem_int Tryz.underlying21 (by decide)) b0 n D rfl hown2 _ _ rfl hkey ?_; rw [hlk1]; intro v ps hv
            rw [hlk2] at hv
            obtain ⟨q, rfl, hq, _⟩ := plainElem_int_inv Tryz.underlying21 hv
            obtain rfl : k = q := by simpa using congrArg Prod.fst hq
            clear hv hq)
         | (go_at_call 182; refine (Tryz.Builder_WriteByte_k B B _ 92 _ hI2 (by rw [Lib.byteCells_length]; omega) (by omega)).mono ?_; rintro e w6 ⟨rfl, hI6, hb6, hk6⟩
            have hI6' : Lib.IsBuilderF 201 5 B B (Lib.byteCells (acc ++ [92])) w6 := by rw [Lib.byteCells_append]; exact Or.inr hI6
            have hz6 := hb6.size)
         | (go_at_call 183; refine (Tryz.Builder_WriteRune_k B B _ k (by omega) (by omega) _ hI6' (by rw [Lib.byteCells_length]; simp; omega) (by omega)).mono ?_; rintro e w7 ⟨rfl, hI7, hb7, hk7⟩))
        go_roundw
        case rel =>
         refine ⟨pos + (Utf8.decode s pos).2, acc ++ [92] ++ encodeRune k, ?_, hk7.iter (hk6.iter hit2 (by omega)) (by omega), (hb2.trans hb6).trans hb7, ?_, hle, HVN.out, ?_⟩
         · rw [Lib.byteCells_append, Lib.byteCells_encodeRune]; exact Or.inr hI7
         · rw [HADD.out, HQ.out, HACC.out, HE.out]; simp
         · rw [HE.out]; simp; omega
        case measure =>
         simp only [World.iterPos, hk7.iter (hk6.iter hit2 (by omega)) (by omega), hit]
         omega
       | none =>
        rw [hbk] at hlk
        have hlk1 := hlk.1
        simp only [Option.isSome_none] at hlk1
        by_cases hlo : ((Utf8.decode s pos).1 : Int) < 32
        · have t32 : decide (((Utf8.decode s pos).1 : Int) < 32) = true := by simpa using hlo
          have hnk : (Utf8.decode s pos).1 < 32 := by omega
          have hq : qRune (Utf8.decode s pos).1 = [92, 117, 48, 48, hexD ((Utf8.decode s pos).1 / 16), hexD ((Utf8.decode s pos).1 % 16)] := by unfold qRune; rw [hbk]; simp only; rw [if_pos hnk]
          have HQ := Lib.hid hq
          have hbits := bits15 _ hnk
          clear hq hlk hbk
          go_wp2_with (first
           | (at_lookup; refine wpList_lookup_own_ok _ rfl _ _ 237 rfl 21 21 law21 Tryz.underlying237 (plainElem (H := Unit) Tryz.prog 21) (zero21 _) (.lit (.int .i32 0)) [] (plainElem_int Tryz.underlying21 (by decide)) b0 n D rfl hown2 _ _ rfl hkey ?_; rw [hlk1]; intro v ps hv
              clear hv)
           | (go_at_call 170; refine (Tryz.Builder_WriteString_k B B _ ⟨#[92, 117, 48, 48]⟩ _ hI2 (by rw [Lib.byteCells_length, show (ByteArray.mk #[92, 117, 48, 48]).size = 4 from rfl]; omega) (by omega)).mono ?_; rintro e w6 ⟨rfl, hI6, hb6, hk6⟩
              have hI6' : Lib.IsBuilderF 201 5 B B (Lib.byteCells (acc ++ [92, 117, 48, 48])) w6 := by rw [Lib.byteCells_append]; exact Or.inr hI6
              have hz6 := hb6.size)
           | (go_at_call 182; (with_reducible show Calls _ _ _ w6 _); refine (Tryz.Builder_WriteByte_k B B _ _ w6 hI6' (by rw [Lib.byteCells_length]; simp; omega) (by omega)).mono ?_; rintro e w7 ⟨rfl, hI7, hb7, hk7⟩
              rw [hex_at] at hI7
              have hI7' : Lib.IsBuilderF 201 5 B B (Lib.byteCells ((acc ++ [92, 117, 48, 48]) ++ [hexD ((Utf8.decode s pos).1 / 16)])) w7 := by rw [Lib.byteCells_append]; exact Or.inr hI7
              have hz7 := hb7.size)
           | (go_at_call 182; (try simp only [hbits, Int.toNat_natCast]); refine (Tryz.Builder_WriteByte_k B B _ _ w7 hI7' (by rw [Lib.byteCells_length]; simp; omega) (by omega)).mono ?_; rintro e w8 ⟨rfl, hI8, hb8, hk8⟩
              rw [hex_at] at hI8
              have hI8' : Lib.IsBuilderF 201 5 B B (Lib.byteCells ((acc ++ [92, 117, 48, 48]) ++ [hexD ((Utf8.decode s pos).1 / 16)] ++ [hexD ((Utf8.decode s pos).1 % 16)])) w8 := by rw [Lib.byteCells_append]; exact Or.inr hI8))
          go_roundw
          case rel =>
           refine ⟨pos + (Utf8.decode s pos).2, _, hI8', hk8.iter (hk7.iter (hk6.iter hit2 (by omega)) (by omega)) (by omega), ((hb2.trans hb6).trans hb7).trans hb8, ?_, hle, HVN.out, ?_⟩
           · rw [HADD.out, HQ.out, HACC.out]; simp
           · simp; omega
          case measure =>
           simp only [World.iterPos, hk8.iter (hk7.iter (hk6.iter hit2 (by omega)) (by omega)) (by omega), hit]
           omega
        · have t32 : decide (((Utf8.decode s pos).1 : Int) < 32) = false := by simpa using hlo
          have hnk : ¬ (Utf8.decode s pos).1 < 32 := by omega
          have hq : qRune (Utf8.decode s pos).1 = encodeRune (Utf8.decode s pos).1 := by unfold qRune; rw [hbk]; simp only; rw [if_neg hnk]
          have HQ := Lib.hid hq
          have hn4 : (encodeRune ((Utf8.decode s pos).1 : Int)).length ≤ 4 := by
           rcases hrp with h | h
           · exact enc_len4 _ (by unfold IsPoint; omega)
           · exact enc_len4 _ h
          clear hq hlk hbk
          go_wp2_with (first
           | (at_lookup; refine wpList_lookup_own_ok _ rfl _ _ 237 rfl 21 21 law21 Tryz.underlying237 (plainElem (H := Unit) Tryz.prog 21) (zero21 _) (.lit (.int .i32 0)) [] (plainElem_int Tryz.underlying21 (by decide)) b0 n D rfl hown2 _ _ rfl hkey ?_; rw [hlk1]; intro v ps hv
              clear hv)
           | (go_at_call 183; refine (Tryz.Builder_WriteRune_k B B _ (Utf8.decode s pos).1 (by omega) (by omega) _ hI2 (by rw [Lib.byteCells_length]; omega) (by omega)).mono ?_; rintro e w7 ⟨rfl, hI7, hb7, hk7⟩))
          go_roundw
          case rel =>
           refine ⟨pos + (Utf8.decode s pos).2, acc ++ encodeRune (Utf8.decode s pos).1, ?_, hk7.iter hit2 (by omega), hb2.trans hb7, ?_, hle, HVN.out, ?_⟩
           · rw [Lib.byteCells_append, Lib.byteCells_encodeRune]; exact Or.inr hI7
           · rw [HADD.out, HQ.out, HACC.out]; simp
           · rw [List.length_append]; omega
          case measure =>
           simp only [World.iterPos, hk7.iter hit2 (by omega), hit]
           omega
     · have hnx : ∀ ty, (Instr.next (.pointer (some ⟨w5.heap.size, 0, none⟩)) true ty).run Tryz.prog wr = _ := fun ty => Lib.run_next_end_at wr w5.heap.size s pos ty hit hp
       go_wp2_with (first
        | (go_at_call 182; refine (Tryz.Builder_WriteByte_k B B _ 34 _ hI (by rw [Lib.byteCells_length]; omega) (by omega)).mono ?_; rintro e w6 ⟨rfl, hI6, hb6, hk6⟩
           have hI6' : Lib.IsBuilderF 201 5 B B (Lib.byteCells (acc ++ [34])) w6 := by rw [Lib.byteCells_append]; exact Or.inr hI6
           have hz6 := hb6.size)
        | (go_at_call 135; refine (Tryz.Builder_String_any_k B B (acc ++ [34]) _ hI6' (by omega)).mono ?_; rintro e w7 ⟨rfl, hI7, hb7, hk7⟩))
       refine bodyPost_ret (v := .tuple #[.string ⟨(quoteL s.data.toList).toArray⟩, .int .i64 0]) ?_ rfl ⟨rfl, ((hBw.trans (hb.mono hBz)).trans (hb6.mono hBz)).trans (hb7.mono hBz)⟩
       have hta : s.data.toList.take pos = s.data.toList := List.take_of_length_le (by rw [← Lib.size_eq]; omega)
       simp [results, Tryz.results128, go_sem, hta, quoteL]
  · intro x c w4 cnt4 hwx hwc hlx hat hrg4 hlt hg4 hs4 hen
    have hx := hsub _ hlx
    rw [(escD_has x).1] at hx
    obtain ⟨q, hq⟩ := Option.isSome_iff_exists.1 hx
    have hc := (escD_has x).2
    rw [hat, hq] at hc
    have hcq : c = q := by simpa using hc
    subst hcq
    have hown4 := hown.kept hg4 (by simp; omega)
    have hB4 := hB.grown hg4 hB.size (fun j hj => by cases hj; omega)
    have HS := Lib.hid hsub
    clear hown hB hg4 hat hx hc hsub
    by_cases h47 : c = 47
    · have t47 : (c != 47) = false := by rw [h47]; rfl
      have hp := hBK.pass (x := x) (by rw [hq, h47])
      clear hBK hq h47
      go_wp2
      go_roundw
      case rel => exact ⟨_, cnt4, n, D, hrg4, hown4, by omega, hp, fun kl h => HS.out kl (by simp at h; exact h.1), hB4⟩
      case measure => rw [hrg4.left_eq, hrg.left_eq]; exact hlt
    · have t47 : (c != 47) = true := by simpa using h47
      have hp := hBK.put hq h47
      clear hBK hq h47
      go_wp2_with (first
       | (at_mapUpdate; refine wpList_mapUpdate_own _ rfl _ _ _ 237 rfl 21 21 law21 Tryz.underlying237 (plainElem (H := Unit) Tryz.prog 21) b0 n _ rfl hown4 (by unfold maxLen; omega) _ _ _ rfl rfl (keyOf_int_mk Tryz.underlying21 hwc) _ [] (plainElem_int Tryz.underlying21 hwx) ?_; intro w5 hown5 hg5; go_frame))
      have hrg5 := hrg4.kept hg5 (by simp) (by simp; omega)
      go_roundw
      case rel => exact ⟨_, cnt4, n + 1, _, hrg5, hown5, by omega, hp, fun kl h => HS.out kl (by simp at h; exact h.1), hB4.grown hg5 hB4.size (fun j hj => by cases hj; omega)⟩
      case measure => rw [hrg5.left_eq, hrg.left_eq]; exact hlt
end Go.Proofs.Jt
/- J11: What Quote says is one string: the plain law; Quote as one contract. -/
namespace Go.Proofs.Jt
open Go.RowKit Go.Proofs Go.Lib Go.Proofs.Utf

theorem q_cases : ∀ c : UInt8, (∃ x : UInt8, qByte c = [92, x] ∧ simple x = some c.toNat ∧ c.toNat < 128) ∨ (c.toNat < 32 ∧ qByte c = [92, 117, 48, 48, hexD (c.toNat / 16), hexD (c.toNat % 16)]) ∨ (qByte c = [c] ∧ c ≠ 34 ∧ ¬ c.toNat < 32 ∧ c ≠ 92) := by
 intro c
 unfold qByte
 by_cases h1 : c = 34 ∨ c = 92
 · rw [if_pos h1]
   refine .inl ⟨c, rfl, ?_⟩
   rcases h1 with rfl | rfl <;> decide
 rw [if_neg h1]
 by_cases h2 : c = 8
 · rw [if_pos h2]; subst h2; exact .inl ⟨98, rfl, by decide, by decide⟩
 rw [if_neg h2]
 by_cases h3 : c = 9
 · rw [if_pos h3]; subst h3; exact .inl ⟨116, rfl, by decide, by decide⟩
 rw [if_neg h3]
 by_cases h4 : c = 10
 · rw [if_pos h4]; subst h4; exact .inl ⟨110, rfl, by decide, by decide⟩
 rw [if_neg h4]
 by_cases h5 : c = 12
 · rw [if_pos h5]; subst h5; exact .inl ⟨102, rfl, by decide, by decide⟩
 rw [if_neg h5]
 by_cases h6 : c = 13
 · rw [if_pos h6]; subst h6; exact .inl ⟨114, rfl, by decide, by decide⟩
 rw [if_neg h6]
 by_cases h7 : c.toNat < 32
 · rw [if_pos h7]; exact .inr (.inl ⟨h7, rfl⟩)
 · rw [if_neg h7]; exact .inr (.inr ⟨rfl, fun e => h1 (.inl e), h7, fun e => h1 (.inr e)⟩)
theorem ascii_valid : ∀ (l : List UInt8), (∀ b ∈ l, b.toNat < 128) → validD l = true
 | [], _ => rfl
 | b :: t, h => by
  have hb := h b List.mem_cons_self
  rw [validD_step _ (by simp), decodeL_ascii b t hb]
  simp only [List.drop_succ_cons, List.drop_zero]
  rw [ascii_valid t fun x hx => h x (List.mem_cons_of_mem _ hx), if_neg (by simp; omega)]
theorem qByte_len (c : UInt8) : (qByte c).length ≤ 6 := by
 rcases q_cases c with ⟨x, hq, _⟩ | ⟨_, hq⟩ | ⟨hq, _⟩ <;> rw [hq] <;> simp
theorem flat_len : ∀ l : List UInt8, (l.flatMap qByte).length ≤ 6 * l.length
 | [] => by simp
 | c :: l => by
  have := flat_len l
  have := qByte_len c
  rw [List.flatMap_cons, List.length_append, List.length_cons]
  omega
theorem quote_len (l : List UInt8) : (quoteL l).length ≤ 6 * l.length + 2 := by
 have := flat_len l
 unfold quoteL
 rw [List.length_cons, List.length_append, List.length_singleton]
 omega
set_option maxRecDepth 100000 in
theorem quote_broken (s : ByteArray) (w : World) (hT : Tabs w) (hs : s.size ≤ 16777216) (hv : validD s.data.toList = false) :
 Calls Tryz.prog 128 #[.string s] w fun e w' => e = .returned (.tuple #[.string ⟨#[]⟩, .int .i64 8]) ∧ Below w.heap.size w w' := by
 have hval := Tryz.utf8_ValidString s w (by omega) hT.1
 rw [hv] at hval
 go_enter Tryz.func128, Tryz.ntmps128
 go_wp2_with (first
  | (go_at_call 156; refine hval.mono ?_; rintro e w1 ⟨rfl, hb1⟩))
 go_ret2
 exact ⟨rfl, hb1⟩
/-- what Quote answers -/
theorem quote_any (s : ByteArray) (w : World) (hT : Tabs w) (hs : s.size ≤ 16777216) :
 Calls Tryz.prog 128 #[.string s] w fun e w' => e = .returned (.tuple #[.string ⟨(if validD s.data.toList then quoteL s.data.toList else []).toArray⟩, .int .i64 (if validD s.data.toList then 0 else 8)]) ∧ Below w.heap.size w w' := by
 cases hv : validD s.data.toList with
 | true => exact quote_walk s w hT hs hv
 | false => exact quote_broken s w hT hs hv
end Go.Proofs.Jt
