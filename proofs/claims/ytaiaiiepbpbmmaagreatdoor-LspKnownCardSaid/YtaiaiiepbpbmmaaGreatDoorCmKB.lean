/- Merged texts: LD, LP, LZ, LY, MA, MB, MC. -/
import Derived.Test.YtaiaiiepbpbmmaaGreatDoorCmKA
import Derived.Test.YtaiaiiepbpbmmaaGreatDoorCmJZ
import Derived.Lib.AppendIntMem
/- LD: lsp's reader of fields: name. Printed by gen_ld.py. -/
namespace Go.Proofs.Ls
open Go.RowKit Go.Maps Go.Lib Go.Proofs.Utf Go.Proofs.Jt Go.Proofs

/-- what all functions here ask of the variables -/
structure Env (w : World) : Prop where
  tabs : Tabs w
  rng : ErrV w
  ten : Lib.TabIs Tryz.prog w "internal/strconv.uint64pow10" .u64 Lib.pow10Tab
def kId : List UInt8 := [105, 100]
/-- a text as a string, or none -/
def quoteR (s : List UInt8) : List UInt8 := if validD s then quoteL s else []
/-- an id's text, and whether something was not as it must be -/
def nameR (x : JV) (b : Bool) : List UInt8 × Bool :=
  match intV ((fieldV x kId).getD (jn 0)) with
  | some n => (itoa n, b)
  | none => (quoteR (fldR x kId 4 b).1.str, (fldR x kId 4 b).2 || !validD (fldR x kId 4 b).1.str)
theorem intV_range {x : JV} {n : Int} (h : intV x = some n) : -9223372036854775808 ≤ n ∧ n ≤ 9223372036854775807 := by
  unfold intV at h
  split at h
  · unfold intL at h
    split at h
    · split at h
      · split at h
        · cases h; omega
        · cases h
      · split at h
        · cases h; omega
        · cases h
    · cases h
  · cases h
set_option maxRecDepth 100000 in
set_option maxHeartbeats 8000000 in
theorem name74 {w0 w : World} (HE : ∀ V, Below w0.heap.size w0 V → Env V) (hw : Below w0.heap.size w0 w) {x : JV} {S : ByteArray} {kp ip : Option Addr} {kc ic : Nat} (h : KI w x kp kc ip ic) (hwt : x.wt ≤ 1000000) (hS : (⟨x.str.toArray⟩ : ByteArray) = S) (z : Nat) (hz0 : w0.heap.size ≤ z) (b : Bool) (hz : RB w z b) (s : List UInt8) (b' : Bool) (hn : nameR x b = (s, b')) (R : ByteArray) (hR : (⟨s.toArray⟩ : ByteArray) = R) :
    Calls Tryz.prog 74 #[.pointer (some ⟨z, 0, none⟩), .agg #[.int .i64 x.kind, .string S, .slice kp x.keys.length kc, .slice ip x.items.length ic]] w fun e w' => e = .returned (.string R) ∧ RB w' z b' ∧ w.grownBy w' (some z) := by
  obtain ⟨W, hW⟩ : ∃ W, w.alloc (.cells #[.int .i64 x.kind, .string S, .slice kp x.keys.length kc, .slice ip x.items.length ic] 25) = W := ⟨_, rfl⟩
  have bW := alloc_b hW
  obtain ⟨c0, c1, c2, c3⟩ := box_of hW W (Below.refl _ _)
  have HX := Lib.hid (box_of hW)
  obtain ⟨g, hg⟩ : ∃ g, (fieldV x kId).getD (jn 0) = g := ⟨_, rfl⟩
  obtain ⟨G, hG⟩ : ∃ G : ByteArray, (⟨g.str.toArray⟩ : ByteArray) = G := ⟨_, rfl⟩
  have hgw : g.str.length ≤ 16777216 := by
    have h1 : g.wt ≤ x.wt := by
      rw [← hg]
      cases hq : fieldV x kId with
      | none => exact jv_wt_pos x
      | some y =>
        unfold fieldV at hq
        split at hq
        · have := wt_items hq
          show y.wt ≤ _
          omega
        · cases hq
    have := str_wt g
    omega
  have hfield := fieldA_is (K := ⟨#[105, 100]⟩) (h.stay bW) hwt hS hg rfl hG W (Below.refl _ _)
  obtain ⟨o, ho⟩ : ∃ o, intV g = o := ⟨_, rfl⟩
  have hint : (if g.kind = 3 then intL G.data.toList else none) = o := by rw [← ho, ← hG]; rfl
  have HGS : Hid (G.size ≤ 16777216) := Lib.hid (by rw [← hG, arr_size]; exact hgw)
  unfold nameR at hn
  rw [hg, ho] at hn
  have HI := Lib.hid hint
  have HO := Lib.hid ho
  have HBW := Lib.hid bW
  have HW0 := Lib.hid (Below.on hw bW)
  have HEE := Lib.hid HE
  have HKI : Hid (∀ V, Below W.heap.size W V → KI V x kp kc ip ic) := Lib.hid fun V hV => h.stay (Below.on bW hV)
  have HZ : Hid (∀ V, Below W.heap.size W V → RB V z b) := Lib.hid fun V hV => hz.below (Below.on bW hV)
  have HS := Lib.hid (And.intro hwt hS)
  have HR := Lib.hid hR
  clear h hwt hS hz hg hG bW ho hgw hint hw HE hR
  obtain ⟨isv, hisv⟩ : ∃ b, (fieldV x (⟨#[105, 100]⟩ : ByteArray).data.toList).isSome = b := ⟨_, rfl⟩
  rw [hisv] at hfield
  clear hisv
  cases o with
  | some n =>
    simp only [Prod.mk.injEq] at hn
    obtain ⟨rfl, rfl⟩ := hn
    have hrg := intV_range HO.out
    have HRG := Lib.hid hrg
    clear hrg
    go_enter Tryz.func74, Tryz.ntmps74
    go_wp2_with (first
      | (go_at_call 27; refine hfield.mono ?_; rintro e w1 ⟨fp, fc, gp, gc, rfl, _, _, hb1⟩
         obtain ⟨V1, hV1⟩ : ∃ V, w1.alloc (.cells #[.int .i64 g.kind, .string G, .slice fp g.keys.length fc, .slice gp g.items.length gc] 25) = V := ⟨_, rfl⟩
         have b1 := Below.on hb1 (alloc_b hV1)
         obtain ⟨d0, d1, d2, d3⟩ := box_of hV1 V1 (Below.refl _ _)
         have h29 := int_any (w := V1) (kp := fp) (ip := gp) (kn := g.keys.length) (kc := fc) (n := g.items.length) (ic := gc) g.kind G (HEE.out V1 (Below.on HW0.out b1)).rng HGS.out _ HI.out)
      | (go_at_call 29; refine h29.mono ?_; rintro e w2 ⟨rfl, hb2⟩
         have b2 := Below.on b1 hb2
         have h127 : Calls Tryz.prog 127 #[.int .i64 n, .int .i64 10] w2 fun e w' => e = .returned (.string R) ∧ Below w2.heap.size w2 w' := (by
           refine (Tryz.strconv_FormatInt_10 n HRG.out.1 HRG.out.2 w2 (HEE.out w2 (Below.on HW0.out b2)).ten).mono ?_
           rintro e w' ⟨rfl, k, os, rfl⟩
           exact ⟨by rw [← HR.out], below_grow _ _ (Nat.le_refl _) k os⟩))
      | (go_at_call 127; refine h127.mono ?_; rintro e w3 ⟨rfl, hb3⟩))
    go_ret
    have b3 := Below.on b2 hb3
    exact ⟨rfl, HZ.out w3 b3, gb_of (fr_b (HBW.out.trans (b3.mono HBW.out.size)) (Nat.le_refl _))⟩
  | none =>
    dsimp only at hn
    obtain ⟨f, bf, hf⟩ : ∃ f bf, fldR x kId 4 b = (f, bf) := ⟨_, _, rfl⟩
    obtain ⟨F, hF⟩ : ∃ F : ByteArray, (⟨f.str.toArray⟩ : ByteArray) = F := ⟨_, rfl⟩
    rw [hf] at hn
    simp only [Prod.mk.injEq] at hn
    obtain ⟨rfl, hnb⟩ := hn
    have hfl : F.size ≤ 16777216 := by
      have h1 := fldR_wt x kId 4 b
      rw [hf] at h1
      have h2 := str_wt f
      have h3 : f.wt ≤ x.wt := h1
      have h4 := HS.out.1
      rw [← hF, arr_size]
      omega
    obtain ⟨v, hv⟩ : ∃ v, validD f.str = v := ⟨_, rfl⟩
    have hFv : validD F.data.toList = v := by rw [← hv, ← hF]
    have HFF := Lib.hid (And.intro hf hF)
    have HFL := Lib.hid (And.intro hfl hFv)
    have hRF : (⟨(if validD F.data.toList then quoteL F.data.toList else []).toArray⟩ : ByteArray) = R := by
      rw [← HR.out, ← hF]
      rfl
    have HRF := Lib.hid hRF
    rw [hv] at hnb
    have HNB := Lib.hid hnb
    clear hf hF hfl hv hFv hRF hnb
    go_enter Tryz.func74, Tryz.ntmps74
    go_upto_region 6 with (first
      | (go_at_call 27; refine hfield.mono ?_; rintro e w1 ⟨fp, fc, gp, gc, rfl, _, _, hb1⟩
         obtain ⟨V1, hV1⟩ : ∃ V, w1.alloc (.cells #[.int .i64 g.kind, .string G, .slice fp g.keys.length fc, .slice gp g.items.length gc] 25) = V := ⟨_, rfl⟩
         have b1 := Below.on hb1 (alloc_b hV1)
         obtain ⟨d0, d1, d2, d3⟩ := box_of hV1 V1 (Below.refl _ _)
         have h29 := int_any (w := V1) (kp := fp) (ip := gp) (kn := g.keys.length) (kc := fc) (n := g.items.length) (ic := gc) g.kind G (HEE.out V1 (Below.on HW0.out b1)).rng HGS.out _ HI.out)
      | (go_at_call 29; refine h29.mono ?_; rintro e w2 ⟨rfl, hb2⟩
         have b2 := Below.on b1 hb2
         clear c0 c1 c2 c3
         obtain ⟨c0, c1, c2, c3⟩ := HX.out w2 b2
         have h71 := text71 (HKI.out w2 b2) HS.out.1 HS.out.2 z b (HZ.out w2 b2) ⟨#[105, 100]⟩ f _ HFF.out.1 F HFF.out.2)
      | (go_at_call 71; refine h71.mono ?_; rintro e w3 ⟨rfl, hr3, hg3⟩
         have hb03 := below_gb (Below.on HW0.out b2) hg3 hz0
         have h128 := quote_any F w3 (HEE.out w3 hb03).tabs HFL.out.1
         rw [HFL.out.2] at h128)
      | (go_at_call 128; refine h128.mono ?_; rintro e w4 ⟨rfl, hb4⟩))
    have hr4 := hr3.below hb4
    have q1 := hr4.cell
    have q2 := hr4.fz
    have hrs := hr4.set b'
    obtain ⟨V2, hV2⟩ : ∃ V, w4.setCell ⟨z, 0, none⟩ (.bool b') = V := ⟨_, rfl⟩
    have gs2 := gb_set w4 z 0 (.bool b')
    rw [hV2] at hrs gs2
    have HF : Hid (w.grownBy V2 (some z)) := Lib.hid (gb_of ((((fr_b (HBW.out.trans (b2.mono HBW.out.size)) (Nat.le_refl _)).trans (FrP.of hg3 (.inl rfl))).trans (FrP.of_none (gb_below' hb4))).trans (FrP.of gs2 (.inl rfl))))
    have HRS := Lib.hid hrs
    have hrf := HRF.out
    rw [HFL.out.2] at hrf
    have HRF2 := Lib.hid hrf
    clear hr3 hr4 hg3 hb4 hrs gs2 c0 c1 c2 c3 h71 h29 hfield hrf
    cases bf with
    | true =>
      obtain rfl : true = b' := by rw [← HNB.out]; rfl
      cases v with
      | true =>
        go_wp2_with fail
        go_ret
        exact ⟨congrArg (fun y => Ending.returned (Value.string y)) HRF2.out, HRS.out, HF.out⟩
      | false =>
        go_wp2_with fail
        go_ret
        exact ⟨congrArg (fun y => Ending.returned (Value.string y)) HRF2.out, HRS.out, HF.out⟩
    | false =>
      cases v with
      | true =>
        obtain rfl : false = b' := by rw [← HNB.out]; rfl
        go_wp2_with fail
        go_ret
        exact ⟨congrArg (fun y => Ending.returned (Value.string y)) HRF2.out, HRS.out, HF.out⟩
      | false =>
        obtain rfl : true = b' := by rw [← HNB.out]; rfl
        go_wp2_with fail
        go_ret
        exact ⟨congrArg (fun y => Ending.returned (Value.string y)) HRF2.out, HRS.out, HF.out⟩
end Go.Proofs.Ls
/- LP: What lsp.Note reads, as a plain value. -/
namespace Go.Proofs.Ls
open Go.RowKit Go.Maps Go.Lib Go.Proofs.Utf Go.Proofs.Jt Go.Proofs

/-- a change of a document -/
structure ChV where
  whole : Bool
  a : Int × Int
  b : Int × Int
  text : List UInt8
deriving DecidableEq
/-- what a notification says -/
structure OpV where
  k : Int
  uri : List UInt8
  text : List UInt8
  ver : Int
  ch : List ChV
  id : List UInt8
deriving DecidableEq
def kText : List UInt8 := [116, 101, 120, 116]
def kVersion : List UInt8 := [118, 101, 114, 115, 105, 111, 110]
def kChanges : List UInt8 := [99, 111, 110, 116, 101, 110, 116, 67, 104, 97, 110, 103, 101, 115]
def mOpen : List UInt8 := [116, 101, 120, 116, 68, 111, 99, 117, 109, 101, 110, 116, 47, 100, 105, 100, 79, 112, 101, 110]
def mChange : List UInt8 := [116, 101, 120, 116, 68, 111, 99, 117, 109, 101, 110, 116, 47, 100, 105, 100, 67, 104, 97, 110, 103, 101]
def mClose : List UInt8 := [116, 101, 120, 116, 68, 111, 99, 117, 109, 101, 110, 116, 47, 100, 105, 100, 67, 108, 111, 115, 101]
def mCancel : List UInt8 := [36, 47, 99, 97, 110, 99, 101, 108, 82, 101, 113, 117, 101, 115, 116]
/-- a change, and whether something was not as it must be -/
def chR (y : JV) (b : Bool) : ChV × Bool :=
  if (fieldV y kRange).isSome = true then (⟨false, (spanR y kRange (fldR y kText 4 b).2).1.1, (spanR y kRange (fldR y kText 4 b).2).1.2, (fldR y kText 4 b).1.str⟩, (spanR y kRange (fldR y kText 4 b).2).2)
  else (⟨true, (0, 0), (0, 0), (fldR y kText 4 b).1.str⟩, (fldR y kText 4 b).2)
def chsR : List JV → Bool → List ChV × Bool
  | [], b => ([], b)
  | y :: ys, b => ((chR y b).1 :: (chsR ys (chR y b).2).1, (chsR ys (chR y b).2).2)
/-- what a notification says, and whether something was not as it must be -/
def noteR (m : List UInt8) (x : JV) : OpV × Bool :=
  if m = mOpen then
    let d := fldR x kDoc 6 false
    let u := fldR d.1 kUri 4 d.2
    let t := fldR d.1 kText 4 u.2
    let v := wholeR d.1 kVersion t.2
    (⟨1, u.1.str, t.1.str, v.1, [], []⟩, v.2)
  else if m = mChange then
    let d := fldR x kDoc 6 false
    let u := fldR d.1 kUri 4 d.2
    let v := wholeR d.1 kVersion u.2
    let f := fldR x kChanges 5 v.2
    let c := chsR f.1.items f.2
    (⟨2, u.1.str, [], v.1, c.1, []⟩, c.2)
  else if m = mClose then
    let d := fldR x kDoc 6 false
    let u := fldR d.1 kUri 4 d.2
    (⟨3, u.1.str, [], 0, [], []⟩, u.2)
  else if m = mCancel then
    let n := nameR x false
    (⟨4, [], [], 0, [], n.1⟩, n.2)
  else (⟨0, [], [], 0, [], []⟩, true)
/-- the cells of changes -/
def chC : List ChV → List Value
  | [] => []
  | c :: cs => .bool c.whole :: .int .i64 c.a.1 :: .int .i64 c.a.2 :: .int .i64 c.b.1 :: .int .i64 c.b.2 :: .string ⟨c.text.toArray⟩ :: chC cs
theorem chC_snoc : ∀ (l : List ChV) (c : ChV), chC (l ++ [c]) = chC l ++ [.bool c.whole, .int .i64 c.a.1, .int .i64 c.a.2, .int .i64 c.b.1, .int .i64 c.b.2, .string ⟨c.text.toArray⟩]
  | [], _ => rfl
  | a :: l, c => by simp [chC, chC_snoc l c]
theorem chsR_cons (y : JV) (ys : List JV) (b : Bool) : chsR (y :: ys) b = ((chR y b).1 :: (chsR ys (chR y b).2).1, (chsR ys (chR y b).2).2) := rfl
end Go.Proofs.Ls
/- LZ: lsp.Note at $/cancelRequest. Printed by gen_lz.py. -/
namespace Go.Proofs.Ls
open Go.RowKit Go.Maps Go.Lib Go.Proofs.Utf Go.Proofs.Jt Go.Proofs

theorem cells6 {w : World} {z : Nat} {a b c d e f : Value} {t : TypeId} (hz : w.heap[z]? = some (.cells #[a, b, c, d, e, f] t (0, 0))) : w.cell? ⟨z, 0, none⟩ = some a ∧ w.cell? ⟨z, 1, none⟩ = some b ∧ w.cell? ⟨z, 2, none⟩ = some c ∧ w.cell? ⟨z, 3, none⟩ = some d ∧ w.cell? ⟨z, 4, none⟩ = some e ∧ w.cell? ⟨z, 5, none⟩ = some f := by
  refine ⟨?_, ?_, ?_, ?_, ?_, ?_⟩ <;> simp [World.cell?, hz]
theorem ret_o {fn : Func} {p u : Tmp} (h : fn.results = #[.cell p 31, .tmp u]) {tmps : Array Value} {w : World} {g : Nat} (hp : tmps.getD p undef = .pointer (some ⟨g, 0, none⟩)) {v0 v1 v2 v3 v4 v5 e : Value} (he : tmps.getD u undef = e) (hg : w.heap[g]? = some (.cells #[v0, v1, v2, v3, v4, v5] 31 (0, 0))) :
    (results fn tmps).run Tryz.prog w = .ok (.tuple #[.agg #[v0, v1, v2, v3, v4, v5], e]) w := by
  rw [results_cell_tmp h, hp, he]
  have hl := run_loadVar_row (P := Tryz.prog) w g 31 31 #[v0, v1, v2, v3, v4, v5] (0, 0) _ hg Tryz.underlying31 rfl (by kernel_rfl)
  simp only [asAddr, Sem.run_pure, Result.andThen_ok, hl]
set_option maxRecDepth 100000 in
set_option maxHeartbeats 16000000 in
theorem note_cancel {w : World} (hE : ∀ V, Below w.heap.size w V → Env V) {x : JV} {S : ByteArray} {kp ip : Option Addr} {kc ic : Nat} (h : KI w x kp kc ip ic) (hwt : x.wt ≤ 1000000) (hS : (⟨x.str.toArray⟩ : ByteArray) = S) (s : List UInt8) (bad : Bool) (hn : nameR x false = (s, bad)) (R : ByteArray) (hR : (⟨s.toArray⟩ : ByteArray) = R) :
    Calls Tryz.prog 17 #[.string ⟨#[36, 47, 99, 97, 110, 99, 101, 108, 82, 101, 113, 117, 101, 115, 116]⟩, .agg #[.int .i64 x.kind, .string S, .slice kp x.keys.length kc, .slice ip x.items.length ic]] w fun e w' => e = .returned (.tuple #[if bad = true then .agg #[.int .i64 0, .string ⟨#[]⟩, .string ⟨#[]⟩, .int .i64 0, .slice none 0 0, .string ⟨#[]⟩] else .agg #[.int .i64 4, .string ⟨#[]⟩, .string ⟨#[]⟩, .int .i64 0, .slice none 0 0, .string R], .bool (!bad)]) ∧ Below w.heap.size w w' := by
  obtain ⟨W1, hW1⟩ : ∃ W, w.alloc (.cells #[.int .i64 x.kind, .string S, .slice kp x.keys.length kc, .slice ip x.items.length ic] 25) = W := ⟨_, rfl⟩
  obtain ⟨W2, hW2⟩ : ∃ W, W1.alloc (.cells #[.int .i64 0, .string ⟨#[]⟩, .string ⟨#[]⟩, .int .i64 0, .slice none 0 0, .string ⟨#[]⟩] 31) = W := ⟨_, rfl⟩
  obtain ⟨W3, hW3⟩ : ∃ W, W2.alloc (.cells #[.bool false] 124) = W := ⟨_, rfl⟩
  obtain ⟨W, hW⟩ : ∃ W, W3.alloc (.cells #[.int .i64 0, .string ⟨#[]⟩, .string ⟨#[]⟩, .int .i64 0, .slice none 0 0, .string ⟨#[]⟩] 31) = W := ⟨_, rfl⟩
  have bW1 := alloc_b hW1
  have bW2 := alloc_b hW2
  have bW3 := alloc_b hW3
  have bW4 := alloc_b hW
  have z1 : W1.heap.size = w.heap.size + 1 := by rw [← hW1]; simp
  have z2 : W2.heap.size = w.heap.size + 2 := by rw [← hW2]; simp; omega
  have z3 : W3.heap.size = w.heap.size + 3 := by rw [← hW3]; simp; omega
  have z4 : W.heap.size = w.heap.size + 4 := by rw [← hW]; simp; omega
  have b13 : Below W1.heap.size W1 W := (Below.on bW2 bW3).trans (bW4.mono (by omega))
  obtain ⟨z, hze⟩ : ∃ z, w.heap.size + 2 = z := ⟨_, rfl⟩
  obtain ⟨ob, hoe⟩ : ∃ z, w.heap.size + 3 = z := ⟨_, rfl⟩
  have hr0 : RB W z false := by rw [← hze, ← z2]; exact (bW4.block _ (by omega)).trans (row_at hW3)
  have ho0 : W.heap[ob]? = some (.cells #[.int .i64 0, .string ⟨#[]⟩, .string ⟨#[]⟩, .int .i64 0, .slice none 0 0, .string ⟨#[]⟩] 31 (0, 0)) := by rw [← hoe, ← z3]; exact row_at hW
  have hj0 : W.heap[w.heap.size + 1]? = some (.cells #[.int .i64 0, .string ⟨#[]⟩, .string ⟨#[]⟩, .int .i64 0, .slice none 0 0, .string ⟨#[]⟩] 31 (0, 0)) := by rw [← z1]; exact ((Below.on bW3 bW4).block _ (by omega)).trans (row_at hW2)
  obtain ⟨c0, c1, c2, c3⟩ := box_of hW1 W b13
  have h74 := name74 (w0 := w) hE (Below.on bW1 b13) (h.stay (Below.on bW1 b13)) hwt hS z (by omega) false hr0 s bad hn R hR
  have HB := Lib.hid (Below.on bW1 b13)
  have HO := Lib.hid ho0
  have HJ := Lib.hid hj0
  subst hW1
  clear hE h hwt hS hn hR bW1 bW2 bW3 bW4 b13 hr0 ho0 hj0
  cases bad with
  | true =>
    go_enter Tryz.func17, Tryz.ntmps17
    go_wp2_with (first
      | (go_at_call 74; refine h74.mono ?_; rintro e w1 ⟨rfl, hr1, hg1⟩
         have hs1 := hg1.size
         have ho1 := (hg1.block ob (by omega) (fun e => by have := Option.some.inj e; omega)).trans HO.out
         have hj1 := (hg1.block (w.heap.size + 1) (by omega) (fun e => by have := Option.some.inj e; omega)).trans HJ.out
         have b1 := below_gb HB.out hg1 (by omega))
      | (refine store_part rfl 3 (.tmp 43) (.const (.int .i64 4)) rfl ob 0 (.int .i64 4) [.int .i64 4] rfl rfl rfl (by kernel_rfl) (fun u hu => by rw [List.mem_singleton.1 hu]; rfl) _ #[.int .i64 4, .string ⟨#[]⟩, .string ⟨#[]⟩, .int .i64 0, .slice none 0 0, .string ⟨#[]⟩] 31 ho1 (Nat.le_of_ble_eq_true rfl) rfl (fun V2 hV2 hg2 _ => ?_)
         have hr2 := RB.gb hr1 hg2 (by omega)
         have hj2 := (hg2.block _ (ltS hj1) (fun e => by have := Option.some.inj e; omega)).trans hj1
         have b2 := below_gb b1 hg2 (by omega))
      | (refine store_part rfl 9 (.tmp 44) (.tmp 42) rfl ob 5 (.string R) [.string R] rfl rfl rfl (by kernel_rfl) (fun u hu => by rw [List.mem_singleton.1 hu]; rfl) _ #[.int .i64 4, .string ⟨#[]⟩, .string ⟨#[]⟩, .int .i64 0, .slice none 0 0, .string R] 31 hV2 (Nat.le_of_ble_eq_true rfl) rfl (fun V3 hV3 hg3 _ => ?_)
         have hr3 := RB.gb hr2 hg3 (by omega)
         have hj3 := (hg3.block _ (ltS hj2) (fun e => by have := Option.some.inj e; omega)).trans hj2
         have b3 := below_gb b2 hg3 (by omega)
         have qz := hr3.cell
         obtain ⟨y0, y1, y2, y3, y4, y5⟩ := cells6 hV3)
      | (refine store_part rfl 31 (.tmp 4) (.tmp 47) rfl (w.heap.size + 1) 0 (.agg #[.int .i64 0, .string ⟨#[]⟩, .string ⟨#[]⟩, .int .i64 0, .slice none 0 0, .string ⟨#[]⟩]) [.int .i64 0, .string ⟨#[]⟩, .string ⟨#[]⟩, .int .i64 0, .slice none 0 0, .string ⟨#[]⟩] rfl rfl rfl (by kernel_rfl) (fun u hu => by simp only [List.mem_cons, List.not_mem_nil, or_false] at hu; rcases hu with rfl | rfl | rfl | rfl | rfl | rfl <;> rfl) _ #[.int .i64 0, .string ⟨#[]⟩, .string ⟨#[]⟩, .int .i64 0, .slice none 0 0, .string ⟨#[]⟩] 31 hj3 (Nat.le_of_ble_eq_true rfl) rfl (fun V9 hV9 hg9 _ => ?_)))
    refine bodyPost_ret (ret_o Tryz.results17 rfl rfl hV9) rfl ?_
    exact ⟨rfl, below_gb b3 hg9 (by omega)⟩
  | false =>
    go_enter Tryz.func17, Tryz.ntmps17
    go_wp2_with (first
      | (go_at_call 74; refine h74.mono ?_; rintro e w1 ⟨rfl, hr1, hg1⟩
         have hs1 := hg1.size
         have ho1 := (hg1.block ob (by omega) (fun e => by have := Option.some.inj e; omega)).trans HO.out
         have hj1 := (hg1.block (w.heap.size + 1) (by omega) (fun e => by have := Option.some.inj e; omega)).trans HJ.out
         have b1 := below_gb HB.out hg1 (by omega))
      | (refine store_part rfl 3 (.tmp 43) (.const (.int .i64 4)) rfl ob 0 (.int .i64 4) [.int .i64 4] rfl rfl rfl (by kernel_rfl) (fun u hu => by rw [List.mem_singleton.1 hu]; rfl) _ #[.int .i64 4, .string ⟨#[]⟩, .string ⟨#[]⟩, .int .i64 0, .slice none 0 0, .string ⟨#[]⟩] 31 ho1 (Nat.le_of_ble_eq_true rfl) rfl (fun V2 hV2 hg2 _ => ?_)
         have hr2 := RB.gb hr1 hg2 (by omega)
         have hj2 := (hg2.block _ (ltS hj1) (fun e => by have := Option.some.inj e; omega)).trans hj1
         have b2 := below_gb b1 hg2 (by omega))
      | (refine store_part rfl 9 (.tmp 44) (.tmp 42) rfl ob 5 (.string R) [.string R] rfl rfl rfl (by kernel_rfl) (fun u hu => by rw [List.mem_singleton.1 hu]; rfl) _ #[.int .i64 4, .string ⟨#[]⟩, .string ⟨#[]⟩, .int .i64 0, .slice none 0 0, .string R] 31 hV2 (Nat.le_of_ble_eq_true rfl) rfl (fun V3 hV3 hg3 _ => ?_)
         have hr3 := RB.gb hr2 hg3 (by omega)
         have hj3 := (hg3.block _ (ltS hj2) (fun e => by have := Option.some.inj e; omega)).trans hj2
         have b3 := below_gb b2 hg3 (by omega)
         have qz := hr3.cell
         obtain ⟨y0, y1, y2, y3, y4, y5⟩ := cells6 hV3)
      | (refine store_part rfl 31 (.tmp 4) (.tmp 48) rfl (w.heap.size + 1) 0 (.agg #[.int .i64 4, .string ⟨#[]⟩, .string ⟨#[]⟩, .int .i64 0, .slice none 0 0, .string R]) [.int .i64 4, .string ⟨#[]⟩, .string ⟨#[]⟩, .int .i64 0, .slice none 0 0, .string R] rfl rfl rfl (by kernel_rfl) (fun u hu => by simp only [List.mem_cons, List.not_mem_nil, or_false] at hu; rcases hu with rfl | rfl | rfl | rfl | rfl | rfl <;> rfl) _ #[.int .i64 4, .string ⟨#[]⟩, .string ⟨#[]⟩, .int .i64 0, .slice none 0 0, .string R] 31 hj3 (Nat.le_of_ble_eq_true rfl) rfl (fun V9 hV9 hg9 _ => ?_)))
    refine bodyPost_ret (ret_o Tryz.results17 rfl rfl hV9) rfl ?_
    exact ⟨rfl, below_gb b3 hg9 (by omega)⟩
end Go.Proofs.Ls
/- LY: lsp.Note's closure: the document's name goes into the op. -/
namespace Go.Proofs.Ls
open Go.RowKit Go.Maps Go.Lib Go.Proofs.Utf Go.Proofs.Jt Go.Proofs

set_option maxRecDepth 100000 in
set_option maxHeartbeats 8000000 in
theorem note69 {w : World} {x : JV} {S : ByteArray} {kp ip : Option Addr} {kc ic : Nat} (h : KI w x kp kc ip ic) (hwt : x.wt ≤ 1000000) (hS : (⟨x.str.toArray⟩ : ByteArray) = S) (z : Nat) (b : Bool) (hz : RB w z b) (xb : Nat) (hx : w.heap[xb]? = some (.cells #[.int .i64 x.kind, .string S, .slice kp x.keys.length kc, .slice ip x.items.length ic] 25 (0, 0)))
    (ob : Nat) (o0 o1 o2 o3 o4 o5 : Value) (ho : w.heap[ob]? = some (.cells #[o0, o1, o2, o3, o4, o5] 31 (0, 0))) (ne : ob ≠ z) (d : JV) (b1 : Bool) (hd : fldR x kDoc 6 b = (d, b1)) (D : ByteArray) (hD : (⟨d.str.toArray⟩ : ByteArray) = D) (u : JV) (b2 : Bool) (hu : fldR d kUri 4 b1 = (u, b2)) (U : ByteArray) (hU : (⟨u.str.toArray⟩ : ByteArray) = U) :
    Calls Tryz.prog 69 #[.pointer (some ⟨z, 0, none⟩), .pointer (some ⟨xb, 0, none⟩), .pointer (some ⟨ob, 0, none⟩)] w fun e w' => ∃ fp fc gp gc, e = .returned (.agg #[.int .i64 d.kind, .string D, .slice fp d.keys.length fc, .slice gp d.items.length gc]) ∧ KP w' (w.heap.size ≤ ·) d fp fc gp gc ∧ RB w' z b2 ∧ w'.heap[ob]? = some (.cells #[o0, .string U, o2, o3, o4, o5] 31 (0, 0)) ∧ FrP (fun b => b = z ∨ b = ob ∨ w.heap.size ≤ b) w w' := by
  obtain ⟨W, hW⟩ : ∃ W, w.alloc (.cells #[.int .i64 0, .string ⟨#[]⟩, .slice none 0 0, .slice none 0 0] 25) = W := ⟨_, rfl⟩
  have bW := alloc_b hW
  have z1 : W.heap.size = w.heap.size + 1 := by rw [← hW]; simp
  have hJ : JBox W w.heap.size := by rw [← hW]; exact JBox.alloc _ _ _ _ _
  have hJl := hJ.lt
  have hzl := hz.lt
  have hol := ltS ho
  obtain ⟨c0, c1, c2, c3⟩ := cells4 ((bW.block _ (ltS hx)).trans hx)
  have hwd : d.wt ≤ 1000000 := by have := fldR_wt x kDoc 6 b; rw [hd] at this; exact Nat.le_trans this hwt
  have h70 := field70 (h.stay bW) hwt hS z b (hz.below bW) ⟨#[116, 101, 120, 116, 68, 111, 99, 117, 109, 101, 110, 116]⟩ 6 d b1 hd D hD
  have HO := Lib.hid ((bW.block _ (ltS ho)).trans ho)
  have HJ := Lib.hid hJ
  have HU := Lib.hid (And.intro hwd (And.intro hD (And.intro hu hU)))
  have HBW := Lib.hid bW
  clear h hwt hS hz hx ho hd hD hu hU bW hJ hwd
  go_enter Tryz.func69, Tryz.ntmps69
  go_wp2_with (first
    | (with_reducible (show Calls _ _ _ W _); go_at_call 70; refine h70.mono ?_; rintro e w1 ⟨fp, fc, gp, gc, rfl, hkp, _, hr1, hg1⟩
       obtain ⟨V1, hV1⟩ : ∃ V, w1.alloc (.cells #[.int .i64 d.kind, .string D, .slice fp d.keys.length fc, .slice gp d.items.length gc] 25) = V := ⟨_, rfl⟩
       have hv1 := alloc_b hV1
       have HX := Lib.hid (row_at hV1)
       obtain ⟨d0, d1, d2, d3⟩ := box_of hV1 V1 (Below.refl _ _)
       have hk1 := kp_on' hkp hv1
       have hs1 := hg1.size
       have hs2 := hv1.size
       have ho1 := (hv1.block _ (by omega)).trans ((hg1.block ob (by omega) (fun e => ne (Option.some.inj e))).trans HO.out)
       have hj1 := (HJ.out.same (hg1.block _ HJ.out.lt (fun e => by have := Option.some.inj e; omega)))
       have hj1' := hj1.same (hv1.block _ hj1.lt)
       have h71 := text71 hk1.ki HU.out.1 HU.out.2.1 z b1 (hr1.below hv1) ⟨#[117, 114, 105]⟩ u b2 HU.out.2.2.1 U HU.out.2.2.2)
    | (with_reducible (show Calls _ _ _ V1 _); go_at_call 71; refine h71.mono ?_; rintro e w2 ⟨rfl, hr2, hg2⟩
       have hs3 := hg2.size
       have ho2 := (hg2.block ob (by omega) (fun e => ne (Option.some.inj e))).trans ho1
       have hj2 := hj1'.same (hg2.block _ hj1'.lt (fun e => by have := Option.some.inj e; omega)))
    | (refine store_part rfl 9 (.tmp 9) (.tmp 8) rfl ob 1 (.string U) [.string U] rfl rfl rfl (by kernel_rfl) (fun u hu => by rw [List.mem_singleton.1 hu]; rfl) _ #[o0, .string U, o2, o3, o4, o5] 31 ho2 (Nat.le_of_ble_eq_true rfl) rfl (fun V3 hV3 hg3 hs4 => ?_)
       have hr3 := RB.gb hr2 hg3 ne.symm
       have hj3 := hj2.same (hg3.block _ hj2.lt (fun e => by have := Option.some.inj e; omega))
       clear d0 d1 d2 d3
       obtain ⟨d0, d1, d2, d3⟩ := cells4 ((hg3.block _ (by have := ltS HX.out; omega) (fun e => by have := Option.some.inj e; omega)).trans ((hg2.block _ (ltS HX.out) (fun e => by have := Option.some.inj e; omega)).trans HX.out)))
    | (refine store_val rfl (.tmp 3) (.tmp 10) rfl w.heap.size rfl (.int .i64 d.kind) (.string D) (.slice fp d.keys.length fc) (.slice gp d.items.length gc) rfl rfl hj3 (fun V hV hgV _ => ?_)))
  refine bodyPost_ret (ret_val Tryz.results69 rfl hV) rfl ?_
  have hk2 : KP V (w.heap.size ≤ ·) d fp fc gp gc := (((hk1.fr (FrP.of (P := fun b => b = z) hg2 rfl) (fun b hb e => by omega)).fr (FrP.of (P := fun b => b = ob) hg3 rfl) (fun b hb e => by omega)).fr (FrP.of (P := fun b => b = w.heap.size) hgV rfl) (fun b hb e => by omega)).keep (Nat.le_refl _) (fun _ _ _ => rfl) (fun b hb _ => by omega)
  refine ⟨fp, fc, gp, gc, rfl, hk2, RB.gb hr3 hgV (by omega), (hgV.block ob (by have := ltS hV3; omega) (fun e => by have := Option.some.inj e; omega)).trans hV3, ?_⟩
  exact (((((FrP.of_none (gb_below' HBW.out)).trans (FrP.of hg1 (.inl rfl))).trans (FrP.of_none (gb_below' hv1))).trans (FrP.of hg2 (.inl rfl))).trans (FrP.of hg3 (.inr (.inl rfl)))).trans (FrP.of hgV (.inr (.inr (Nat.le_refl _))))
end Go.Proofs.Ls
/- MA: lsp.Note at didClose. Printed by gen_ma.py. -/
namespace Go.Proofs.Ls
open Go.RowKit Go.Maps Go.Lib Go.Proofs.Utf Go.Proofs.Jt Go.Proofs

set_option maxRecDepth 100000 in
set_option maxHeartbeats 16000000 in
theorem note_close {w : World} {x : JV} {S : ByteArray} {kp ip : Option Addr} {kc ic : Nat} (h : KI w x kp kc ip ic) (hwt : x.wt ≤ 1000000) (hS : (⟨x.str.toArray⟩ : ByteArray) = S) (d : JV) (b1 : Bool) (hd : fldR x kDoc 6 false = (d, b1)) (u : JV) (bad : Bool) (hu : fldR d kUri 4 b1 = (u, bad)) (U : ByteArray) (hU : (⟨u.str.toArray⟩ : ByteArray) = U) :
    Calls Tryz.prog 17 #[.string ⟨#[116, 101, 120, 116, 68, 111, 99, 117, 109, 101, 110, 116, 47, 100, 105, 100, 67, 108, 111, 115, 101]⟩, .agg #[.int .i64 x.kind, .string S, .slice kp x.keys.length kc, .slice ip x.items.length ic]] w fun e w' => e = .returned (.tuple #[if bad = true then .agg #[.int .i64 0, .string ⟨#[]⟩, .string ⟨#[]⟩, .int .i64 0, .slice none 0 0, .string ⟨#[]⟩] else .agg #[.int .i64 3, .string U, .string ⟨#[]⟩, .int .i64 0, .slice none 0 0, .string ⟨#[]⟩], .bool (!bad)]) ∧ Below w.heap.size w w' := by
  obtain ⟨W1, hW1⟩ : ∃ W, w.alloc (.cells #[.int .i64 x.kind, .string S, .slice kp x.keys.length kc, .slice ip x.items.length ic] 25) = W := ⟨_, rfl⟩
  obtain ⟨W2, hW2⟩ : ∃ W, W1.alloc (.cells #[.int .i64 0, .string ⟨#[]⟩, .string ⟨#[]⟩, .int .i64 0, .slice none 0 0, .string ⟨#[]⟩] 31) = W := ⟨_, rfl⟩
  obtain ⟨W3, hW3⟩ : ∃ W, W2.alloc (.cells #[.bool false] 124) = W := ⟨_, rfl⟩
  obtain ⟨W, hW⟩ : ∃ W, W3.alloc (.cells #[.int .i64 0, .string ⟨#[]⟩, .string ⟨#[]⟩, .int .i64 0, .slice none 0 0, .string ⟨#[]⟩] 31) = W := ⟨_, rfl⟩
  have bW1 := alloc_b hW1
  have bW2 := alloc_b hW2
  have bW3 := alloc_b hW3
  have bW4 := alloc_b hW
  have z1 : W1.heap.size = w.heap.size + 1 := by rw [← hW1]; simp
  have z2 : W2.heap.size = w.heap.size + 2 := by rw [← hW2]; simp; omega
  have z3 : W3.heap.size = w.heap.size + 3 := by rw [← hW3]; simp; omega
  have z4 : W.heap.size = w.heap.size + 4 := by rw [← hW]; simp; omega
  have b13 : Below W1.heap.size W1 W := (Below.on bW2 bW3).trans (bW4.mono (by omega))
  obtain ⟨z, hze⟩ : ∃ z, w.heap.size + 2 = z := ⟨_, rfl⟩
  obtain ⟨ob, hoe⟩ : ∃ z, w.heap.size + 3 = z := ⟨_, rfl⟩
  have hr0 : RB W z false := by rw [← hze, ← z2]; exact (bW4.block _ (by omega)).trans (row_at hW3)
  have ho0 : W.heap[ob]? = some (.cells #[.int .i64 0, .string ⟨#[]⟩, .string ⟨#[]⟩, .int .i64 0, .slice none 0 0, .string ⟨#[]⟩] 31 (0, 0)) := by rw [← hoe, ← z3]; exact row_at hW
  have hj0 : W.heap[w.heap.size + 1]? = some (.cells #[.int .i64 0, .string ⟨#[]⟩, .string ⟨#[]⟩, .int .i64 0, .slice none 0 0, .string ⟨#[]⟩] 31 (0, 0)) := by rw [← z1]; exact ((Below.on bW3 bW4).block _ (by omega)).trans (row_at hW2)
  obtain ⟨c0, c1, c2, c3⟩ := box_of hW1 W b13
  obtain ⟨D, hD⟩ : ∃ B : ByteArray, (⟨d.str.toArray⟩ : ByteArray) = B := ⟨_, rfl⟩
  have hx0 := (b13.block _ (by omega)).trans (row_at hW1)
  have h69 := note69 (h.stay (Below.on bW1 b13)) hwt hS z false hr0 w.heap.size hx0 ob _ _ _ _ _ _ ho0 (by omega) d b1 hd D hD u bad hu U hU
  have HB := Lib.hid (Below.on bW1 b13)
  have HO := Lib.hid ho0
  have HJ := Lib.hid hj0
  subst hW1
  clear h hwt hS hd hu hU hx0 hD bW1 bW2 bW3 bW4 b13 hr0 ho0 hj0
  cases bad with
  | true =>
    go_enter Tryz.func17, Tryz.ntmps17
    go_wp2_with (first
      | (go_at_call 69; refine h69.mono ?_; rintro e w1 ⟨fp, fc, gp, gc, rfl, _, hr1, ho1, hf1⟩
         have hj1 := (hf1.block (w.heap.size + 1) (by omega) (fun hk => by rcases hk with hk | hk | hk <;> omega)).trans HJ.out
         have b1 := below_fr HB.out (Nat.le_refl _) hf1 (fun k hk => by rcases hk with hk | hk | hk <;> omega))
      | (refine store_part rfl 3 (.tmp 38) (.const (.int .i64 3)) rfl ob 0 (.int .i64 3) [.int .i64 3] rfl rfl rfl (by kernel_rfl) (fun u hu => by rw [List.mem_singleton.1 hu]; rfl) _ #[.int .i64 3, .string U, .string ⟨#[]⟩, .int .i64 0, .slice none 0 0, .string ⟨#[]⟩] 31 ho1 (Nat.le_of_ble_eq_true rfl) rfl (fun V3 hV3 hg3 _ => ?_)
         have hr3 := RB.gb hr1 hg3 (by omega)
         have hj3 := (hg3.block _ (ltS hj1) (fun e => by have := Option.some.inj e; omega)).trans hj1
         have b3 := below_gb b1 hg3 (by omega)
         have qz := hr3.cell
         obtain ⟨y0, y1, y2, y3, y4, y5⟩ := cells6 hV3)
      | (refine store_part rfl 31 (.tmp 4) (.tmp 47) rfl (w.heap.size + 1) 0 (.agg #[.int .i64 0, .string ⟨#[]⟩, .string ⟨#[]⟩, .int .i64 0, .slice none 0 0, .string ⟨#[]⟩]) [.int .i64 0, .string ⟨#[]⟩, .string ⟨#[]⟩, .int .i64 0, .slice none 0 0, .string ⟨#[]⟩] rfl rfl rfl (by kernel_rfl) (fun u hu => by simp only [List.mem_cons, List.not_mem_nil, or_false] at hu; rcases hu with rfl | rfl | rfl | rfl | rfl | rfl <;> rfl) _ #[.int .i64 0, .string ⟨#[]⟩, .string ⟨#[]⟩, .int .i64 0, .slice none 0 0, .string ⟨#[]⟩] 31 hj3 (Nat.le_of_ble_eq_true rfl) rfl (fun V9 hV9 hg9 _ => ?_)))
    refine bodyPost_ret (ret_o Tryz.results17 rfl rfl hV9) rfl ?_
    exact ⟨rfl, below_gb b3 hg9 (by omega)⟩
  | false =>
    go_enter Tryz.func17, Tryz.ntmps17
    go_wp2_with (first
      | (go_at_call 69; refine h69.mono ?_; rintro e w1 ⟨fp, fc, gp, gc, rfl, _, hr1, ho1, hf1⟩
         have hj1 := (hf1.block (w.heap.size + 1) (by omega) (fun hk => by rcases hk with hk | hk | hk <;> omega)).trans HJ.out
         have b1 := below_fr HB.out (Nat.le_refl _) hf1 (fun k hk => by rcases hk with hk | hk | hk <;> omega))
      | (refine store_part rfl 3 (.tmp 38) (.const (.int .i64 3)) rfl ob 0 (.int .i64 3) [.int .i64 3] rfl rfl rfl (by kernel_rfl) (fun u hu => by rw [List.mem_singleton.1 hu]; rfl) _ #[.int .i64 3, .string U, .string ⟨#[]⟩, .int .i64 0, .slice none 0 0, .string ⟨#[]⟩] 31 ho1 (Nat.le_of_ble_eq_true rfl) rfl (fun V3 hV3 hg3 _ => ?_)
         have hr3 := RB.gb hr1 hg3 (by omega)
         have hj3 := (hg3.block _ (ltS hj1) (fun e => by have := Option.some.inj e; omega)).trans hj1
         have b3 := below_gb b1 hg3 (by omega)
         have qz := hr3.cell
         obtain ⟨y0, y1, y2, y3, y4, y5⟩ := cells6 hV3)
      | (refine store_part rfl 31 (.tmp 4) (.tmp 48) rfl (w.heap.size + 1) 0 (.agg #[.int .i64 3, .string U, .string ⟨#[]⟩, .int .i64 0, .slice none 0 0, .string ⟨#[]⟩]) [.int .i64 3, .string U, .string ⟨#[]⟩, .int .i64 0, .slice none 0 0, .string ⟨#[]⟩] rfl rfl rfl (by kernel_rfl) (fun u hu => by simp only [List.mem_cons, List.not_mem_nil, or_false] at hu; rcases hu with rfl | rfl | rfl | rfl | rfl | rfl <;> rfl) _ #[.int .i64 3, .string U, .string ⟨#[]⟩, .int .i64 0, .slice none 0 0, .string ⟨#[]⟩] 31 hj3 (Nat.le_of_ble_eq_true rfl) rfl (fun V9 hV9 hg9 _ => ?_)))
    refine bodyPost_ret (ret_o Tryz.results17 rfl rfl hV9) rfl ?_
    exact ⟨rfl, below_gb b3 hg9 (by omega)⟩
end Go.Proofs.Ls
/- MB: lsp.Note at any other method. Printed by gen_mb.py. -/
namespace Go.Proofs.Ls
open Go.RowKit Go.Maps Go.Lib Go.Proofs.Utf Go.Proofs.Jt Go.Proofs

set_option maxRecDepth 100000 in
set_option maxHeartbeats 16000000 in
theorem note_other {w : World} {x : JV} {S : ByteArray} {kp ip : Option Addr} {kc ic : Nat} (M : ByteArray) (m1 : (M.toList == ([116, 101, 120, 116, 68, 111, 99, 117, 109, 101, 110, 116, 47, 100, 105, 100, 79, 112, 101, 110] : List UInt8)) = false) (m2 : (M.toList == ([116, 101, 120, 116, 68, 111, 99, 117, 109, 101, 110, 116, 47, 100, 105, 100, 67, 104, 97, 110, 103, 101] : List UInt8)) = false) (m3 : (M.toList == ([116, 101, 120, 116, 68, 111, 99, 117, 109, 101, 110, 116, 47, 100, 105, 100, 67, 108, 111, 115, 101] : List UInt8)) = false) (m4 : (M.toList == ([36, 47, 99, 97, 110, 99, 101, 108, 82, 101, 113, 117, 101, 115, 116] : List UInt8)) = false) :
    Calls Tryz.prog 17 #[.string M, .agg #[.int .i64 x.kind, .string S, .slice kp x.keys.length kc, .slice ip x.items.length ic]] w fun e w' => e = .returned (.tuple #[.agg #[.int .i64 0, .string ⟨#[]⟩, .string ⟨#[]⟩, .int .i64 0, .slice none 0 0, .string ⟨#[]⟩], .bool false]) ∧ Below w.heap.size w w' := by
  obtain ⟨W1, hW1⟩ : ∃ W, w.alloc (.cells #[.int .i64 x.kind, .string S, .slice kp x.keys.length kc, .slice ip x.items.length ic] 25) = W := ⟨_, rfl⟩
  obtain ⟨W2, hW2⟩ : ∃ W, W1.alloc (.cells #[.int .i64 0, .string ⟨#[]⟩, .string ⟨#[]⟩, .int .i64 0, .slice none 0 0, .string ⟨#[]⟩] 31) = W := ⟨_, rfl⟩
  obtain ⟨W3, hW3⟩ : ∃ W, W2.alloc (.cells #[.bool false] 124) = W := ⟨_, rfl⟩
  obtain ⟨W, hW⟩ : ∃ W, W3.alloc (.cells #[.int .i64 0, .string ⟨#[]⟩, .string ⟨#[]⟩, .int .i64 0, .slice none 0 0, .string ⟨#[]⟩] 31) = W := ⟨_, rfl⟩
  have bW1 := alloc_b hW1
  have bW2 := alloc_b hW2
  have bW3 := alloc_b hW3
  have bW4 := alloc_b hW
  have z1 : W1.heap.size = w.heap.size + 1 := by rw [← hW1]; simp
  have z2 : W2.heap.size = w.heap.size + 2 := by rw [← hW2]; simp; omega
  have z3 : W3.heap.size = w.heap.size + 3 := by rw [← hW3]; simp; omega
  have z4 : W.heap.size = w.heap.size + 4 := by rw [← hW]; simp; omega
  have b13 : Below W1.heap.size W1 W := (Below.on bW2 bW3).trans (bW4.mono (by omega))
  obtain ⟨z, hze⟩ : ∃ z, w.heap.size + 2 = z := ⟨_, rfl⟩
  obtain ⟨ob, hoe⟩ : ∃ z, w.heap.size + 3 = z := ⟨_, rfl⟩
  have hr0 : RB W z false := by rw [← hze, ← z2]; exact (bW4.block _ (by omega)).trans (row_at hW3)
  have ho0 : W.heap[ob]? = some (.cells #[.int .i64 0, .string ⟨#[]⟩, .string ⟨#[]⟩, .int .i64 0, .slice none 0 0, .string ⟨#[]⟩] 31 (0, 0)) := by rw [← hoe, ← z3]; exact row_at hW
  have hj0 : W.heap[w.heap.size + 1]? = some (.cells #[.int .i64 0, .string ⟨#[]⟩, .string ⟨#[]⟩, .int .i64 0, .slice none 0 0, .string ⟨#[]⟩] 31 (0, 0)) := by rw [← z1]; exact ((Below.on bW3 bW4).block _ (by omega)).trans (row_at hW2)
  obtain ⟨c0, c1, c2, c3⟩ := box_of hW1 W b13
  have HB := Lib.hid (Below.on bW1 b13)
  have HO := Lib.hid ho0
  have HJ := Lib.hid hj0
  subst hW1
  clear bW1 bW2 bW3 bW4 b13 ho0 hj0
  have q1 := hr0.cell
  go_enter Tryz.func17, Tryz.ntmps17
  go_wp2_with (first
    | (refine store_part rfl 4 (.tmp 12) (.const (.bool true)) rfl z 0 (.bool true) [.bool true] rfl rfl rfl (by kernel_rfl) (fun u hu => by rw [List.mem_singleton.1 hu]; rfl) _ #[.bool true] 124 hr0 (Nat.le_of_ble_eq_true rfl) rfl (fun V3 hV3 hg3 _ => ?_)
       have qz : V3.cell? ⟨z, 0, none⟩ = some (.bool true) := RB.cell hV3
       have hj3 := (hg3.block _ (ltS HJ.out) (fun e => by have := Option.some.inj e; omega)).trans HJ.out
       have b3 := below_gb HB.out hg3 (by omega))
    | (refine store_part rfl 31 (.tmp 4) (.tmp 47) rfl (w.heap.size + 1) 0 (.agg #[.int .i64 0, .string ⟨#[]⟩, .string ⟨#[]⟩, .int .i64 0, .slice none 0 0, .string ⟨#[]⟩]) [.int .i64 0, .string ⟨#[]⟩, .string ⟨#[]⟩, .int .i64 0, .slice none 0 0, .string ⟨#[]⟩] rfl rfl rfl (by kernel_rfl) (fun u hu => by simp only [List.mem_cons, List.not_mem_nil, or_false] at hu; rcases hu with rfl | rfl | rfl | rfl | rfl | rfl <;> rfl) _ #[.int .i64 0, .string ⟨#[]⟩, .string ⟨#[]⟩, .int .i64 0, .slice none 0 0, .string ⟨#[]⟩] 31 hj3 (Nat.le_of_ble_eq_true rfl) rfl (fun V9 hV9 hg9 _ => ?_)))
  refine bodyPost_ret (ret_o Tryz.results17 rfl rfl hV9) rfl ?_
  exact ⟨rfl, below_gb b3 hg9 (by omega)⟩
end Go.Proofs.Ls
/- MC: lsp's reader of fields: changes. Printed by gen_mc.py. -/
namespace Go.Proofs.Ls
open Go.RowKit Go.Maps Go.Lib Go.Proofs.Utf Go.Proofs.Jt Go.Proofs

theorem field_items (k : Int) (F : ByteArray) (fp gp : Option Addr) (a b c d : Nat) (V : World) : (Instr.field 25 (.agg #[.int .i64 k, .string F, .slice fp a b, .slice gp c d]) 3).run Tryz.prog V = .ok (.slice gp c d) V := by kernel_rfl
theorem info117 : (Tryz.prog.info? 117).map (fun i => (i.zero, i.size, i.bytes)) = some (some (.agg #[.bool false, .int .i64 0, .int .i64 0, .int .i64 0, .int .i64 0, .string ⟨#[]⟩]), 6, 56) := by kernel_rfl
theorem kp_item {w : World} {P : Nat → Prop} {x : JV} {kp ip : Option Addr} {kc ic : Nat} (h : KP w P x kp kc ip ic) {i : Nat} {y : JV} (hy : x.items[i]? = some y) : y.str.length ≤ maxLen ∧ ∃ a k2 kc2 i2 ic2, ip = some a ∧ JC w (a.add (i * 4)) y k2 kc2 i2 ic2 ∧ KP w P y k2 kc2 i2 ic2 := by
  cases h with
  | mk _ _ _ _ _ fp fc gp gc hk hkP hz hi hiP hh =>
    obtain ⟨h1, a, h2, h3⟩ := hi i y hy
    exact ⟨h1, a, _, _, _, _, h2, h3, hh i y hy⟩
theorem cells_new (w : World) (C : List Value) (t : TypeId) (V : World) (hV : w.alloc (.cells C.toArray t) = V) : ∀ (j : Nat) (u : Value), C[j]? = some u → V.cell? ((⟨w.heap.size, 0, none⟩ : Addr).add j) = some u := by
  subst hV
  exact cells_at_new w C t _ rfl
theorem chC_own {w : World} {B n : Nat} {v : Value} {l : List ChV} {c : ChV} (h : w.ownsRow B 117 6 v (l.length + 1) (chC l ++ [.bool c.whole, .int .i64 c.a.1, .int .i64 c.a.2, .int .i64 c.b.1, .int .i64 c.b.2, .string ⟨c.text.toArray⟩])) (hn : n = l.length + 1) : w.ownsRow B 117 6 v n (chC (l ++ [c])) := by
  rw [chC_snoc, hn]
  exact h
theorem wtL_le (x : JV) : wtL x.items ≤ x.wt := by
  cases x
  rw [JV.wt]
  simp only [items_mk]
  omega
theorem gb_then {a b c : World} {z : Nat} (h : a.grownBy b (some z)) (k : b.grownBy c none) : a.grownBy c (some z) := ((FrP.of (P := fun q => q = z) h rfl).trans (FrP.of_none k)).gb fun _ _ e => e
theorem gb_of3 {a b c d : World} {z : Nat} (h : a.grownBy b (some z)) (k : Below b.heap.size b c) (l : c.grownBy d (some z)) : a.grownBy d (some z) := (((FrP.of (P := fun q => q = z) h rfl).trans (FrP.of_none (gb_below' k))).trans (FrP.of l rfl)).gb fun _ _ e => e
theorem row_low {w : World} {B B' e size n : Nat} {v : Value} {xs : List Value} (h : w.ownsRow B e size v n xs) (hb : B' ≤ B) : w.ownsRow B' e size v n xs := by
  refine ⟨h.1, ?_⟩
  rcases h.2 with h | ⟨g, cap, cur, h1, h2, h3⟩
  · exact .inl h
  · exact .inr ⟨g, cap, cur, h1, Nat.le_trans hb h2, h3⟩
set_option maxRecDepth 100000 in
set_option maxHeartbeats 16000000 in
theorem changes73 {w0 w : World} (HE : ∀ V, Below w0.heap.size w0 V → ErrV V) (hw : Below w0.heap.size w0 w) {x : JV} {S : ByteArray} {kp ip : Option Addr} {kc ic : Nat} (h : KI w x kp kc ip ic) (hwt : x.wt ≤ 1000000) (hS : (⟨x.str.toArray⟩ : ByteArray) = S) (z : Nat) (hz0 : w0.heap.size ≤ z) (b : Bool) (hz : RB w z b) (f : JV) (b1 : Bool) (hf : fldR x kChanges 5 b = (f, b1)) (cs : List ChV) (b' : Bool) (hc : chsR f.items b1 = (cs, b')) :
    Calls Tryz.prog 73 #[.pointer (some ⟨z, 0, none⟩), .agg #[.int .i64 x.kind, .string S, .slice kp x.keys.length kc, .slice ip x.items.length ic]] w fun e w' => ∃ p c, e = .returned (.slice p cs.length c) ∧ w'.ownsRow w.heap.size 117 6 (.slice p cs.length c) cs.length (chC cs) ∧ RB w' z b' ∧ w.grownBy w' (some z) := by
  obtain ⟨W, hW⟩ : ∃ W, w.alloc (.cells #[.int .i64 x.kind, .string S, .slice kp x.keys.length kc, .slice ip x.items.length ic] 25) = W := ⟨_, rfl⟩
  have bW := alloc_b hW
  have hzl := hz.lt
  have hsW : W.heap.size = w.heap.size + 1 := by rw [← hW]; simp
  obtain ⟨c0, c1, c2, c3⟩ := box_of hW W (Below.refl _ _)
  obtain ⟨F, hF⟩ : ∃ B : ByteArray, (⟨f.str.toArray⟩ : ByteArray) = B := ⟨_, rfl⟩
  have hwf : f.wt ≤ 1000000 := by have := fldR_wt x kChanges 5 b; rw [hf] at this; exact Nat.le_trans this hwt
  have h70 := field70 (h.stay bW) hwt hS z b (hz.below bW) ⟨#[99, 111, 110, 116, 101, 110, 116, 67, 104, 97, 110, 103, 101, 115]⟩ 5 f b1 hf F hF
  have hfn : f.items.length ≤ 1000000 := by have := items_len f.items; have := wtL_le f; omega
  have HWI : Hid (∀ (i : Nat) (y : JV), f.items[i]? = some y → y.wt ≤ 1000000) := Lib.hid fun i y hy => by have := wt_items hy; omega
  have HBW := Lib.hid bW
  have HWW := Lib.hid (Below.on hw bW)
  have HEV := Lib.hid HE
  have HC := Lib.hid hc
  clear h hwt hS hz hF hf hw HE hc bW
  go_enter Tryz.func73, Tryz.ntmps73
  go_wp2_with (first
    | (go_at_call 70; refine h70.mono ?_; rintro e w1 ⟨fp, fc, gp, gc, rfl, hkp, _, hr1, hg1⟩; have hx := field_items f.kind F fp gp f.keys.length fc f.items.length gc))
  have hs1 := hg1.size
  have HKP : Hid (∀ V, w1.grownBy V (some z) → KP V (w.heap.size + 1 ≤ ·) f fp fc gp gc) := Lib.hid fun V hV => by rw [hsW] at hkp; exact hkp.grown hV (fun q hq e => by have := Option.some.inj e; omega)
  have HB1 : Hid (∀ V, w1.grownBy V (some z) → Below w0.heap.size w0 V) := Lib.hid fun V hV => below_gb (below_gb HWW.out hg1 hz0) hV hz0
  have HG1 := Lib.hid hg1
  clear c0 c1 c2 c3 hkp h70 hg1
  go_loopw [5, 16] (fun lv iv wr => ∃ (i : Nat) (l : List ChV) (bb : Bool), iv = .int .i64 i ∧ i ≤ f.items.length ∧ l.length = i ∧ wr.ownsRow w1.heap.size 117 6 lv l.length (chC l) ∧ RB wr z bb ∧ w1.grownBy wr (some z) ∧ (l ++ (chsR (f.items.drop i) bb).1, (chsR (f.items.drop i) bb).2) = (cs, b')) (fun _ iv _ => f.items.length - (RowKit.intOf iv).toNat)
  case atStart => exact ⟨0, [], b1, rfl, Nat.zero_le _, rfl, World.ownsRow_nil _ _ _ _, hr1, World.grownBy.refl _ _, HC.out⟩
  case round =>
    obtain ⟨_, l, bb, rfl, hi, rfl, hown, hr, hg, hch⟩ := hrel
    have HCH := Lib.hid hch
    clear hch hr1
    by_cases hin : (l.length : Int) < (f.items.length : Int)
    · obtain ⟨y, hy⟩ : ∃ y, f.items[l.length]? = some y := ⟨_, List.getElem?_eq_getElem (by omega)⟩
      obtain ⟨hyl, a, k2, kc2, i2, ic2, rfl, hjc, hky⟩ := kp_item (HKP.out wr hg) hy
      obtain ⟨g0, g1, g2, g3, hab⟩ := hjc
      have hwy := HWI.out _ y hy
      have hch := HCH.out
      rw [drop_cons hy, chsR_cons] at hch
      obtain ⟨Y, hY⟩ : ∃ Y : ByteArray, (⟨y.str.toArray⟩ : ByteArray) = Y := ⟨_, rfl⟩
      rw [hY] at g1
      obtain ⟨wa, hwa⟩ : ∃ wa, wr.alloc (.cells #[.int .i64 y.kind, .string Y, .slice k2 y.keys.length kc2, .slice i2 y.items.length ic2] 25) = wa := ⟨_, rfl⟩
      have hra := alloc_b hwa
      have hsa : wa.heap.size = wr.heap.size + 1 := by rw [← hwa]; simp
      have hbx := row_at hwa
      obtain ⟨n0, n1, n2, n3⟩ := box_of hwa wa (Below.refl _ _)
      have hsr := hg.size
      obtain ⟨t, bt, ht⟩ : ∃ t bt, fldR y kText 4 bb = (t, bt) := ⟨_, _, rfl⟩
      obtain ⟨T, hT⟩ : ∃ B : ByteArray, (⟨t.str.toArray⟩ : ByteArray) = B := ⟨_, rfl⟩
      have hka := kp_on' hky hra
      have h71 := text71 hka.ki hwy hY z bb (hr.below hra) ⟨#[116, 101, 120, 116]⟩ t bt ht T hT
      obtain ⟨o, ho⟩ : ∃ o, fieldV y kRange = o := ⟨_, rfl⟩
      obtain ⟨g, hgg⟩ : ∃ g, o.getD (jn 0) = g := ⟨_, rfl⟩
      obtain ⟨G, hG⟩ : ∃ B : ByteArray, (⟨g.str.toArray⟩ : ByteArray) = B := ⟨_, rfl⟩
      have HFO : Hid (∀ V, wa.grownBy V (some z) → Calls Tryz.prog 27 #[.agg #[.int .i64 y.kind, .string Y, .slice k2 y.keys.length kc2, .slice i2 y.items.length ic2], .string ⟨#[114, 97, 110, 103, 101]⟩] V fun e w'' => ∃ fp fc gp gc, e = .returned (.tuple #[.agg #[.int .i64 g.kind, .string G, .slice fp g.keys.length fc, .slice gp g.items.length gc], .bool o.isSome]) ∧ KP w'' (V.heap.size ≤ ·) g fp fc gp gc ∧ g.str.length ≤ maxLen ∧ Below V.heap.size V w'') := Lib.hid fun V hV => fieldA_is (hka.grown hV (fun q hq e => by have := Option.some.inj e; omega)).ki hwy hY (by rw [show (⟨#[114, 97, 110, 103, 101]⟩ : ByteArray).data.toList = kRange from rfl, ho]; exact hgg) (by rw [show (⟨#[114, 97, 110, 103, 101]⟩ : ByteArray).data.toList = kRange from rfl, ho]) hG V (Below.refl _ _)
      have HKA : Hid (∀ V, wa.grownBy V (some z) → KI V y k2 kc2 i2 ic2) := Lib.hid fun V hV => (hka.grown hV (fun q hq e => by have := Option.some.inj e; omega)).ki
      have HWY := Lib.hid (And.intro hwy hY)
      have HBX := Lib.hid hbx
      have HRA := Lib.hid hra
      have HG := Lib.hid hg
      have HOWN := Lib.hid hown
      have HTT := Lib.hid hT
      obtain ⟨pl, cl, rfl⟩ := row_shape hown
      obtain ⟨i117_, hi117, hz0', hz1', hz2'⟩ := info_parts info117
      have hsm : l.length ≤ 1000000 := by omega
      clear hyl hky hbx hra hka hY hT hwy hr hy hg
      cases o with
      | none =>
        have hcR : chR y bb = (⟨true, (0, 0), (0, 0), t.str⟩, bt) := by
          unfold chR
          rw [ho, if_neg (by decide), ht]
        rw [hcR] at hch
        dsimp only at hch
        rw [← List.singleton_append, ← List.append_assoc] at hch
        have HCN := Lib.hid hch
        clear ho hch hcR ht
        go_wp2_with (first
          | (with_reducible (show Calls _ _ _ wa _); go_at_call 71; refine h71.mono ?_; rintro e w2 ⟨rfl, hr2, hg2⟩
             obtain ⟨V2, hV2⟩ : ∃ V, w2.alloc (.cells #[.bool false, .int .i64 0, .int .i64 0, .int .i64 0, .int .i64 0, .string T] 117) = V := ⟨_, rfl⟩
             have hv2 := alloc_b hV2
             have hsv2 : V2.heap.size = w2.heap.size + 1 := by rw [← hV2]; simp
             have hcb := row_at hV2
             have hs2 := hg2.size
             have hgv2 : wa.grownBy V2 (some z) := gb_then hg2 (gb_below' hv2)
             have hbx2 := (hgv2.block wr.heap.size (by omega) (fun e => by have := Option.some.inj e; omega)).trans HBX.out
             obtain ⟨d0, d1, d2, d3⟩ := cells4 hbx2
             have hf27 := HFO.out V2 hgv2)
          | (go_at_call 27; refine hf27.mono ?_; rintro e w3 ⟨k3, kc3, i3, ic3, rfl, _, _, hb3⟩
             obtain ⟨V3, hV3⟩ : ∃ V, w3.alloc (.cells #[.int .i64 g.kind, .string G, .slice k3 g.keys.length kc3, .slice i3 g.items.length ic3] 25) = V := ⟨_, rfl⟩
             have hb3' := Below.on hb3 (alloc_b hV3)
             have hgv3 : wa.grownBy V3 (some z) := gb_then hgv2 (gb_below' hb3')
             have hs3 := hb3'.size
             have hr3 := (hr2.below hv2).below hb3'
             have hcb3 := (hb3'.block w2.heap.size (by omega)).trans hcb)
          | (refine store_part rfl 4 (.tmp 34) (.const (.bool true)) rfl w2.heap.size 0 (.bool true) [.bool true] rfl rfl rfl (by kernel_rfl) (fun u hu => by rw [List.mem_singleton.1 hu]; rfl) _ #[.bool true, .int .i64 0, .int .i64 0, .int .i64 0, .int .i64 0, .string T] 117 hcb3 (Nat.le_of_ble_eq_true rfl) rfl (fun V5 hV5 hg5 hs5 => ?_)
             clear hs5
             have hr5 := RB.gb hr3 hg5 (by omega)
             obtain ⟨y0, y1, y2, y3, y4, y5⟩ := cells6 hV5
             have F5 := ((FrP.of_none (P := fun q => q = z ∨ wr.heap.size ≤ q) (gb_below' HRA.out)).trans (FrP.of hgv3 (.inl rfl))).trans (FrP.of hg5 (.inr (by omega)))
             have hown5 := row_fr HOWN.out F5 (fun q hq hp => by have := row_lt HOWN.out hq; omega)
             have hsz5 := F5.size)
          | (at_builtin; refine wpList_append_own _ rfl (.tmp 35) (.tmp 37) 29 rfl w1.heap.size 117 i117_ _ 6 56 Tryz.underlying29 hi117 hz0' hz1' hz2' rfl (by decide) _ _ _ rfl (hown5.alloc (.cells #[.bool true, .int .i64 0, .int .i64 0, .int .i64 0, .int .i64 0, .string T] 117)) ⟨V5.heap.size, 0, none⟩ 1 1 [.bool true, .int .i64 0, .int .i64 0, .int .i64 0, .int .i64 0, .string T] rfl rfl (cells_new V5 [.bool true, .int .i64 0, .int .i64 0, .int .i64 0, .int .i64 0, .string T] 117 _ rfl) (fun u hu => by simp only [List.mem_cons, List.not_mem_nil, or_false] at hu; rcases hu with rfl | rfl | rfl | rfl | rfl | rfl <;> rfl) (by unfold maxLen; omega) (by omega) (by simp; omega) ?_; intro v' w' hown' hg' hnil'
             have F6 := ((F5.mono (Q := fun q => q = z ∨ w1.heap.size ≤ q) (fun q hq hp => by have := HG.out.size; omega)).alloc (.cells #[.bool true, .int .i64 0, .int .i64 0, .int .i64 0, .int .i64 0, .string T] 117)).trans (FrP.of_row hg' (fun q hq => .inr (row_lt HOWN.out hq).1))
             have hr6 : RB w' z bt := (hg'.block z (by have := hr5.lt; simp; omega) (fun e => by have := row_lt HOWN.out e.symm; omega)).trans (hr5.below ((Below.refl _ _).alloc (Nat.le_refl _) _))
             have hg6 : w1.grownBy w' (some z) := gb_of ((FrP.of HG.out (.inl rfl)).trans F6)
             clear hg' hnil'))
        go_roundw
        case rel =>
          refine ⟨l.length + 1, l ++ [⟨true, (0, 0), (0, 0), t.str⟩], bt, by go_num, by omega, by simp, chC_own (by rw [HTT.out]; exact hown') (by rw [List.length_append]; rfl), hr6, hg6, HCN.out⟩
        case measure => simp [RowKit.intOf]; omega
      | some yy =>
        obtain ⟨s, bs, hs⟩ : ∃ s bs, spanR y kRange bt = (s, bs) := ⟨_, _, rfl⟩
        have hcR : chR y bb = (⟨false, s.1, s.2, t.str⟩, bs) := by
          unfold chR
          rw [ho, if_pos (show (some yy).isSome = true from rfl), ht]
          dsimp only
          rw [hs]
        rw [hcR] at hch
        dsimp only at hch
        rw [← List.singleton_append, ← List.append_assoc] at hch
        have HCN := Lib.hid hch
        have HSP : Hid (∀ V, wa.grownBy V (some z) → RB V z bt → Calls Tryz.prog 80 #[.pointer (some ⟨z, 0, none⟩), .agg #[.int .i64 y.kind, .string Y, .slice k2 y.keys.length kc2, .slice i2 y.items.length ic2], .string ⟨#[114, 97, 110, 103, 101]⟩] V fun e w' => e = .returned (.agg #[.int .i64 s.1.1, .int .i64 s.1.2, .int .i64 s.2.1, .int .i64 s.2.2]) ∧ RB w' z bs ∧ V.grownBy w' (some z)) := Lib.hid fun V hV hr => span80 HEV.out (HB1.out V (gb_of3 HG.out HRA.out hV)) (HKA.out V hV) HWY.out.1 HWY.out.2 z hz0 bt hr ⟨#[114, 97, 110, 103, 101]⟩ s bs hs
        clear ho hch hcR ht hs
        go_wp2_with (first
          | (with_reducible (show Calls _ _ _ wa _); go_at_call 71; refine h71.mono ?_; rintro e w2 ⟨rfl, hr2, hg2⟩
             obtain ⟨V2, hV2⟩ : ∃ V, w2.alloc (.cells #[.bool false, .int .i64 0, .int .i64 0, .int .i64 0, .int .i64 0, .string T] 117) = V := ⟨_, rfl⟩
             have hv2 := alloc_b hV2
             have hsv2 : V2.heap.size = w2.heap.size + 1 := by rw [← hV2]; simp
             have hcb := row_at hV2
             have hs2 := hg2.size
             have hgv2 : wa.grownBy V2 (some z) := gb_then hg2 (gb_below' hv2)
             have hbx2 := (hgv2.block wr.heap.size (by omega) (fun e => by have := Option.some.inj e; omega)).trans HBX.out
             obtain ⟨d0, d1, d2, d3⟩ := cells4 hbx2
             have hf27 := HFO.out V2 hgv2)
          | (go_at_call 27; refine hf27.mono ?_; rintro e w3 ⟨k3, kc3, i3, ic3, rfl, _, _, hb3⟩
             obtain ⟨V3, hV3⟩ : ∃ V, w3.alloc (.cells #[.int .i64 g.kind, .string G, .slice k3 g.keys.length kc3, .slice i3 g.items.length ic3] 25) = V := ⟨_, rfl⟩
             have hb3' := Below.on hb3 (alloc_b hV3)
             have hgv3 : wa.grownBy V3 (some z) := gb_then hgv2 (gb_below' hb3')
             have hs3 := hb3'.size
             have hr3 := (hr2.below hv2).below hb3'
             have hcb3 := (hb3'.block w2.heap.size (by omega)).trans hcb
             clear d0 d1 d2 d3
             obtain ⟨d0, d1, d2, d3⟩ := cells4 ((hb3'.block wr.heap.size (by omega)).trans hbx2)
             have h80 := HSP.out V3 hgv3 hr3)
          | (go_at_call 80; refine h80.mono ?_; rintro e w4 ⟨rfl, hr4, hg4⟩
             have hcb4 := (hg4.block w2.heap.size (by omega) (fun e => by have := Option.some.inj e; omega)).trans hcb3
             have hs4 := hg4.size)
          | (refine store_part rfl 115 (.tmp 33) (.tmp 32) rfl w2.heap.size 1 (.agg #[.int .i64 s.1.1, .int .i64 s.1.2, .int .i64 s.2.1, .int .i64 s.2.2]) [.int .i64 s.1.1, .int .i64 s.1.2, .int .i64 s.2.1, .int .i64 s.2.2] rfl rfl rfl (by kernel_rfl) (fun u hu => by simp only [List.mem_cons, List.not_mem_nil, or_false] at hu; rcases hu with rfl | rfl | rfl | rfl <;> rfl) _ #[.bool false, .int .i64 s.1.1, .int .i64 s.1.2, .int .i64 s.2.1, .int .i64 s.2.2, .string T] 117 hcb4 (Nat.le_of_ble_eq_true rfl) rfl (fun V5 hV5 hg5 hs5 => ?_)
             clear hs5
             have hr5 := RB.gb hr4 hg5 (by omega)
             obtain ⟨y0, y1, y2, y3, y4, y5⟩ := cells6 hV5
             have F5 := ((FrP.of_none (P := fun q => q = z ∨ wr.heap.size ≤ q) (gb_below' HRA.out)).trans (FrP.of hgv3 (.inl rfl))).trans ((FrP.of hg4 (.inl rfl)).trans (FrP.of hg5 (.inr (by omega))))
             have hown5 := row_fr HOWN.out F5 (fun q hq hp => by have := row_lt HOWN.out hq; omega)
             have hsz5 := F5.size)
          | (at_builtin; refine wpList_append_own _ rfl (.tmp 35) (.tmp 37) 29 rfl w1.heap.size 117 i117_ _ 6 56 Tryz.underlying29 hi117 hz0' hz1' hz2' rfl (by decide) _ _ _ rfl (hown5.alloc (.cells #[.bool false, .int .i64 s.1.1, .int .i64 s.1.2, .int .i64 s.2.1, .int .i64 s.2.2, .string T] 117)) ⟨V5.heap.size, 0, none⟩ 1 1 [.bool false, .int .i64 s.1.1, .int .i64 s.1.2, .int .i64 s.2.1, .int .i64 s.2.2, .string T] rfl rfl (cells_new V5 [.bool false, .int .i64 s.1.1, .int .i64 s.1.2, .int .i64 s.2.1, .int .i64 s.2.2, .string T] 117 _ rfl) (fun u hu => by simp only [List.mem_cons, List.not_mem_nil, or_false] at hu; rcases hu with rfl | rfl | rfl | rfl | rfl | rfl <;> rfl) (by unfold maxLen; omega) (by omega) (by simp; omega) ?_; intro v' w' hown' hg' hnil'
             have F6 := ((F5.mono (Q := fun q => q = z ∨ w1.heap.size ≤ q) (fun q hq hp => by have := HG.out.size; omega)).alloc (.cells #[.bool false, .int .i64 s.1.1, .int .i64 s.1.2, .int .i64 s.2.1, .int .i64 s.2.2, .string T] 117)).trans (FrP.of_row hg' (fun q hq => .inr (row_lt HOWN.out hq).1))
             have hr6 : RB w' z bs := (hg'.block z (by have := hr5.lt; simp; omega) (fun e => by have := row_lt HOWN.out e.symm; omega)).trans (hr5.below ((Below.refl _ _).alloc (Nat.le_refl _) _))
             have hg6 : w1.grownBy w' (some z) := gb_of ((FrP.of HG.out (.inl rfl)).trans F6)
             clear hg' hnil'))
        go_roundw
        case rel =>
          refine ⟨l.length + 1, l ++ [⟨false, s.1, s.2, t.str⟩], bs, by go_num, by omega, by simp, chC_own (by rw [HTT.out]; exact hown') (by rw [List.length_append]; rfl), hr6, hg6, HCN.out⟩
        case measure => simp [RowKit.intOf]; omega
    · have hd : f.items.drop l.length = [] := List.drop_eq_nil_of_le (by omega)
      have hch := HCH.out
      rw [hd] at hch
      unfold chsR at hch
      simp only [List.append_nil, Prod.mk.injEq] at hch
      obtain ⟨rfl, rfl⟩ := hch
      obtain ⟨pl, cl, rfl⟩ := row_shape hown
      go_wp2
      go_ret
      have hs0 := HBW.out.size
      exact ⟨pl, cl, rfl, row_low hown (show w.heap.size ≤ w1.heap.size by omega), hr, gb_of (((fr_b HBW.out (Nat.le_refl _)).trans (FrP.of HG1.out (.inl rfl))).trans (FrP.of hg (.inl rfl)))⟩
end Go.Proofs.Ls
