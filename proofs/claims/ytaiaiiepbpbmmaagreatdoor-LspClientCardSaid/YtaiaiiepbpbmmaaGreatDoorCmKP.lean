/- Merged texts: NJ, NK, NM, NQ, A8. -/
import Derived.Test.YtaiaiiepbpbmmaaGreatDoorCmKN
import Derived.Test.YtaiaiiepbpbmmaaGreatDoorCmP1
import Derived.Test.YtaiaiiepbpbmmaaGreatDoorCmKX
import Derived.Test.YtaiaiiepbpbmmaaGreatDoorCmNF
import Derived.Test.YtaiaiiepbpbmmaaGreatDoorCmKM
import Derived.Test.YtaiaiiepbpbmmaaGreatDoorCmNP
import Derived.Test.YtaiaiiepbpbmmaaGreatDoorCmA1
/- NJ: emendlaw25's at: the place that a position of JSON has in a text. Printed by gen_nj.py. -/
namespace Go.Proofs.Ls
open Go.RowKit Go.Maps Go.Lib Go.Proofs.Utf Go.Proofs.Jt Go.Proofs
open Go.Proofs.YtaiaiiepbpbmmaaGreatDoor (offP offset_any)

theorem leaf_wt (k : Int) (s : List UInt8) : (JV.mk k s [] []).wt = 1 + s.length := by simp [JV.wt, keysW, wtL]
theorem posJ_wt {p : Int × Int} (h0 : 0 ≤ p.1 ∧ p.1 ≤ 9223372036854775807) (h1 : 0 ≤ p.2 ∧ p.2 ≤ 9223372036854775807) : (posJ p).wt ≤ 100 := by
  have a := itoa_short (n := p.1) (by omega) h0.2
  have b := itoa_short (n := p.2) (by omega) h1.2
  unfold posJ numJ
  rw [JV.wt]
  simp only [wtL, leaf_wt, keysW, kLine, kChar, List.length_cons, List.length_nil]
  omega
theorem offP_ok (T : ByteArray) (a b : Int) (ha : 0 ≤ a) (hb : 0 ≤ b) : (offP T a b).2 = 0 := by
  unfold offP
  rw [if_neg (by omega)]
  split <;> rfl
set_option maxRecDepth 100000 in
set_option maxHeartbeats 16000000 in
theorem at62 {w : World} (hE : ∀ V, Below w.heap.size w V → Env V) (T : ByteArray) (hT : T.size < 4294967281) {x : JV} {S : ByteArray} {kp ip : Option Addr} {kc ic : Nat} (h : KI w x kp kc ip ic) (hwt : x.wt ≤ 1000000) (hS : (⟨x.str.toArray⟩ : ByteArray) = S) (K : ByteArray) (p : Int × Int) (hf : fieldV x K.data.toList = some (posJ p)) (h0 : 0 ≤ p.1 ∧ p.1 ≤ 9223372036854775807) (h1 : 0 ≤ p.2 ∧ p.2 ≤ 9223372036854775807) (q : Int) (hq : (offP T p.1 p.2).1 = q) :
    Calls Tryz.prog 62 #[.string T, .agg #[.int .i64 x.kind, .string S, .slice kp x.keys.length kc, .slice ip x.items.length ic], .string K] w fun e w' => e = .returned (.int .i64 q) ∧ Below w.heap.size w w' := by
  have hpw := posJ_wt h0 h1
  obtain ⟨l, c⟩ := p
  dsimp only at h0 h1 hq
  obtain ⟨W, hW⟩ : ∃ W, w.alloc (.cells #[.int .i64 x.kind, .string S, .slice kp x.keys.length kc, .slice ip x.items.length ic] 25) = W := ⟨_, rfl⟩
  have bW := alloc_b hW
  obtain ⟨c0, c1, c2, c3⟩ := box_of hW W (Below.refl _ _)
  obtain ⟨I, hI⟩ : ∃ B : ByteArray, (⟨(itoa l).toArray⟩ : ByteArray) = B := ⟨_, rfl⟩
  obtain ⟨J, hJ⟩ : ∃ B : ByteArray, (⟨(itoa c).toArray⟩ : ByteArray) = B := ⟨_, rfl⟩
  have hf1 : Calls Tryz.prog 27 #[.agg #[.int .i64 x.kind, .string S, .slice kp x.keys.length kc, .slice ip x.items.length ic], .string K] W fun e w' => ∃ fp fc gp gc, e = .returned (.tuple #[.agg #[.int .i64 6, .string ⟨#[]⟩, .slice fp 2 fc, .slice gp 2 gc], .bool true]) ∧ KP w' (W.heap.size ≤ ·) (posJ (l, c)) fp fc gp gc ∧ (posJ (l, c)).str.length ≤ maxLen ∧ Below W.heap.size W w' :=
    fieldA_is (f := posJ (l, c)) (b := true) (h.stay bW) hwt hS (by rw [hf]; rfl) (by rw [hf]; rfl) rfl W (Below.refl _ _)
  have hf2 : ∀ (V : World) (fp : Option Addr) (fc : Nat) (gp : Option Addr) (gc : Nat), KI V (posJ (l, c)) fp fc gp gc → Calls Tryz.prog 27 #[.agg #[.int .i64 6, .string ⟨#[]⟩, .slice fp 2 fc, .slice gp 2 gc], .string ⟨#[108, 105, 110, 101]⟩] V fun e w' => ∃ ap ac bp bc, e = .returned (.tuple #[.agg #[.int .i64 3, .string I, .slice ap 0 ac, .slice bp 0 bc], .bool true]) ∧ Below V.heap.size V w' := fun V fp fc gp gc hk =>
    (fieldA_is (f := numJ l) (b := true) (K := ⟨#[108, 105, 110, 101]⟩) hk (by omega) rfl rfl rfl hI V (Below.refl _ _)).mono fun _ _ ⟨a, b, c, d, e, _, _, f⟩ => ⟨a, b, c, d, e, f⟩
  have hf3 : ∀ (V : World) (fp : Option Addr) (fc : Nat) (gp : Option Addr) (gc : Nat), KI V (posJ (l, c)) fp fc gp gc → Calls Tryz.prog 27 #[.agg #[.int .i64 6, .string ⟨#[]⟩, .slice fp 2 fc, .slice gp 2 gc], .string ⟨#[99, 104, 97, 114, 97, 99, 116, 101, 114]⟩] V fun e w' => ∃ ap ac bp bc, e = .returned (.tuple #[.agg #[.int .i64 3, .string J, .slice ap 0 ac, .slice bp 0 bc], .bool true]) ∧ Below V.heap.size V w' := fun V fp fc gp gc hk =>
    (fieldA_is (f := numJ c) (b := true) (K := ⟨#[99, 104, 97, 114, 97, 99, 116, 101, 114]⟩) hk (by omega) rfl rfl rfl hJ V (Below.refl _ _)).mono fun _ _ ⟨a, b, c, d, e, _, _, f⟩ => ⟨a, b, c, d, e, f⟩
  have hsI : I.size ≤ 16777216 := by rw [← hI, Lib.size_eq]; have := itoa_short (n := l) (by omega) h0.2; simp; omega
  have hsJ : J.size ≤ 16777216 := by rw [← hJ, Lib.size_eq]; have := itoa_short (n := c) (by omega) h1.2; simp; omega
  have hi1 : ∀ (V : World) (ap : Option Addr) (ac : Nat) (bp : Option Addr) (bc : Nat), Below w.heap.size w V → Calls Tryz.prog 29 #[.agg #[.int .i64 3, .string I, .slice ap 0 ac, .slice bp 0 bc]] V fun e w' => e = .returned (.tuple #[.int .i64 l, .bool true]) ∧ Below V.heap.size V w' := fun V ap ac bp bc hV =>
    int_any 3 I (hE V hV).rng hsI (some l) (by rw [if_pos rfl, ← hI]; simpa using Rp.intL_itoa (by omega) h0.2)
  have hi2 : ∀ (V : World) (ap : Option Addr) (ac : Nat) (bp : Option Addr) (bc : Nat), Below w.heap.size w V → Calls Tryz.prog 29 #[.agg #[.int .i64 3, .string J, .slice ap 0 ac, .slice bp 0 bc]] V fun e w' => e = .returned (.tuple #[.int .i64 c, .bool true]) ∧ Below V.heap.size V w' := fun V ap ac bp bc hV =>
    int_any 3 J (hE V hV).rng hsJ (some c) (by rw [if_pos rfl, ← hJ]; simpa using Rp.intL_itoa (by omega) h1.2)
  have h59 : ∀ V : World, Calls Tryz.prog 59 #[.string T, .agg #[.int .i64 l, .int .i64 c]] V fun e w' => e = .returned (.tuple #[.int .i64 q, .int .i64 0]) ∧ Below V.heap.size V w' := fun V => by
    have := offset_any T l c V hT
    rw [hq, offP_ok T l c h0.1 h1.1] at this
    exact this
  have HF2 := Lib.hid hf2
  have HF3 := Lib.hid hf3
  have HI1 := Lib.hid hi1
  have HI2 := Lib.hid hi2
  have H59 := Lib.hid h59
  have HB := Lib.hid bW
  clear hE h hwt hS hf hI hJ bW hf2 hf3 hi1 hi2 h59 hq h0 h1 hpw hsI hsJ
  go_enter Tryz.func62, Tryz.ntmps62
  go_wp2_with (first
    | (with_reducible (show Calls _ _ _ W _); go_at_call 27; refine hf1.mono ?_; rintro e w1 ⟨fp, fc, gp, gc, rfl, hkp, _, hb1⟩
       obtain ⟨V1, hV1⟩ : ∃ V, w1.alloc (.cells #[.int .i64 6, .string ⟨#[]⟩, .slice fp 2 fc, .slice gp 2 gc] 25) = V := ⟨_, rfl⟩
       have hv1 := alloc_b hV1
       have b1 := Below.on HB.out (Below.on hb1 hv1)
       obtain ⟨d0, d1, d2, d3⟩ := box_of hV1 V1 (Below.refl _ _)
       have hk1 := (kp_on' hkp hv1).ki
       have HX1 := Lib.hid (box_of hV1)
       have hf2 := HF2.out V1 fp fc gp gc hk1
       have HK1 := Lib.hid hk1
       clear hkp hk1)
    | (with_reducible (show Calls _ _ _ V1 _); go_at_call 27; refine hf2.mono ?_; rintro e w2 ⟨ap, ac, bp, bc, rfl, hb2⟩
       obtain ⟨V2, hV2⟩ : ∃ V, w2.alloc (.cells #[.int .i64 3, .string I, .slice ap 0 ac, .slice bp 0 bc] 25) = V := ⟨_, rfl⟩
       have hv2 := alloc_b hV2
       have b12 := Below.on hb2 hv2
       have b2 := Below.on b1 b12
       obtain ⟨d0, d1, d2, d3⟩ := HX1.out V2 b12
       have HX2 := Lib.hid (box_of hV2)
       have hf3 := HF3.out V2 fp fc gp gc (HK1.out.stay b12))
    | (with_reducible (show Calls _ _ _ V2 _); go_at_call 27; refine hf3.mono ?_; rintro e w3 ⟨ap', ac', bp', bc', rfl, hb3⟩
       obtain ⟨V3, hV3⟩ : ∃ V, w3.alloc (.cells #[.int .i64 3, .string J, .slice ap' 0 ac', .slice bp' 0 bc'] 25) = V := ⟨_, rfl⟩
       have hv3 := alloc_b hV3
       have b23 := Below.on hb3 hv3
       have b3 := Below.on b2 b23
       obtain ⟨e0, e1, e2, e3⟩ := HX2.out V3 b23
       have HX3 := Lib.hid (box_of hV3)
       have hi1 := HI1.out V3 ap ac bp bc b3)
    | (with_reducible (show Calls _ _ _ V3 _); go_at_call 29; refine hi1.mono ?_; rintro e w4 ⟨rfl, hb4⟩
       have b4 := Below.on b3 hb4
       obtain ⟨u0, u1, u2, u3⟩ := HX3.out w4 hb4
       have hi2 := HI2.out w4 ap' ac' bp' bc' b4)
    | (with_reducible (show Calls _ _ _ w4 _); go_at_call 29; refine hi2.mono ?_; rintro e w5 ⟨rfl, hb5⟩
       have b5 := Below.on b4 hb5
       have h59 := H59.out w5)
    | (go_at_call 59; refine h59.mono ?_; rintro e w6 ⟨rfl, hb6⟩))
  go_ret
  exact ⟨rfl, Below.on b5 hb6⟩
end Go.Proofs.Ls
/- NK: emendlaw25's large, of one document and one edit. -/
namespace Go.Proofs.Ls
open Go.RowKit Go.Maps Go.Lib Go.Proofs.Utf Go.Proofs.Jt Go.Proofs

def bigS (s : SpV) : Bool := decide (200 < s.text.length)
def largeV (T : ByteArray) (l : List SpV) : Bool := decide (600 < T.size) || (decide (12 < l.length) || l.any bigS)
theorem any_take {l : List SpV} {j : Nat} {s : SpV} (hs : l[j]? = some s) (h : (l.take j).any bigS = false) (h2 : bigS s = false) : (l.take (j + 1)).any bigS = false := by
  rw [List.take_add_one, hs, List.any_append, h]
  simpa using h2
set_option maxRecDepth 100000 in
set_option maxHeartbeats 16000000 in
theorem large57 {w : World} {dg eg : Nat} {U T : ByteArray} {v n : Int} {sp : Option Addr} {sc : Nat} {l : List SpV} (hd : w.heap[dg]? = some (.cells #[.string U, .string T, .int .i64 v] 93 (0, 0))) (he : w.heap[eg]? = some (.cells #[.string U, .int .i64 n, .slice sp l.length sc] 95 (0, 0))) (hs : SplP w sp l) (b : Bool) (hb : largeV T l = b) :
    Calls Tryz.prog 57 #[.slice (some ⟨dg, 0, none⟩) 1 1, .agg #[.int .i64 0, .string ⟨#[]⟩, .bool false, .int .i64 0, .int .i64 0, .string ⟨#[]⟩, .slice (some ⟨eg, 0, none⟩) 1 1, .slice none 0 0]] w fun e w' => e = .returned (.bool b) ∧ Below w.heap.size w w' := by
  obtain ⟨W, hW⟩ : ∃ W, w.alloc (.cells #[.int .i64 0, .string ⟨#[]⟩, .bool false, .int .i64 0, .int .i64 0, .string ⟨#[]⟩, .slice (some ⟨eg, 0, none⟩) 1 1, .slice none 0 0] 99) = W := ⟨_, rfl⟩
  have bW := alloc_b hW
  have hr := row_at hW
  have y6 : W.cell? ⟨w.heap.size, 6, none⟩ = some (.slice (some ⟨eg, 0, none⟩) 1 1) := by simp [World.cell?, hr]
  have y7 : W.cell? ⟨w.heap.size, 7, none⟩ = some (.slice none 0 0) := by simp [World.cell?, hr]
  have hd1 := (bW.block _ (ltS hd)).trans hd
  have x1 : W.cell? ⟨dg, 1, none⟩ = some (.string T) := by simp [World.cell?, hd1]
  have he1 := (bW.block _ (ltS he)).trans he
  have z2 : W.cell? ⟨eg, 2, none⟩ = some (.slice sp l.length sc) := by simp [World.cell?, he1]
  have HS := Lib.hid (hs.below bW)
  have HB := Lib.hid bW
  have HV := Lib.hid hb
  clear hd he hs hb bW hr hd1 he1
  go_enter Tryz.func57, Tryz.ntmps57
  go_wp2_with fail
  go_loopw [5, 6] (fun lv iv wr => lv = .slice (some ⟨eg, 0, none⟩) 1 1 ∧ iv = .int .i64 0 ∧ wr = W) (fun _ _ _ => 0)
  case atStart => exact ⟨rfl, rfl, rfl⟩
  case round =>
    obtain ⟨rfl, rfl, hwr⟩ := hrel
    obtain rfl := hwr.symm
    go_wp2_with fail
    go_loopw [7] (fun iv wr => ∃ i : Nat, iv = .int .i64 i ∧ i ≤ 1 ∧ wr = W ∧ (1 ≤ i → T.size ≤ 600)) (fun iv _ => 1 - (RowKit.intOf iv).toNat)
    case atStart => exact ⟨0, rfl, Nat.zero_le _, rfl, fun h => by omega⟩
    case round =>
      obtain ⟨i, rfl, hi, hwr, ht⟩ := hrel
      obtain rfl := hwr.symm
      by_cases hin : i < 1
      · obtain rfl : i = 0 := by omega
        clear ht
        by_cases h1 : (600 : Int) < (T.size : Int)
        · obtain rfl : true = b := by rw [← HV.out]; unfold largeV; simp; omega
          clear HV
          go_wp2_with fail
          go_ret
          exact ⟨rfl, HB.out⟩
        · go_wp2_with fail
          go_roundw
          case rel => exact ⟨1, rfl, Nat.le_refl _, trivial, fun _ => by omega⟩
          case measure => simp [RowKit.intOf]
      · obtain rfl : i = 1 := by omega
        have ht := ht (Nat.le_refl _)
        go_wp2_with fail
        go_loopw [8] (fun iv wr => ∃ i : Nat, iv = .int .i64 i ∧ i ≤ 1 ∧ wr = W ∧ (1 ≤ i → l.length ≤ 12 ∧ l.any bigS = false)) (fun iv _ => 1 - (RowKit.intOf iv).toNat)
        case atStart => exact ⟨0, rfl, Nat.zero_le _, rfl, fun h => by omega⟩
        case round =>
          obtain ⟨i, rfl, hi, hwr, hk⟩ := hrel
          obtain rfl := hwr.symm
          by_cases hin : i < 1
          · obtain rfl : i = 0 := by omega
            clear hk
            by_cases h1 : (12 : Int) < (l.length : Int)
            · obtain rfl : true = b := by rw [← HV.out]; unfold largeV; simp; omega
              clear HV
              go_wp2_with fail
              go_ret
              exact ⟨rfl, HB.out⟩
            · go_wp2_with fail
              go_loopw [9] (fun iv wr => ∃ j : Nat, iv = .int .i64 j ∧ j ≤ l.length ∧ wr = W ∧ (l.take j).any bigS = false) (fun iv _ => l.length - (RowKit.intOf iv).toNat)
              case atStart => exact ⟨0, rfl, Nat.zero_le _, rfl, rfl⟩
              case round =>
                obtain ⟨j, rfl, hj, hwr, ha⟩ := hrel
                obtain rfl := hwr.symm
                by_cases hjn : (j : Int) < (l.length : Int)
                · obtain ⟨s, hs1⟩ : ∃ s, l[j]? = some s := ⟨_, List.getElem?_eq_getElem (by omega)⟩
                  obtain ⟨a, rfl, hsc⟩ := HS.out j s hs1
                  obtain ⟨g0, g1, g2, _⟩ := hsc
                  obtain ⟨TT, hTT⟩ : ∃ B : ByteArray, (⟨s.text.toArray⟩ : ByteArray) = B := ⟨_, rfl⟩
                  rw [hTT] at g2
                  have hsz : TT.size = s.text.length := by rw [← hTT]; exact List.size_toArray
                  have HA := Lib.hid (And.intro ha (And.intro hs1 hsz))
                  clear ha hs1 hTT hsz g0 g1
                  by_cases h2 : (200 : Int) < (TT.size : Int)
                  · obtain rfl : true = b := by
                      obtain ⟨_, q1, q2⟩ := HA.out
                      rw [← HV.out]
                      unfold largeV
                      have : l.any bigS = true := List.any_eq_true.2 ⟨s, List.mem_of_getElem? q1, by unfold bigS; simp; omega⟩
                      rw [this]
                      simp
                    clear HV
                    go_wp2_with fail
                    go_ret
                    exact ⟨rfl, HB.out⟩
                  · go_wp2_with fail
                    go_roundw
                    case rel =>
                      obtain ⟨q0, q1, q2⟩ := HA.out
                      exact ⟨j + 1, by go_num, by omega, trivial, any_take q1 q0 (by unfold bigS; simp; omega)⟩
                    case measure => simp [RowKit.intOf]; omega
                · go_wp2_with fail
                  go_roundw
                  case rel =>
                    obtain rfl : j = l.length := by omega
                    rw [List.take_length] at ha
                    exact ⟨1, rfl, Nat.le_refl _, trivial, fun _ => ⟨by omega, ha⟩⟩
                  case measure => simp [RowKit.intOf]
          · obtain rfl : i = 1 := by omega
            obtain ⟨hk1, hk2⟩ := hk (Nat.le_refl _)
            obtain rfl : false = b := by rw [← HV.out]; unfold largeV; rw [hk2]; simp; omega
            clear HV
            go_wp2_with fail
            go_ret
            exact ⟨rfl, HB.out⟩
end Go.Proofs.Ls
/- NM: lsp.Told at a rename, of one document and one edit. -/
namespace Go.Proofs.Ls
open Go.RowKit Go.Maps Go.Lib Go.Proofs.Utf Go.Proofs.Jt Go.Proofs

set_option maxRecDepth 100000 in
set_option maxHeartbeats 16000000 in
theorem told_ren {w : World} (hE : ∀ V, Below w.heap.size w V → Env V) {dg eg : Nat} {us : List UInt8} {U T QU : ByteArray} {v n : Int} {sp : Option Addr} {sc : Nat} {l : List SpV} (pos : Int → Int × Int)
    (hd : w.heap[dg]? = some (.cells #[.string U, .string T, .int .i64 v] 93 (0, 0))) (he : w.heap[eg]? = some (.cells #[.string U, .int .i64 n, .slice sp l.length sc] 95 (0, 0))) (hs : SplP w sp l) (hl : l.length ≤ 1000)
    (hA : ∀ s ∈ l, (((0 ≤ (pos s.fr).1 ∧ (pos s.fr).1 ≤ 9223372036854775807) ∧ (0 ≤ (pos s.fr).2 ∧ (pos s.fr).2 ≤ 9223372036854775807)) ∧ ((0 ≤ (pos s.till).1 ∧ (pos s.till).1 ≤ 9223372036854775807) ∧ (0 ≤ (pos s.till).2 ∧ (pos s.till).2 ≤ 9223372036854775807))) ∧ AtC w T s.fr (pos s.fr) ∧ AtC w T s.till (pos s.till) ∧ s.text.length ≤ maxLen)
    (hn : -9223372036854775808 ≤ n ∧ n ≤ 9223372036854775807) (hU : (⟨us.toArray⟩ : ByteArray) = U) (hUl : us.length ≤ maxLen) :
    Calls Tryz.prog 61 #[.slice (some ⟨dg, 0, none⟩) 1 1, .agg #[.int .i64 2, .string QU, .int .i64 0, .int .i64 0, .int .i64 0, .int .i64 0, .string ⟨#[]⟩], .agg #[.int .i64 0, .string ⟨#[]⟩, .bool false, .int .i64 0, .int .i64 0, .string ⟨#[]⟩, .slice (some ⟨eg, 0, none⟩) 1 1, .slice none 0 0]] w fun e w' => ∃ kp kc ip ic, e = .returned (.agg #[.int .i64 6, .string ⟨#[]⟩, .slice kp 1 kc, .slice ip 1 ic]) ∧ KP w' (w.heap.size ≤ ·) (changedJ pos us n l) kp kc ip ic ∧ Below w.heap.size w w' := by
  obtain ⟨W1, hW1⟩ : ∃ W, w.alloc (.cells #[.int .i64 2, .string QU, .int .i64 0, .int .i64 0, .int .i64 0, .int .i64 0, .string ⟨#[]⟩] 42) = W := ⟨_, rfl⟩
  obtain ⟨W2, hW2⟩ : ∃ W, W1.alloc (.cells #[.int .i64 0, .string ⟨#[]⟩, .bool false, .int .i64 0, .int .i64 0, .string ⟨#[]⟩, .slice (some ⟨eg, 0, none⟩) 1 1, .slice none 0 0] 99) = W := ⟨_, rfl⟩
  obtain ⟨W, hW⟩ : ∃ W, W2.alloc (.cells #[.int .i64 0, .string ⟨#[]⟩, .slice none 0 0, .slice none 0 0] 25) = W := ⟨_, rfl⟩
  have bW1 := alloc_b hW1
  have bW2 := alloc_b hW2
  have bW3 := alloc_b hW
  have z1 : W1.heap.size = w.heap.size + 1 := by rw [← hW1]; simp
  have z2 : W2.heap.size = w.heap.size + 2 := by rw [← hW2]; simp; omega
  have bW := Below.on bW1 (Below.on bW2 bW3)
  have r1 := ((Below.on bW2 bW3).block _ (ltS (row_at hW1))).trans (row_at hW1)
  have r2 := (bW3.block _ (ltS (row_at hW2))).trans (row_at hW2)
  rw [z1] at r2
  have y0 : W.cell? ⟨w.heap.size, 0, none⟩ = some (.int .i64 2) := by simp [World.cell?, r1]
  have y6 : W.cell? ⟨w.heap.size + 1, 6, none⟩ = some (.slice (some ⟨eg, 0, none⟩) 1 1) := by simp [World.cell?, r2]
  have hJ : JBox W (w.heap.size + 2) := by rw [← hW, ← z2]; exact JBox.alloc _ _ _ _ _
  have h122 := changed122 (fun V hV => hE V (Below.on bW hV)) pos ((bW.block _ (ltS hd)).trans hd) ((bW.block _ (ltS he)).trans he) (hs.below bW) hl (fun s hs => ⟨(hA s hs).1, (hA s hs).2.1.below bW, (hA s hs).2.2.1.below bW, (hA s hs).2.2.2⟩) hn hU hUl
  have HJ := Lib.hid hJ
  have HB := Lib.hid bW
  have hzW : W.heap.size = w.heap.size + 3 := by rw [← hW]; simp; omega
  subst hW1
  clear hE hd he hs hA hn hU hUl hl bW bW1 bW2 bW3 r1 r2 hJ
  go_enter Tryz.func61, Tryz.ntmps61
  go_wp2_with (first
    | (go_at_call 122; refine h122.mono ?_; rintro e w9 ⟨kp, kc, ip, ic, rfl, hkp, hb9⟩; have hj9 : JBox w9 (w.heap.size + 2) := HJ.out.same (hb9.block _ HJ.out.lt); have HK := Lib.hid hkp; clear hkp)
    | (refine store_val rfl (.tmp 6) (.tmp 47) rfl (w.heap.size + 2) rfl (.int .i64 6) (.string ⟨#[]⟩) (.slice kp 1 kc) (.slice ip 1 ic) rfl rfl hj9 (fun V9 hV9 hgV _ => ?_)))
  refine bodyPost_ret (ret_val Tryz.results61 rfl hV9) rfl ?_
  exact ⟨kp, kc, ip, ic, rfl, (HK.out.fr (FrP.of (P := fun q => q = w.heap.size + 2) hgV rfl) (fun q hq e => by omega)).keep (Nat.le_refl _) (fun _ _ _ => rfl) (fun q hq _ => by omega), below_gbz (Below.on HB.out hb9) (by omega) hgV⟩
end Go.Proofs.Ls
/- NQ: Splices under way: a row of one's own; values' items; what is large. -/
namespace Go.Proofs.Ls
open Go.RowKit Go.Maps Go.Lib Go.Proofs.Utf Go.Proofs.Jt Go.Proofs
open Go.Proofs.YtaiaiiepbpbmmaaGreatDoor (offP)

def splC : List SpV → List Value
  | [] => []
  | s :: l => .int .i64 s.fr :: .int .i64 s.till :: .string ⟨s.text.toArray⟩ :: splC l
theorem splC_snoc : ∀ (l : List SpV) (s : SpV), splC (l ++ [s]) = splC l ++ [.int .i64 s.fr, .int .i64 s.till, .string ⟨s.text.toArray⟩]
  | [], _ => rfl
  | a :: l, s => by
    show _ :: _ :: _ :: splC (l ++ [s]) = _ :: _ :: _ :: (splC l ++ _)
    rw [splC_snoc l s]
theorem splC_at : ∀ (l : List SpV) (i : Nat) (s : SpV), l[i]? = some s → (splC l)[i * 3]? = some (.int .i64 s.fr) ∧ (splC l)[i * 3 + 1]? = some (.int .i64 s.till) ∧ (splC l)[i * 3 + 2]? = some (.string ⟨s.text.toArray⟩)
  | [], _, _, h => by cases h
  | a :: l, 0, s, h => by
    obtain rfl : a = s := by simpa using h
    exact ⟨rfl, rfl, rfl⟩
  | a :: l, i + 1, s, h => by
    have := splC_at l i s (by simpa using h)
    rw [show (i + 1) * 3 = i * 3 + 3 by omega]
    exact this
/-- such a row is splices in memory -/
theorem spl_row {w : World} {B n oc : Nat} {op : Option Addr} {L : List SpV} (h : w.ownsRow B 107 3 (.slice op n oc) n (splC L)) (hn : L.length = n) : SplP w op L := fun i s hs => by
  have h0 := h
  obtain ⟨_, h1⟩ := h
  rcases h1 with ⟨_, hz⟩ | ⟨g, cap, cur, hv, _, hg, _⟩
  · obtain rfl : L = [] := List.eq_nil_of_length_eq_zero (by omega)
    cases hs
  · injection hv with hv1 hv2 hv3
    subst hv1
    obtain ⟨e0, e1, e2⟩ := splC_at L i s hs
    have hc : ∀ (j : Nat) (u : Value), (splC L)[j]? = some u → w.cell? ⟨g, j, none⟩ = some u := fun j u hu => by
      have := h0.cells (g := g) rfl j u hu
      rwa [add0] at this
    refine ⟨_, rfl, ?_⟩
    rw [add0]
    exact ⟨hc _ _ e0, hc _ _ e1, hc _ _ e2, ltS hg⟩
theorem info107 : (Tryz.prog.info? 107).map (fun i => (i.zero, i.size, i.bytes)) = some (some (.agg #[.int .i64 0, .int .i64 0, .string ⟨#[]⟩]), 3, 32) := by kernel_rfl
/-- an item of a value -/
theorem ki_item {w : World} {x : JV} {kp ip : Option Addr} {kc ic : Nat} (h : KI w x kp kc ip ic) {i : Nat} {y : JV} (hy : x.items[i]? = some y) : ∃ a kp' kc' ip' ic', ip = some a ∧ JC w (a.add (i * 4)) y kp' kc' ip' ic' ∧ KI w y kp' kc' ip' ic' := by
  cases h with
  | mk _ _ _ _ _ fp fc gp gc hk hz hi h =>
    obtain ⟨_, a, h1, h2⟩ := hi i y hy
    exact ⟨a, _, _, _, _, h1, h2, h i y hy⟩
/-- the first item of a value -/
theorem ki_item0 {w : World} {x : JV} {kp ip : Option Addr} {kc ic : Nat} (h : KI w x kp kc ip ic) {y : JV} (hy : x.items[0]? = some y) : ∃ a kp' kc' ip' ic', ip = some a ∧ JC w a y kp' kc' ip' ic' ∧ KI w y kp' kc' ip' ic' := by
  obtain ⟨a, kp', kc', ip', ic', h1, h2, h3⟩ := ki_item h hy
  rw [show a.add (0 * 4) = a by simp [Addr.add]] at h2
  exact ⟨a, kp', kc', ip', ic', h1, h2, h3⟩
/-- do lines' answers lead back to a splice's places? -/
def goodS (T : ByteArray) (s : SpV) : Prop := (offP T (atV T s.fr).1 (atV T s.fr).2).1 = s.fr ∧ (offP T (atV T s.till).1 (atV T s.till).2).1 = s.till
theorem largeV_not {T : ByteArray} {l : List SpV} (h : largeV T l = false) : T.size ≤ 600 ∧ l.length ≤ 12 ∧ ∀ s ∈ l, s.text.length ≤ 200 := by
  unfold largeV at h
  simp only [Bool.or_eq_false_iff, decide_eq_false_iff_not] at h
  refine ⟨by omega, by omega, fun s hs => ?_⟩
  have := List.any_eq_false.1 h.2.2 s hs
  unfold bigS at this
  simp at this
  omega
theorem wtL_map (f : SpV → JV) (m : Nat) : ∀ l : List SpV, (∀ s ∈ l, (f s).wt ≤ m) → wtL (l.map f) ≤ m * l.length
  | [], _ => by simp [wtL]
  | s :: l, h => by
    have h1 := h s (by simp)
    have h2 := wtL_map f m l (fun s hs => h s (List.mem_cons_of_mem _ hs))
    rw [List.map_cons, wtL, List.length_cons, Nat.mul_succ]
    omega
theorem spanJ_wt {p q : Int × Int} (h0 : (0 ≤ p.1 ∧ p.1 ≤ 9223372036854775807) ∧ (0 ≤ p.2 ∧ p.2 ≤ 9223372036854775807)) (h1 : (0 ≤ q.1 ∧ q.1 ≤ 9223372036854775807) ∧ (0 ≤ q.2 ∧ q.2 ≤ 9223372036854775807)) : (spanJ p q).wt ≤ 300 := by
  have a := posJ_wt h0.1 h0.2
  have b := posJ_wt h1.1 h1.2
  unfold spanJ
  rw [JV.wt]
  simp only [wtL, keysW, kStart, kEnd, List.length_cons, List.length_nil]
  omega
theorem rowJ_wt (T : ByteArray) (hT : T.size ≤ 1000000) (s : SpV) (hs : s.text.length ≤ 200) : (rowJ (atV T) s).wt ≤ 1000 := by
  have a := spanJ_wt (atV_in T hT s.fr) (atV_in T hT s.till)
  unfold rowJ strJ
  rw [JV.wt]
  simp only [wtL, leaf_wt, keysW, kRange, kNewText, List.length_cons, List.length_nil]
  omega
theorem rowsJ_wt (T : ByteArray) (hT : T.size ≤ 1000000) (l : List SpV) (hl : l.length ≤ 12) (hs : ∀ s ∈ l, s.text.length ≤ 200) : (rowsJ (atV T) l).wt ≤ 20000 := by
  have a := wtL_map (rowJ (atV T)) 1000 l (fun s h => rowJ_wt T hT s (hs s h))
  unfold rowsJ
  rw [JV.wt]
  simp only [keysW, List.length_nil]
  omega
theorem editJ_wt (T : ByteArray) (hT : T.size ≤ 1000000) (l : List SpV) (hl : l.length ≤ 12) (hs : ∀ s ∈ l, s.text.length ≤ 200) : (editJ (atV T) [117] 3 l).wt ≤ 30000 := by
  have a := rowsJ_wt T hT l hl hs
  have b : (docJ [117] 3).wt ≤ 100 := by decide +kernel
  unfold editJ
  rw [JV.wt]
  simp only [wtL, keysW, kTextDoc, kEdits, List.length_cons, List.length_nil]
  omega
theorem changedJ_wt (T : ByteArray) (hT : T.size ≤ 1000000) (l : List SpV) (hl : l.length ≤ 12) (hs : ∀ s ∈ l, s.text.length ≤ 200) : (changedJ (atV T) [117] 3 l).wt ≤ 40000 := by
  have a := editJ_wt T hT l hl hs
  unfold changedJ
  rw [JV.wt]
  simp only [wtL, JV.wt, keysW, kDocCh, List.length_cons, List.length_nil] at a ⊢
  omega
end Go.Proofs.Ls
/- A8: Splices among the arguments. -/
namespace Go.Proofs.Ls
open Go.RowKit Go.Maps Go.Proofs Go.Lib Go.ChangeShapes Go.WideShapes Go.Deep Go.Proofs.Utf Go.Proofs.Jt

theorem cn107 : Tryz.prog.cellsOf 107 = 3 := by kernel_rfl
theorem one_cell {cs : List Value} {i : Nat} {v : Value} (h : (cs.drop i).take 1 = [v]) : cs[i]? = some v := by
  have := congrArg (·[0]?) h
  simpa [List.getElem?_take, List.getElem?_drop] using this
section
variable {H : Type} {enc : TypeId × Value → H} {w : World} {base : Nat} {spare : Nat → Bool} {held : Bool}
theorem splice_trod {fuel : Nat} {cs : List Value} {x : DataW H × List MemPlace} (h : DataW.trod enc Tryz.prog w base spare held fuel 107 cs = some x) : ∃ y : SpV, cs[0]? = some (.int .i64 y.fr) ∧ cs[1]? = some (.int .i64 y.till) ∧ cs[2]? = some (.string ⟨y.text.toArray⟩) ∧ y.text.length ≤ maxLen := by
  obtain ⟨xs, m, _, _, hlen, hl, hf⟩ := DataW.trod_struct Tryz.underlying107 h
  match xs, hl with
  | [y0, y1, y2], _ =>
    have h0 := hf 0 _ rfl
    have h1 := hf 1 _ rfl
    have h2 := hf 2 _ rfl
    simp [cn3] at h0
    simp [cn3] at h1
    simp [cn9] at h2
    obtain ⟨a, e0, _⟩ := DataW.trod_int (k := .i64) Tryz.underlying3 h0
    obtain ⟨b, e1, _⟩ := DataW.trod_int (k := .i64) Tryz.underlying3 h1
    obtain ⟨t, e2, _, hs⟩ := DataW.trod_string Tryz.underlying9 h2
    refine ⟨⟨a, b, t.data.toList⟩, one_cell (i := 0) (by simpa using e0), one_cell (i := 1) (by simpa using e1), ?_, by rw [Array.length_toList]; exact hs⟩
    rw [arr_back]
    exact one_cell e2
theorem sp_at {a : Addr} {i : Nat} {cs : List Value} (hc : w.cells? base (a.add (i * 3)) 3 = some cs) {fuel : Nat} {x : DataW H × List MemPlace} (h : DataW.trod enc Tryz.prog w base spare held fuel 107 cs = some x) : ∃ y : SpV, SpC w (a.add (i * 3)) y ∧ y.text.length ≤ maxLen := by
  obtain ⟨y, e0, e1, e2, hs⟩ := splice_trod h
  obtain ⟨_, hcl, hat⟩ := World.cells?_some hc
  have hx : ∀ (j : Nat) (v : Value), 0 < j → j < 3 → cs[j]? = some v → w.cell? ⟨(a.add (i * 3)).block, (a.add (i * 3)).off + j, none⟩ = some v := fun j v hj0 hj hv => by
    rw [← add_at a (i * 3) j hj0, ← Go.Deep.add_add, hat j hj]
    exact hv
  have h0 : w.cell? (a.add (i * 3)) = some (.int .i64 y.fr) := by
    have := hat 0 (by omega)
    rw [show (a.add (i * 3)).add 0 = a.add (i * 3) by simp [Addr.add]] at this
    exact this.trans e0
  exact ⟨y, ⟨h0, hx 1 _ (by omega) (by omega) e1, hx 2 _ (by omega) (by omega) e2, World.block_lt_of_cell? w _ h0⟩, hs⟩
set_option maxRecDepth 100000 in
theorem splices_trod {fuel : Nat} {cs : List Value} {x : DataW H × List MemPlace} (h : DataW.trod enc Tryz.prog w base spare held fuel 91 cs = some x) : ∃ (p : Option Addr) (c : Nat) (l : List SpV), cs = [.slice p l.length c] ∧ l.length ≤ maxLen ∧ l.length ≤ c ∧ (∀ s ∈ l, s.text.length ≤ maxLen) ∧ SplP w p l := by
  rcases open_slice Tryz.underlying91 h with ⟨hcs, _⟩ | ⟨a, len, cap, m, n, D, Pl, hcs, _, hl, hm, hz, _, hcell⟩
  · exact ⟨none, 0, [], hcs, Nat.zero_le _, Nat.le_refl _, fun s hs => (by cases hs), fun i x hx => by cases hx⟩
  · have hlm : len ≤ m := by rw [hz]; split <;> omega
    obtain ⟨l, hll, hp⟩ := list_of len (fun i (y : SpV) => SpC w (a.add (i * 3)) y ∧ y.text.length ≤ maxLen) fun i hi => by
      obtain ⟨cs', hc, ht⟩ := hcell i (by omega)
      rw [cn107] at hc
      exact sp_at hc ht
    refine ⟨some a, cap, l, by rw [hll]; exact hcs, by omega, by omega, fun s hs => ?_, fun i x hx => ⟨a, rfl, (hp i x hx).1⟩⟩
    obtain ⟨i, hi⟩ := List.getElem?_of_mem hs
    exact (hp i s hi).2
end
section
variable {H : Type} {enc : TypeId × Value → H} {w : World} {base : Nat}
set_option maxRecDepth 100000 in
theorem splices_arg {v : Value} {d : DataW H} {ps : List MemPlace} (hv : Value.okWide Tryz.prog w .any base 91 v) (h : DataW.Trod enc Tryz.prog w 0 (fun _ => true) true 91 v d ps) :
    ∃ (p : Option Addr) (c : Nat) (l : List SpV), v = .slice p l.length c ∧ l.length ≤ maxLen ∧ l.length ≤ c ∧ (∀ s ∈ l, s.text.length ≤ maxLen) ∧ SplP w p l := by
  obtain ⟨a0, len, cap, rfl⟩ := okWide_slice Tryz.underlying91 hv
  obtain ⟨fuel, hf⟩ := h
  obtain ⟨p, c, l, hcs, hl, hlc, ht, hI⟩ := splices_trod hf
  simp [Value.cells] at hcs
  obtain ⟨rfl, rfl, rfl⟩ := hcs
  exact ⟨_, _, _, rfl, hl, hlc, ht, hI⟩
end
end Go.Proofs.Ls
