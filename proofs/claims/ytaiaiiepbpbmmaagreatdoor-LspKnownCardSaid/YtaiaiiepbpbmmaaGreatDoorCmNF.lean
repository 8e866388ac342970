/- lsp.changed of one document and one edit: the rows of its splices. Printed by gen_nf.py. -/
import Derived.Test.YtaiaiiepbpbmmaaGreatDoorCmKN
import Derived.Test.YtaiaiiepbpbmmaaGreatDoorCmKA
import Derived.Test.YtaiaiiepbpbmmaaGreatDoorCmV30
namespace Go.Proofs.Ls
open Go.RowKit Go.Maps Go.Lib Go.Proofs.Utf Go.Proofs.Jt Go.Proofs

def kNewText : List UInt8 := [110, 101, 119, 84, 101, 120, 116]
def kEdits : List UInt8 := [101, 100, 105, 116, 115]
def kTextDoc : List UInt8 := [116, 101, 120, 116, 68, 111, 99, 117, 109, 101, 110, 116]
def kDocCh : List UInt8 := [100, 111, 99, 117, 109, 101, 110, 116, 67, 104, 97, 110, 103, 101, 115]
def kUri2 : List UInt8 := [117, 114, 105]
def kVersion2 : List UInt8 := [118, 101, 114, 115, 105, 111, 110]
/-- a splice as JSON -/
def rowJ (pos : Int → Int × Int) (s : SpV) : JV := .mk 6 [] [kRange, kNewText] [spanJ (pos s.fr) (pos s.till), strJ s.text]
def rowsJ (pos : Int → Int × Int) (l : List SpV) : JV := .mk 5 [] [] (l.map (rowJ pos))
def docJ (U : List UInt8) (n : Int) : JV := .mk 6 [] [kUri2, kVersion2] [strJ U, numJ n]
def editJ (pos : Int → Int × Int) (U : List UInt8) (n : Int) (l : List SpV) : JV := .mk 6 [] [kTextDoc, kEdits] [docJ U n, rowsJ pos l]
def changedJ (pos : Int → Int × Int) (U : List UInt8) (n : Int) (l : List SpV) : JV := .mk 6 [] [kDocCh] [.mk 5 [] [] [editJ pos U n l]]

theorem obj_row11 {w w6 w7 w8 : World} {p q : Int × Int} {ts : List UInt8} {TT : ByteArray} {ka ia : Option Addr} {ca da c0 : Nat} (hb6 : Below w.heap.size w w6) (hk : KP w6 (w.heap.size ≤ ·) (spanJ p q) ka ca ia da) (hb7 : Below w6.heap.size w6 w7) (hb8 : Below w7.heap.size w7 w8) (hr : w8.heap[w7.heap.size]? = some (.cells #[.string ⟨#[114, 97, 110, 103, 101]⟩, .int .i64 6, .string ⟨#[]⟩, .slice ka 2 ca, .slice ia 2 da, .string ⟨#[110, 101, 119, 84, 101, 120, 116]⟩, .int .i64 4, .string TT, .slice none 0 0, .slice none 0 0] 182 (0, 0))) (hT : (⟨ts.toArray⟩ : ByteArray) = TT) (hl : ts.length ≤ maxLen) :
    Calls Tryz.prog 119 #[.slice (some ⟨w7.heap.size, 0, none⟩) 2 c0] w8 fun e w' => ∃ kp kc ip ic, e = .returned (.agg #[.int .i64 6, .string ⟨#[]⟩, .slice kp 2 kc, .slice ip 2 ic]) ∧ KP w' (w.heap.size ≤ ·) (.mk 6 [] [kRange, kNewText] [spanJ p q, strJ ts]) kp kc ip ic ∧ Below w8.heap.size w8 w' := by
  subst hT
  have b := Below.on hb6 (Below.on hb7 hb8)
  exact object_row (w := w8) (g := w7.heap.size) (c0 := c0) (n := 2) (B := w.heap.size) [(kRange, ⟨spanJ p q, ka, ca, ia, da⟩), (kNewText, leafI (strJ ts))] hr rfl (by omega) b.size (fun f hf => by
    simp only [List.mem_cons, List.not_mem_nil, or_false] at hf
    rcases hf with rfl | rfl
    · exact ⟨kp_on' (kp_on' hk hb7) hb8, Nat.zero_le _⟩
    · exact ⟨KP.leaf _ _ _ _, hl⟩) (fun f hf => by
    simp only [List.mem_cons, List.not_mem_nil, or_false] at hf
    rcases hf with rfl | rfl
    · exact (by decide : kRange.length ≤ maxLen)
    · exact (by decide : kNewText.length ≤ maxLen)) [kRange, kNewText] [spanJ p q, strJ ts] rfl rfl
theorem obj_rowD {w w6 w7 w8 : World} {us : List UInt8} {n : Int} {U I : ByteArray} {c0 : Nat} (hb6 : Below w.heap.size w w6) (hb7 : Below w6.heap.size w6 w7) (hb8 : Below w7.heap.size w7 w8) (hr : w8.heap[w7.heap.size]? = some (.cells #[.string ⟨#[117, 114, 105]⟩, .int .i64 4, .string U, .slice none 0 0, .slice none 0 0, .string ⟨#[118, 101, 114, 115, 105, 111, 110]⟩, .int .i64 3, .string I, .slice none 0 0, .slice none 0 0] 182 (0, 0))) (hT : (⟨us.toArray⟩ : ByteArray) = U ∧ (⟨(itoa n).toArray⟩ : ByteArray) = I) (hl : us.length ≤ maxLen) (hn : (itoa n).length ≤ maxLen) :
    Calls Tryz.prog 119 #[.slice (some ⟨w7.heap.size, 0, none⟩) 2 c0] w8 fun e w' => ∃ kp kc ip ic, e = .returned (.agg #[.int .i64 6, .string ⟨#[]⟩, .slice kp 2 kc, .slice ip 2 ic]) ∧ KP w' (w.heap.size ≤ ·) (docJ us n) kp kc ip ic ∧ Below w8.heap.size w8 w' := by
  obtain ⟨rfl, rfl⟩ := hT
  have b := Below.on hb6 (Below.on hb7 hb8)
  exact object_row (w := w8) (g := w7.heap.size) (c0 := c0) (n := 2) (B := w.heap.size) [(kUri2, leafI (strJ us)), (kVersion2, leafI (numJ n))] hr rfl (by omega) b.size (fun f hf => by
    simp only [List.mem_cons, List.not_mem_nil, or_false] at hf
    rcases hf with rfl | rfl
    · exact ⟨KP.leaf _ _ _ _, hl⟩
    · exact ⟨KP.leaf _ _ _ _, hn⟩) (fun f hf => by
    simp only [List.mem_cons, List.not_mem_nil, or_false] at hf
    rcases hf with rfl | rfl
    · exact (by decide : kUri2.length ≤ maxLen)
    · exact (by decide : kVersion2.length ≤ maxLen)) [kUri2, kVersion2] [strJ us, numJ n] rfl rfl
theorem obj_rowE {w w9 w10 : World} {B : Nat} {us : List UInt8} {n : Int} {L : List JV} {kd id pi : Option Addr} {cd dd ci c0 m : Nat} (hb9 : Below w.heap.size w w9) (hk : KP w9 (w.heap.size ≤ ·) (docJ us n) kd cd id dd) (he : KP w (B ≤ ·) (.mk 5 [] [] L) none 0 pi ci) (hb10 : Below w9.heap.size w9 w10) (hr : w10.heap[w9.heap.size]? = some (.cells #[.string ⟨#[116, 101, 120, 116, 68, 111, 99, 117, 109, 101, 110, 116]⟩, .int .i64 6, .string ⟨#[]⟩, .slice kd 2 cd, .slice id 2 dd, .string ⟨#[101, 100, 105, 116, 115]⟩, .int .i64 5, .string ⟨#[]⟩, .slice none 0 0, .slice pi m ci] 182 (0, 0))) (hm : L.length = m ∧ B ≤ w.heap.size) :
    Calls Tryz.prog 119 #[.slice (some ⟨w9.heap.size, 0, none⟩) 2 c0] w10 fun e w' => ∃ kp kc ip ic, e = .returned (.agg #[.int .i64 6, .string ⟨#[]⟩, .slice kp 2 kc, .slice ip 2 ic]) ∧ KP w' (B ≤ ·) (.mk 6 [] [kTextDoc, kEdits] [docJ us n, .mk 5 [] [] L]) kp kc ip ic ∧ Below w10.heap.size w10 w' := by
  obtain ⟨rfl, hB⟩ := hm
  have b := Below.on hb9 hb10
  exact object_row (w := w10) (g := w9.heap.size) (c0 := c0) (n := 2) (B := B) [(kTextDoc, ⟨docJ us n, kd, cd, id, dd⟩), (kEdits, ⟨.mk 5 [] [] L, none, 0, pi, ci⟩)] hr rfl (by omega) (by have := b.size; omega) (fun f hf => by
    simp only [List.mem_cons, List.not_mem_nil, or_false] at hf
    rcases hf with rfl | rfl
    · exact ⟨(kp_on' hk hb10).keep (Nat.le_refl _) (fun _ _ _ => rfl) (fun q hq _ => by omega), Nat.zero_le _⟩
    · exact ⟨kp_on' (kp_on' he hb9) hb10, Nat.zero_le _⟩) (fun f hf => by
    simp only [List.mem_cons, List.not_mem_nil, or_false] at hf
    rcases hf with rfl | rfl
    · exact (by decide : kTextDoc.length ≤ maxLen)
    · exact (by decide : kEdits.length ≤ maxLen)) [kTextDoc, kEdits] [docJ us n, .mk 5 [] [] L] rfl rfl
theorem obj_one {w V : World} {B : Nat} {L : List JV} {po : Option Addr} {co c0 : Nat} (he : KP w (B ≤ ·) (.mk 5 [] [] L) none 0 po co) (hb : Below w.heap.size w V) (hr : V.heap[w.heap.size]? = some (.cells #[.string ⟨#[100, 111, 99, 117, 109, 101, 110, 116, 67, 104, 97, 110, 103, 101, 115]⟩, .int .i64 5, .string ⟨#[]⟩, .slice none 0 0, .slice po L.length co] 182 (0, 0))) (hB : B ≤ w.heap.size) :
    Calls Tryz.prog 119 #[.slice (some ⟨w.heap.size, 0, none⟩) 1 c0] V fun e w' => ∃ kp kc ip ic, e = .returned (.agg #[.int .i64 6, .string ⟨#[]⟩, .slice kp 1 kc, .slice ip 1 ic]) ∧ KP w' (B ≤ ·) (.mk 6 [] [kDocCh] [.mk 5 [] [] L]) kp kc ip ic ∧ Below V.heap.size V w' :=
  object_row (w := V) (g := w.heap.size) (c0 := c0) (n := 1) (B := B) [(kDocCh, ⟨.mk 5 [] [] L, none, 0, po, co⟩)] hr rfl (by omega) (by have := hb.size; omega) (fun f hf => by
    obtain rfl := List.mem_singleton.1 hf
    exact ⟨kp_on' he hb, Nat.zero_le _⟩) (fun f hf => by
    obtain rfl := List.mem_singleton.1 hf
    exact (by decide : kDocCh.length ≤ maxLen)) [kDocCh] [.mk 5 [] [] L] rfl rfl
set_option maxRecDepth 100000 in
set_option maxHeartbeats 32000000 in
theorem changed122 {w : World} (hE : ∀ V, Below w.heap.size w V → Env V) {dg eg : Nat} {us : List UInt8} {U T : ByteArray} {v n : Int} {sp : Option Addr} {sc : Nat} {l : List SpV} (pos : Int → Int × Int)
    (hd : w.heap[dg]? = some (.cells #[.string U, .string T, .int .i64 v] 93 (0, 0))) (he : w.heap[eg]? = some (.cells #[.string U, .int .i64 n, .slice sp l.length sc] 95 (0, 0))) (hs : SplP w sp l) (hl : l.length ≤ 1000)
    (hA : ∀ s ∈ l, (((0 ≤ (pos s.fr).1 ∧ (pos s.fr).1 ≤ 9223372036854775807) ∧ (0 ≤ (pos s.fr).2 ∧ (pos s.fr).2 ≤ 9223372036854775807)) ∧ ((0 ≤ (pos s.till).1 ∧ (pos s.till).1 ≤ 9223372036854775807) ∧ (0 ≤ (pos s.till).2 ∧ (pos s.till).2 ≤ 9223372036854775807))) ∧ AtC w T s.fr (pos s.fr) ∧ AtC w T s.till (pos s.till) ∧ s.text.length ≤ maxLen)
    (hn : -9223372036854775808 ≤ n ∧ n ≤ 9223372036854775807) (hU : (⟨us.toArray⟩ : ByteArray) = U) (hUl : us.length ≤ maxLen) :
    Calls Tryz.prog 122 #[.slice (some ⟨dg, 0, none⟩) 1 1, .slice (some ⟨eg, 0, none⟩) 1 1] w fun e w' => ∃ kp kc ip ic, e = .returned (.agg #[.int .i64 6, .string ⟨#[]⟩, .slice kp 1 kc, .slice ip 1 ic]) ∧ KP w' (w.heap.size ≤ ·) (changedJ pos us n l) kp kc ip ic ∧ Below w.heap.size w w' := by
  obtain ⟨W0, hW0⟩ : ∃ W, w.alloc (.cells #[.int .i64 0, .string ⟨#[]⟩, .slice none 0 0, .slice none 0 0] 25) = W := ⟨_, rfl⟩
  have b0 := alloc_b hW0
  have z0 : W0.heap.size = w.heap.size + 1 := by rw [← hW0]; simp
  have hJ : JBox W0 w.heap.size := by rw [← hW0]; exact JBox.alloc _ _ _ _ _
  have h123 := array123 none 0 0 W0
  obtain ⟨I, hI⟩ : ∃ B : ByteArray, (⟨(itoa n).toArray⟩ : ByteArray) = B := ⟨_, rfl⟩
  have HII := Lib.hid (And.intro hU hI)
  have HUL := Lib.hid hUl
  have HNL : Hid ((itoa n).length ≤ maxLen) := Lib.hid (Nat.le_trans (itoa_short hn.1 hn.2) (by decide))
  have HWH : Hid (∀ V, Below w.heap.size w V → Calls Tryz.prog 126 #[.int .i64 n] V fun e w' => e = .returned (.agg #[.int .i64 3, .string I, .slice none 0 0, .slice none 0 0]) ∧ Below V.heap.size V w') := Lib.hid fun V hV => whole126 n hn.1 hn.2 I hI V (fun V' hV' => hE V' (Below.on hV hV'))
  have HD := Lib.hid hd
  have HX := Lib.hid he
  have HS := Lib.hid hs
  have HA := Lib.hid hA
  have HE := Lib.hid hE
  have HJ := Lib.hid hJ
  have HB0 := Lib.hid b0
  clear hE hd he hs hA hn hU hUl hI hJ b0
  go_enter Tryz.func122, Tryz.ntmps122
  go_upto_region 2 with (first
    | (go_at_call 123; refine h123.mono ?_; rintro e w1 ⟨rfl, hb1⟩))
  obtain ⟨W1, hW1⟩ : ∃ V, w1.alloc (.cells #[.int .i64 5, .string ⟨#[]⟩, .slice none 0 0, .slice none 0 0] 25) = V := ⟨_, rfl⟩
  rw [hW1]
  have hob0 := row_at hW1
  have hv1 := alloc_b hW1
  obtain ⟨ob, hoe⟩ : ∃ q, w1.heap.size = q := ⟨_, rfl⟩
  rw [hoe] at hob0
  simp only [hoe]
  have hobz : w.heap.size < ob := by have := hb1.size; omega
  have hBw1 : Below w.heap.size w W1 := Below.on HB0.out (Below.on hb1 hv1)
  have hCV0 : CV W1 (w.heap.size + 1) ob 5 ⟨#[]⟩ [] [] (.slice none 0 0) (.slice none 0 0) := ⟨hob0, World.ownsRow_nil _ _ _ _, World.ownsRow_nil _ _ _ _, by simp [Value.ownBlock], by simp [Value.ownBlock], by omega, fun c hc => by cases hc⟩
  have HJ1 := Lib.hid (HJ.out.same ((Below.on hb1 hv1).block _ HJ.out.lt))
  obtain ⟨i45_, hi45, hz450, hz451, hz452⟩ := info_parts info45
  have hrw := hBw1
  clear hb1 hv1 hob0 h123
  go_wp2_with fail
  go_loopw [16] (fun iv wr => ∃ (i : Nat) (Lo : List IC) (iw : Value), iv = .int .i64 i ∧ i ≤ 1 ∧ Lo.map (·.y) = [editJ pos us n l].take i ∧ CV wr (w.heap.size + 1) ob 5 ⟨#[]⟩ [] Lo (.slice none 0 0) iw ∧ Below w.heap.size w wr ∧ JBox wr w.heap.size) (fun iv _ => 1 - (RowKit.intOf iv).toNat)
  case atStart => exact ⟨0, [], _, rfl, Nat.zero_le _, rfl, hCV0, hBw1, HJ1.out⟩
  case round =>
    obtain ⟨i, Lo, iw, rfl, hi, hLo, hCo, hBo, hJo⟩ := hrel
    clear hCV0 hBw1 hrw
    obtain ⟨po, co, rfl⟩ := row_form hCo.ri
    have hLol : Lo.length = i := by
      have := congrArg List.length hLo
      rw [List.length_map, List.length_take] at this
      simpa [hi] using this
    by_cases hin : i < 1
    · obtain rfl : i = 0 := by omega
      have hLo1 : Lo.length ≤ 1 := by omega
      clear hLol
      have HCO1 := Lib.hid hCo
      have HBO1 := Lib.hid hBo
      have HJO1 := Lib.hid hJo
      have HLO := Lib.hid hLo
      have hxr := (hBo.block _ (ltS HX.out)).trans HX.out
      obtain ⟨wa, hwa⟩ : ∃ wa, wr.alloc (.cells #[.string U, .int .i64 n, .slice sp l.length sc] 95) = wa := ⟨_, rfl⟩
      obtain ⟨x0, x1, x2⟩ : wr.cell? ⟨eg, 0, none⟩ = some (.string U) ∧ wr.cell? ⟨eg, 1, none⟩ = some (.int .i64 n) ∧ wr.cell? ⟨eg, 2, none⟩ = some (.slice sp l.length sc) := by
        refine ⟨?_, ?_, ?_⟩ <;> simp [World.cell?, hxr]
      have hra := alloc_b hwa
      have hxb := row_at hwa
      obtain ⟨xb, hxe⟩ : ∃ q, wr.heap.size = q := ⟨_, rfl⟩
      have hxlt : xb < wa.heap.size := by rw [← hxe, ← hwa]; simp
      rw [hxe] at hxb
      have y0 : wa.cell? ⟨xb, 0, none⟩ = some (.string U) := by simp [World.cell?, hxb]
      have hBa := Below.on hBo hra
      have h118 := find118 ((hBa.block _ (ltS HD.out)).trans HD.out)
      have HXB := Lib.hid hxb
      have HBA := Lib.hid hBa
      have HRA := Lib.hid hra
      clear hCo hBo hJo hLo hxr hra hxb hBa
      go_upto_region 8 with (first
        | (go_at_call 118; refine h118.mono ?_; rintro e w2 ⟨rfl, hb2⟩; have h123 := array123 none 0 0 w2)
        | (go_at_call 123; refine h123.mono ?_; rintro e w3 ⟨rfl, hb3⟩))
      obtain ⟨W3, hW3⟩ : ∃ V, w3.alloc (.cells #[.int .i64 5, .string ⟨#[]⟩, .slice none 0 0, .slice none 0 0] 25) = V := ⟨_, rfl⟩
      rw [hW3]
      have heb0 := row_at hW3
      have hv3 := alloc_b hW3
      obtain ⟨eb, hee⟩ : ∃ q, w3.heap.size = q := ⟨_, rfl⟩
      rw [hee] at heb0
      simp only [hee]
      have hebz : w2.heap.size ≤ eb := by have := hb3.size; omega
      have hs2 := hb2.size
      have hCV3 : CV W3 w2.heap.size eb 5 ⟨#[]⟩ [] [] (.slice none 0 0) (.slice none 0 0) := ⟨heb0, World.ownsRow_nil _ _ _ _, World.ownsRow_nil _ _ _ _, by simp [Value.ownBlock], by simp [Value.ownBlock], hebz, fun c hc => by cases hc⟩
      have hB23 : Below w2.heap.size w2 W3 := Below.on hb3 hv3
      have hB2 : Below w.heap.size w w2 := Below.on HBA.out hb2
      have hxb2 := (hb2.block _ hxlt).trans HXB.out
      have hxl2 : xb < w2.heap.size := by omega
      have hxb3 := (hB23.block _ hxl2).trans hxb2
      have y2 : W3.cell? ⟨xb, 2, none⟩ = some (.slice sp l.length sc) := by simp [World.cell?, hxb3]
      have HXB2 := Lib.hid hxb2
      have HB2 := Lib.hid hB2
      have HW2 : Hid (Below wr.heap.size wr w2) := Lib.hid (Below.on HRA.out hb2)
      clear hb2 hb3 hv3 heb0 hxb2 hxb3 hB2 h118 h123
      go_wp2_with fail
      go_loopw [33] (fun iv wr => ∃ (j : Nat) (Ls : List IC) (jw : Value), iv = .int .i64 j ∧ j ≤ l.length ∧ Ls.map (·.y) = (l.map (rowJ pos)).take j ∧ CV wr w2.heap.size eb 5 ⟨#[]⟩ [] Ls (.slice none 0 0) jw ∧ Below w2.heap.size w2 wr) (fun iv _ => l.length - (RowKit.intOf iv).toNat)
      case atStart => exact ⟨0, [], _, rfl, Nat.zero_le _, rfl, hCV3, hB23⟩
      case round =>
        obtain ⟨j, Ls, jw, rfl, hj, hLs, hC, hB⟩ := hrel
        clear hCV3 hB23 y2 y0 x0 x1 x2 hin
        obtain ⟨pi, ci, rfl⟩ := row_form hC.ri
        have hLsl : Ls.length = j := by
          have := congrArg List.length hLs
          rw [List.length_map, List.length_take, List.length_map] at this
          omega
        have hLn : Ls.length ≤ 1000 := by omega
        have HLS0 := Lib.hid hLs
        have HLL := Lib.hid hLsl
        clear hLs hLsl
        by_cases hjn : (j : Int) < (l.length : Int)
        · obtain ⟨s, hs⟩ : ∃ s, l[j]? = some s := ⟨_, List.getElem?_eq_getElem (by omega)⟩
          obtain ⟨a, rfl, hsc⟩ := HS.out j s hs
          have hBj : Below w.heap.size w wr := Below.on HB2.out hB
          obtain ⟨g0, g1, g2, _⟩ := hsc.below hBj
          obtain ⟨TT, hTT⟩ : ∃ B : ByteArray, (⟨s.text.toArray⟩ : ByteArray) = B := ⟨_, rfl⟩
          rw [hTT] at g2
          obtain ⟨wa, hwa⟩ : ∃ wa, wr.alloc (.cells #[.int .i64 s.fr, .int .i64 s.till, .string TT] 107) = wa := ⟨_, rfl⟩
          have hra := alloc_b hwa
          have hyb := row_at hwa
          have hwz : wr.heap.size < wa.heap.size := by rw [← hwa]; simp
          have hBa : Below w2.heap.size w2 wa := Below.on hB hra
          have hBd : Below w.heap.size w wa.drew := Below.on HB2.out hBa.drew
          have hCa := hC.below hra
          obtain ⟨hp, hA1, hA2, hTL⟩ := HA.out s (List.mem_of_getElem? hs)
          have h120 := span120 (fun V hV => HE.out V (Below.on hBd hV)) T s.fr s.till (pos s.fr) (pos s.till) hp.1 hp.2 (hA1.below hBd) (hA2.below hBd)
          have HS5 : Hid (∀ wx, FrP (fun q => (Value.slice pi Ls.length ci).ownBlock = some q) wa wx → (wx.cell? ⟨wr.heap.size, 0, none⟩ = some (.int .i64 s.fr) ∧ wx.cell? ⟨wr.heap.size, 1, none⟩ = some (.int .i64 s.till) ∧ wx.cell? ⟨wr.heap.size, 2, none⟩ = some (.string TT)) ∧ wx.cell? ⟨eb, 3, none⟩ = some (.slice pi Ls.length ci) ∧ wx.frozen? ⟨eb, 3, none⟩ = false) := Lib.hid fun wx hF => by
            have e1 := (hF.block wr.heap.size hwz (fun e => by have := (row_lt hC.ri e).2; omega)).trans hyb
            have e2 := (hF.block eb (Array.getElem?_eq_some_iff.1 hCa.hd).1 hC.ni).trans hCa.hd
            refine ⟨⟨?_, ?_, ?_⟩, ?_, ?_⟩ <;> simp [World.cell?, World.frozen?, e1, e2]
          have HCV := Lib.hid hCa
          have HTT := Lib.hid hTT
          have HTL := Lib.hid hTL
          have HSJ := Lib.hid hs
          have HBA2 := Lib.hid hBa
          have HSZ : Hid (w2.heap.size ≤ wa.heap.size) := Lib.hid hBa.size
          clear hC hCa hTT hs hyb hra hBa hBd hB hBj hp hA1 hA2 hTL hsc
          go_upto_region 11 with fail
          refine wp_region_late (S := fun v => (v.cell? ⟨wr.heap.size, 0, none⟩ = some (.int .i64 s.fr) ∧ v.cell? ⟨wr.heap.size, 1, none⟩ = some (.int .i64 s.till) ∧ v.cell? ⟨wr.heap.size, 2, none⟩ = some (.string TT)) ∧ v.cell? ⟨eb, 3, none⟩ = some (.slice pi Ls.length ci) ∧ v.frozen? ⟨eb, 3, none⟩ = false) 18 (by kernel_rfl) (HS5.out _ ((FrP.refl _ _).drew)) (fun hHeld => ?_)
          refine wpAnyU_take (i := 0) (oi := { dst := some 37, op := Op.fieldAddr 25 (Operand.tmp 10) 3, type := 0, pos := "lsp.go:216", after := #[], guard := none }) (v := ?_) [1, 16, 17, 18] rfl (by kernel_rfl) (by kernel_rfl) (by kernel_rfl) (by kernel_rfl) (fun _ _ _ h => h) (Or.inl ⟨by rfl, ?_⟩) (by assumption) ?_
          rotate_left
          · intro w hS; obtain ⟨⟨hS0, hS1, hS2⟩, hS3, hS4⟩ := hS; go_simp; with_reducible rfl
          try simp only [Act.put, List.setIfInBounds_toArray, List.set_cons_zero, List.set_cons_succ]
          refine wpAnyU_take (i := 1) (oi := { dst := some 38, op := Op.load 23 (Operand.tmp 37), type := 23, pos := "lsp.go:216", after := #[{ on := 0, ground := Ground.data }], guard := none }) (v := ?_) [16, 17, 18] rfl (by kernel_rfl) (by kernel_rfl) (by kernel_rfl) (by kernel_rfl) (fun _ _ _ h => h) (Or.inl ⟨by rfl, ?_⟩) (by assumption) ?_
          rotate_left
          · intro w hS; obtain ⟨⟨hS0, hS1, hS2⟩, hS3, hS4⟩ := hS; go_simp; with_reducible rfl
          try simp only [Act.put, List.setIfInBounds_toArray, List.set_cons_zero, List.set_cons_succ]
          refine wpAnyU_take (i := 2) (oi := { dst := some 39, op := Op.move (Operand.tmp 8), type := 9, pos := "lsp.go:216", after := #[], guard := none }) (v := ?_) [7, 8, 11, 12, 13, 14, 15, 16, 17, 18] rfl (by kernel_rfl) (by kernel_rfl) (by kernel_rfl) (by kernel_rfl) (fun _ _ _ h => h) (Or.inl ⟨by rfl, ?_⟩) (by assumption) ?_
          rotate_left
          · intro w hS; obtain ⟨⟨hS0, hS1, hS2⟩, hS3, hS4⟩ := hS; go_simp; with_reducible rfl
          try simp only [Act.put, List.setIfInBounds_toArray, List.set_cons_zero, List.set_cons_succ]
          refine wpAnyU_take (i := 3) (oi := { dst := some 40, op := Op.fieldAddr 107 (Operand.tmp 12) 0, type := 0, pos := "lsp.go:216", after := #[], guard := none }) (v := ?_) [4, 7, 8, 11, 12, 13, 14, 15, 16, 17, 18] rfl (by kernel_rfl) (by kernel_rfl) (by kernel_rfl) (by kernel_rfl) (fun _ _ _ h => h) (Or.inl ⟨by rfl, ?_⟩) (by assumption) ?_
          rotate_left
          · intro w hS; obtain ⟨⟨hS0, hS1, hS2⟩, hS3, hS4⟩ := hS; go_simp; with_reducible rfl
          try simp only [Act.put, List.setIfInBounds_toArray, List.set_cons_zero, List.set_cons_succ]
          refine wpAnyU_take (i := 4) (oi := { dst := some 41, op := Op.load 3 (Operand.tmp 40), type := 3, pos := "lsp.go:216", after := #[{ on := 3, ground := Ground.data }], guard := none }) (v := ?_) [7, 8, 11, 12, 13, 14, 15, 16, 17, 18] rfl (by kernel_rfl) (by kernel_rfl) (by kernel_rfl) (by kernel_rfl) (fun _ _ _ h => h) (Or.inl ⟨by rfl, ?_⟩) (by assumption) ?_
          rotate_left
          · intro w hS; obtain ⟨⟨hS0, hS1, hS2⟩, hS3, hS4⟩ := hS; go_simp; with_reducible rfl
          try simp only [Act.put, List.setIfInBounds_toArray, List.set_cons_zero, List.set_cons_succ]
          refine wpAnyU_take (i := 5) (oi := { dst := some 42, op := Op.fieldAddr 107 (Operand.tmp 12) 1, type := 0, pos := "lsp.go:216", after := #[], guard := none }) (v := ?_) [6, 7, 8, 11, 12, 13, 14, 15, 16, 17, 18] rfl (by kernel_rfl) (by kernel_rfl) (by kernel_rfl) (by kernel_rfl) (fun _ _ _ h => h) (Or.inl ⟨by rfl, ?_⟩) (by assumption) ?_
          rotate_left
          · intro w hS; obtain ⟨⟨hS0, hS1, hS2⟩, hS3, hS4⟩ := hS; go_simp; with_reducible rfl
          try simp only [Act.put, List.setIfInBounds_toArray, List.set_cons_zero, List.set_cons_succ]
          refine wpAnyU_take (i := 6) (oi := { dst := some 43, op := Op.load 3 (Operand.tmp 42), type := 3, pos := "lsp.go:216", after := #[{ on := 5, ground := Ground.data }], guard := none }) (v := ?_) [7, 8, 11, 12, 13, 14, 15, 16, 17, 18] rfl (by kernel_rfl) (by kernel_rfl) (by kernel_rfl) (by kernel_rfl) (fun _ _ _ h => h) (Or.inl ⟨by rfl, ?_⟩) (by assumption) ?_
          rotate_left
          · intro w hS; obtain ⟨⟨hS0, hS1, hS2⟩, hS3, hS4⟩ := hS; go_simp; with_reducible rfl
          try simp only [Act.put, List.setIfInBounds_toArray, List.set_cons_zero, List.set_cons_succ]
          refine wpAnyU_take (i := 9) (oi := { dst := some 46, op := Op.fieldAddr 107 (Operand.tmp 12) 2, type := 0, pos := "lsp.go:216", after := #[], guard := none }) (v := ?_) [10, 11, 12, 13, 14, 15, 16, 17, 18] rfl (by kernel_rfl) (by kernel_rfl) (by kernel_rfl) (by kernel_rfl) (fun _ _ _ h => h) (Or.inl ⟨by rfl, ?_⟩) (by assumption) ?_
          rotate_left
          · intro w hS; obtain ⟨⟨hS0, hS1, hS2⟩, hS3, hS4⟩ := hS; go_simp; with_reducible rfl
          try simp only [Act.put, List.setIfInBounds_toArray, List.set_cons_zero, List.set_cons_succ]
          refine wpAnyU_take (i := 10) (oi := { dst := some 47, op := Op.load 9 (Operand.tmp 46), type := 9, pos := "lsp.go:216", after := #[{ on := 9, ground := Ground.data }], guard := none }) (v := ?_) [11, 12, 13, 14, 15, 16, 17, 18] rfl (by kernel_rfl) (by kernel_rfl) (by kernel_rfl) (by kernel_rfl) (fun _ _ _ h => h) (Or.inl ⟨by rfl, ?_⟩) (by assumption) ?_
          rotate_left
          · intro w hS; obtain ⟨⟨hS0, hS1, hS2⟩, hS3, hS4⟩ := hS; go_simp; with_reducible rfl
          try simp only [Act.put, List.setIfInBounds_toArray, List.set_cons_zero, List.set_cons_succ]
          refine wpAnyU_ready (rs := [7]) (by kernel_rfl) (by simp) (AllReadyU.cons (o := { dst := some 44, op := Op.call { callee := Callee.value (Operand.func 120), args := #[Operand.tmp 39, Operand.tmp 41, Operand.tmp 43], argTypes := #[9, 3, 3] }, type := 25, pos := "lsp.go:216", after := #[{ on := 2, ground := Ground.data }, { on := 4, ground := Ground.data }, { on := 6, ground := Ground.data }], guard := none }) rfl (fun K hK => ?_) AllReadyU.nil)
          rw [if_pos (by rfl)]
          go_simp
          (go_at_call 120; refine h120.mono ?_; rintro e w6 ⟨ka, ca, ia, da, rfl, hka, hb6⟩; have F6 : FrP (fun q => (Value.slice pi Ls.length ci).ownBlock = some q) wa w6 := (FrP.refl _ _).drew.trans (FrP.of_none (gb_below' hb6)); have h121 := text121 TT w6)
          refine hK.out _ _ (fun _ => HS5.out _ F6) (fun hS2 => ?_)
          replace hS2 := hS2 (by decide)
          clear hK K
          try simp only [Act.put, List.setIfInBounds_toArray, List.set_cons_zero, List.set_cons_succ]
          refine wpAnyU_pure (i := 8) (oi := { dst := some 45, op := Op.build 182 #[(0, Operand.const (Value.string { data := #[114, 97, 110, 103, 101] })), (1, Operand.tmp 44)], type := 182, pos := "lsp.go:216", after := #[{ on := 7, ground := Ground.data }], guard := none }) (v := ?_) rfl (by kernel_rfl) (by kernel_rfl) (by kernel_rfl) (by kernel_rfl) (fun _ _ _ h => h) (Or.inl ⟨by rfl, ?_⟩) (fun _ => by assumption) ?_
          rotate_left
          · intro w _; go_simp; with_reducible rfl
          try simp only [Act.put, List.setIfInBounds_toArray, List.set_cons_zero, List.set_cons_succ]
          refine wpAnyU_ready (rs := [11]) (by kernel_rfl) (by simp) (AllReadyU.cons (o := { dst := some 48, op := Op.call { callee := Callee.value (Operand.func 121), args := #[Operand.tmp 47], argTypes := #[9] }, type := 25, pos := "lsp.go:216", after := #[{ on := 10, ground := Ground.data }, { on := 7, ground := Ground.chain }], guard := none }) rfl (fun K hK => ?_) AllReadyU.nil)
          rw [if_pos (by rfl)]
          go_simp
          (go_at_call 121; refine h121.mono ?_; rintro e w7 ⟨rfl, hb7⟩; have F7 := F6.trans (FrP.of_none (P := (fun q => (Value.slice pi Ls.length ci).ownBlock = some q)) (gb_below' hb7)))
          refine hK.out _ _ (fun _ => HS5.out _ F7) (fun hS2 => ?_)
          replace hS2 := hS2 (by decide)
          clear hK K
          try simp only [Act.put, List.setIfInBounds_toArray, List.set_cons_zero, List.set_cons_succ]
          refine wpAnyU_pure (i := 12) (oi := { dst := some 49, op := Op.build 182 #[(0, Operand.const (Value.string { data := #[110, 101, 119, 84, 101, 120, 116] })), (1, Operand.tmp 48)], type := 182, pos := "lsp.go:216", after := #[{ on := 11, ground := Ground.data }], guard := none }) (v := ?_) rfl (by kernel_rfl) (by kernel_rfl) (by kernel_rfl) (by kernel_rfl) (fun _ _ _ h => h) (Or.inl ⟨by rfl, ?_⟩) (fun _ => by assumption) ?_
          rotate_left
          · intro w _; go_simp; with_reducible rfl
          try simp only [Act.put, List.setIfInBounds_toArray, List.set_cons_zero, List.set_cons_succ]
          refine wpAnyU_ready (rs := [13]) (by kernel_rfl) (by simp) (AllReadyU.cons (o := { dst := some 50, op := Op.buildSlice 235 2 #[(0, Operand.tmp 45), (1, Operand.tmp 49)], type := 235, pos := "lsp.go:216", after := #[{ on := 8, ground := Ground.data }, { on := 12, ground := Ground.data }], guard := none }) rfl (fun K hK => ?_) AllReadyU.nil)
          rw [if_pos (by rfl)]
          go_simp; obtain ⟨w8, hw8⟩ : ∃ V, w7.alloc (.cells #[.string ⟨#[114, 97, 110, 103, 101]⟩, .int .i64 6, .string ⟨#[]⟩, .slice ka 2 ca, .slice ia 2 da, .string ⟨#[110, 101, 119, 84, 101, 120, 116]⟩, .int .i64 4, .string TT, .slice none 0 0, .slice none 0 0] 182) = V := ⟨_, rfl⟩; have hb8 := alloc_b hw8; have hr8 := row_at hw8; rw [hw8]; have F8 := F7.trans (FrP.of_none (P := (fun q => (Value.slice pi Ls.length ci).ownBlock = some q)) (gb_below' hb8)); have h119 := obj_row11 (c0 := 2) hb6 hka hb7 hb8 hr8 HTT.out HTL.out; have hri8 := row_fr HCV.out.ri (((FrP.refl (fun _ => False) _).drew.trans (FrP.of_none (gb_below' hb6))).trans ((FrP.of_none (gb_below' hb7)).trans (FrP.of_none (gb_below' hb8)))) (fun _ _ h => h)
          refine hK.out _ _ (fun _ => HS5.out _ F8) (fun hS2 => ?_)
          replace hS2 := hS2 (by decide)
          clear hK K
          try simp only [Act.put, List.setIfInBounds_toArray, List.set_cons_zero, List.set_cons_succ]
          refine wpAnyU_ready (rs := [14]) (by kernel_rfl) (by simp) (AllReadyU.cons (o := { dst := some 51, op := Op.call { callee := Callee.value (Operand.func 119), args := #[Operand.tmp 50], argTypes := #[235] }, type := 25, pos := "lsp.go:216", after := #[{ on := 13, ground := Ground.data }, { on := 11, ground := Ground.chain }], guard := none }) rfl (fun K hK => ?_) AllReadyU.nil)
          rw [if_pos (by rfl)]
          go_simp
          (go_at_call 119; refine h119.mono ?_; rintro e w9 ⟨kb, cb, ib, db, rfl, hkb, hb9⟩; have F9 := F8.trans (FrP.of_none (P := (fun q => (Value.slice pi Ls.length ci).ownBlock = some q)) (gb_below' hb9)); have hri9 := row_fr hri8 (FrP.of_none (P := fun _ => False) (gb_below' hb9)) (fun _ _ h => h))
          refine hK.out _ _ (fun _ => HS5.out _ F9) (fun hS2 => ?_)
          replace hS2 := hS2 (by decide)
          clear hK K
          try simp only [Act.put, List.setIfInBounds_toArray, List.set_cons_zero, List.set_cons_succ]
          refine wpAnyU_ready (rs := [15]) (by kernel_rfl) (by simp) (AllReadyU.cons (o := { dst := some 52, op := Op.buildSlice 23 1 #[(0, Operand.tmp 51)], type := 23, pos := "lsp.go:216", after := #[{ on := 14, ground := Ground.data }], guard := none }) rfl (fun K hK => ?_) AllReadyU.nil)
          rw [if_pos (by rfl)]
          go_simp
          refine hK.out _ _ (fun _ => HS5.out _ (F9.alloc _)) (fun hS2 => ?_)
          replace hS2 := hS2 (by decide)
          clear hK K
          try simp only [Act.put, List.setIfInBounds_toArray, List.set_cons_zero, List.set_cons_succ]
          refine wpAnyU_ready (rs := [16]) (by kernel_rfl) (by simp) (AllReadyU.cons (o := { dst := some 53, op := Op.call { callee := Callee.builtin Builtin.append, args := #[Operand.tmp 38, Operand.tmp 52], argTypes := #[23, 23] }, type := 23, pos := "lsp.go:216", after := #[{ on := 1, ground := Ground.data }, { on := 15, ground := Ground.data }, { on := 14, ground := Ground.chain }], guard := none }) rfl (fun K hK => ?_) AllReadyU.nil)
          rw [if_pos (by rfl)]
          refine wp_append_own_at (.tmp 38) (.tmp 52) 23 rfl w2.heap.size 25 i45_ _ 4 72 Tryz.underlying23 hi45 hz450 hz451 hz452 rfl (by decide) _ _ _ rfl (hri9.alloc (.cells #[.int .i64 6, .string ⟨#[]⟩, .slice kb 2 cb, .slice ib 2 db] 25)) ⟨w9.heap.size, 0, none⟩ 1 1 [.int .i64 6, .string ⟨#[]⟩, .slice kb 2 cb, .slice ib 2 db] rfl rfl (new_cells _ _ _) (fun u hu => by simp only [List.mem_cons, List.not_mem_nil, or_false] at hu; rcases hu with rfl | rfl | rfl | rfl <;> rfl) (by unfold maxLen; omega) (by omega) (by have := F9.size; have := HSZ.out; simp; omega) ?_; intro iv2 wx hi2 hgi hat2; have FX := (F9.alloc (.cells #[.int .i64 6, .string ⟨#[]⟩, .slice kb 2 cb, .slice ib 2 db] 25)).trans (FrP.of_row hgi (fun k hk => hk)); obtain ⟨y1, y2, y3⟩ := HS5.out _ FX; obtain ⟨pw, cw, rfl⟩ := row_form hi2
          refine hK.out _ _ (fun _ => HS5.out _ FX) (fun hS2 => ?_)
          replace hS2 := hS2 (by decide)
          clear hK K
          try simp only [Act.put, List.setIfInBounds_toArray, List.set_cons_zero, List.set_cons_succ]
          refine wpAnyU_pure (i := 17) (oi := { dst := some 54, op := Op.fieldAddr 25 (Operand.tmp 10) 3, type := 0, pos := "lsp.go:216", after := #[{ on := 0, ground := Ground.phase }, { on := 1, ground := Ground.phase }, { on := 2, ground := Ground.phase }, { on := 3, ground := Ground.phase }, { on := 4, ground := Ground.phase }, { on := 5, ground := Ground.phase }, { on := 6, ground := Ground.phase }, { on := 7, ground := Ground.phase }, { on := 8, ground := Ground.phase }, { on := 9, ground := Ground.phase }, { on := 10, ground := Ground.phase }, { on := 11, ground := Ground.phase }, { on := 12, ground := Ground.phase }, { on := 13, ground := Ground.phase }, { on := 14, ground := Ground.phase }, { on := 15, ground := Ground.phase }, { on := 16, ground := Ground.phase }], guard := none }) (v := ?_) rfl (by kernel_rfl) (by kernel_rfl) (by kernel_rfl) (by kernel_rfl) (fun _ _ _ h => h) (Or.inl ⟨by rfl, ?_⟩) (fun _ => by assumption) ?_
          rotate_left
          · intro w _; go_simp; with_reducible rfl
          try simp only [Act.put, List.setIfInBounds_toArray, List.set_cons_zero, List.set_cons_succ]
          refine wpAnyU_ready (rs := [18]) (by kernel_rfl) (by simp) (AllReadyU.cons (o := { dst := none, op := Op.store 23 (Operand.tmp 54) (Operand.tmp 53), type := 0, pos := "lsp.go:216", after := #[{ on := 17, ground := Ground.data }, { on := 16, ground := Ground.data }, { on := 16, ground := Ground.chain }, { on := 0, ground := Ground.phase }, { on := 1, ground := Ground.phase }, { on := 2, ground := Ground.phase }, { on := 3, ground := Ground.phase }, { on := 4, ground := Ground.phase }, { on := 5, ground := Ground.phase }, { on := 6, ground := Ground.phase }, { on := 7, ground := Ground.phase }, { on := 8, ground := Ground.phase }, { on := 9, ground := Ground.phase }, { on := 10, ground := Ground.phase }, { on := 11, ground := Ground.phase }, { on := 12, ground := Ground.phase }, { on := 13, ground := Ground.phase }, { on := 14, ground := Ground.phase }, { on := 15, ground := Ground.phase }, { on := 16, ground := Ground.phase }], guard := none }) rfl (fun K hK => ?_) AllReadyU.nil)
          rw [if_pos (by rfl)]
          go_simp
          refine hK.out _ _ (fun h => absurd h (by decide)) (fun _ => ?_)
          clear hK K
          try simp only [Act.put, List.setIfInBounds_toArray, List.set_cons_zero, List.set_cons_succ]
          refine wpAnyU_done (by kernel_rfl) ?_ _
          go_wp2_with fail
          have b9 := Below.on hb6 (Below.on hb7 (Below.on hb8 hb9))
          have hadd := CV.add (c := ⟨rowJ pos s, kb, cb, ib, db⟩) (HCV.out.below (Below.refl _ _).drew) (World.grownBy.refl wa.drew none) (gb_below' b9) (World.grownBy_alloc w9 (.cells #[.int .i64 6, .string ⟨#[]⟩, .slice kb 2 cb, .slice ib 2 db] 25) none) hgi hat2 hi2 ⟨hkb, Nat.zero_le _⟩
          go_roundw
          case rel => exact ⟨j + 1, Ls ++ [⟨rowJ pos s, kb, cb, ib, db⟩], _, by go_num, by omega, by rw [List.map_append, HLS0.out, List.take_add_one, List.getElem?_map, HSJ.out]; rfl, hadd.1, below_fr HBA2.out.drew (Nat.le_refl _) hadd.2 (fun b hb => by
            rcases hb with rfl | hb
            · exact hebz
            · exact (row_lt HCV.out.ri hb).1)⟩
          case measure => simp [RowKit.intOf]; omega
        · obtain rfl : j = l.length := by omega
          obtain ⟨wa, rfl⟩ : ∃ V, V = wr := ⟨_, rfl⟩
          have hHe := HCO1.out.ri
          have hcob := HCO1.out.below (Below.on HW2.out hB)
          have hHS := HLS0.out
          rw [List.take_of_length_le (by simp)] at hHS
          obtain ⟨kp, kc, ip, ic, e1, e2, hke⟩ := hC.made (s := []) ⟨by unfold maxLen; omega, by unfold maxLen; simp, fun s hs => by cases hs⟩
          injection e1 with a1 a2 a3
          injection e2 with a4 a5 a6
          subst a1 a3 a4 a6
          clear a2 a5
          rw [hHS] at hke
          have HKE := Lib.hid (hke.fr ((FrP.refl (fun _ => False) wa).drew) (fun _ _ h => h))
          have HLS : Hid ((l.map (rowJ pos)).length = Ls.length ∧ w2.heap.size ≤ wa.drew.heap.size) := Lib.hid ⟨by rw [List.length_map, HLL.out], hB.size⟩
          have HSZ : Hid (w.heap.size + 1 ≤ wa.heap.size) := Lib.hid (by have := hB.size; have := HJO1.out.lt; have := HW2.out.size; omega)
          have hxa := (hB.block _ hxl2).trans HXB2.out
          have HBW := Lib.hid hB
          have HBD : Hid (Below w.heap.size w wa.drew) := Lib.hid (Below.on HB2.out hB.drew)
          have HW : Hid (∀ V, Below wa.drew.heap.size wa.drew V → Calls Tryz.prog 126 #[.int .i64 n] V fun e w' => e = .returned (.agg #[.int .i64 3, .string I, .slice none 0 0, .slice none 0 0]) ∧ Below V.heap.size V w') := Lib.hid fun V hV => HWH.out V (Below.on HBD.out hV)
          have h121 := text121 U wa.drew
          have HS5 : Hid (∀ wx, FrP (fun q => (Value.slice po Lo.length co).ownBlock = some q) wa wx → (wx.cell? ⟨xb, 0, none⟩ = some (.string U) ∧ wx.cell? ⟨xb, 1, none⟩ = some (.int .i64 n)) ∧ (wx.cell? ⟨eb, 0, none⟩ = some (.int .i64 5) ∧ wx.cell? ⟨eb, 1, none⟩ = some (.string ⟨#[]⟩) ∧ wx.cell? ⟨eb, 2, none⟩ = some (.slice none 0 0) ∧ wx.cell? ⟨eb, 3, none⟩ = some (.slice pi Ls.length ci)) ∧ wx.cell? ⟨ob, 3, none⟩ = some (.slice po Lo.length co) ∧ wx.frozen? ⟨ob, 3, none⟩ = false) := Lib.hid fun wx hF => by
            have e1 := (hF.block xb (by have := hB.size; omega) (fun e => by have := (row_lt hHe e).2; omega)).trans hxa
            have e2 := (hF.block eb (Array.getElem?_eq_some_iff.1 hC.hd).1 (fun e => by have := (row_lt hHe e).2; omega)).trans hC.hd
            have e3 := (hF.block ob (Array.getElem?_eq_some_iff.1 hcob.hd).1 hcob.ni).trans hcob.hd
            obtain ⟨_, _, _, q3⟩ := cells4 e3
            refine ⟨⟨?_, ?_⟩, cells4 e2, q3, ?_⟩
            · simp [World.cell?, e1]
            · simp [World.cell?, e1]
            · simp [World.frozen?, e3]
          have HCO := Lib.hid hcob
          clear hC hcob hke hxa hB hHe hHS
          go_wp2_with fail
          go_upto_region 13 with fail
          refine wp_region_late (S := fun v => (v.cell? ⟨xb, 0, none⟩ = some (.string U) ∧ v.cell? ⟨xb, 1, none⟩ = some (.int .i64 n)) ∧ (v.cell? ⟨eb, 0, none⟩ = some (.int .i64 5) ∧ v.cell? ⟨eb, 1, none⟩ = some (.string ⟨#[]⟩) ∧ v.cell? ⟨eb, 2, none⟩ = some (.slice none 0 0) ∧ v.cell? ⟨eb, 3, none⟩ = some (.slice pi Ls.length ci)) ∧ v.cell? ⟨ob, 3, none⟩ = some (.slice po Lo.length co) ∧ v.frozen? ⟨ob, 3, none⟩ = false) 20 (by kernel_rfl) (HS5.out _ ((FrP.refl _ _).drew)) (fun hHeld => ?_)
          refine wpAnyU_take (i := 0) (oi := { dst := some 56, op := Op.fieldAddr 25 (Operand.tmp 5) 3, type := 0, pos := "lsp.go:218", after := #[], guard := none }) (v := ?_) [1, 18, 19, 20] rfl (by kernel_rfl) (by kernel_rfl) (by kernel_rfl) (by kernel_rfl) (fun _ _ _ h => h) (Or.inl ⟨by rfl, ?_⟩) (by assumption) ?_
          rotate_left
          · intro w hS; obtain ⟨⟨hS0, hS1⟩, ⟨hS2, hS3, hS4, hS5⟩, hS6, hS7⟩ := hS; go_simp; with_reducible rfl
          try simp only [Act.put, List.setIfInBounds_toArray, List.set_cons_zero, List.set_cons_succ]
          refine wpAnyU_take (i := 1) (oi := { dst := some 57, op := Op.load 23 (Operand.tmp 56), type := 23, pos := "lsp.go:218", after := #[{ on := 0, ground := Ground.data }], guard := none }) (v := ?_) [18, 19, 20] rfl (by kernel_rfl) (by kernel_rfl) (by kernel_rfl) (by kernel_rfl) (fun _ _ _ h => h) (Or.inl ⟨by rfl, ?_⟩) (by assumption) ?_
          rotate_left
          · intro w hS; obtain ⟨⟨hS0, hS1⟩, ⟨hS2, hS3, hS4, hS5⟩, hS6, hS7⟩ := hS; go_simp; with_reducible rfl
          try simp only [Act.put, List.setIfInBounds_toArray, List.set_cons_zero, List.set_cons_succ]
          refine wpAnyU_take (i := 2) (oi := { dst := some 58, op := Op.fieldAddr 95 (Operand.tmp 7) 0, type := 0, pos := "lsp.go:218", after := #[], guard := none }) (v := ?_) [3, 4, 5, 8, 9, 10, 11, 12, 15, 16, 17, 18, 19, 20] rfl (by kernel_rfl) (by kernel_rfl) (by kernel_rfl) (by kernel_rfl) (fun _ _ _ h => h) (Or.inl ⟨by rfl, ?_⟩) (by assumption) ?_
          rotate_left
          · intro w hS; obtain ⟨⟨hS0, hS1⟩, ⟨hS2, hS3, hS4, hS5⟩, hS6, hS7⟩ := hS; go_simp; with_reducible rfl
          try simp only [Act.put, List.setIfInBounds_toArray, List.set_cons_zero, List.set_cons_succ]
          refine wpAnyU_take (i := 3) (oi := { dst := some 59, op := Op.load 9 (Operand.tmp 58), type := 9, pos := "lsp.go:218", after := #[{ on := 2, ground := Ground.data }], guard := none }) (v := ?_) [4, 5, 8, 9, 10, 11, 12, 15, 16, 17, 18, 19, 20] rfl (by kernel_rfl) (by kernel_rfl) (by kernel_rfl) (by kernel_rfl) (fun _ _ _ h => h) (Or.inl ⟨by rfl, ?_⟩) (by assumption) ?_
          rotate_left
          · intro w hS; obtain ⟨⟨hS0, hS1⟩, ⟨hS2, hS3, hS4, hS5⟩, hS6, hS7⟩ := hS; go_simp; with_reducible rfl
          try simp only [Act.put, List.setIfInBounds_toArray, List.set_cons_zero, List.set_cons_succ]
          refine wpAnyU_take (i := 6) (oi := { dst := some 62, op := Op.fieldAddr 95 (Operand.tmp 7) 1, type := 0, pos := "lsp.go:218", after := #[], guard := none }) (v := ?_) [7, 8, 9, 10, 11, 12, 15, 16, 17, 18, 19, 20] rfl (by kernel_rfl) (by kernel_rfl) (by kernel_rfl) (by kernel_rfl) (fun _ _ _ h => h) (Or.inl ⟨by rfl, ?_⟩) (by assumption) ?_
          rotate_left
          · intro w hS; obtain ⟨⟨hS0, hS1⟩, ⟨hS2, hS3, hS4, hS5⟩, hS6, hS7⟩ := hS; go_simp; with_reducible rfl
          try simp only [Act.put, List.setIfInBounds_toArray, List.set_cons_zero, List.set_cons_succ]
          refine wpAnyU_take (i := 7) (oi := { dst := some 63, op := Op.load 2 (Operand.tmp 62), type := 2, pos := "lsp.go:218", after := #[{ on := 6, ground := Ground.data }], guard := none }) (v := ?_) [8, 9, 10, 11, 12, 15, 16, 17, 18, 19, 20] rfl (by kernel_rfl) (by kernel_rfl) (by kernel_rfl) (by kernel_rfl) (fun _ _ _ h => h) (Or.inl ⟨by rfl, ?_⟩) (by assumption) ?_
          rotate_left
          · intro w hS; obtain ⟨⟨hS0, hS1⟩, ⟨hS2, hS3, hS4, hS5⟩, hS6, hS7⟩ := hS; go_simp; with_reducible rfl
          try simp only [Act.put, List.setIfInBounds_toArray, List.set_cons_zero, List.set_cons_succ]
          refine wpAnyU_take (i := 13) (oi := { dst := some 69, op := Op.load 25 (Operand.tmp 10), type := 25, pos := "lsp.go:218", after := #[], guard := none }) (v := ?_) [14, 15, 16, 17, 18, 19, 20] rfl (by kernel_rfl) (by kernel_rfl) (by kernel_rfl) (by kernel_rfl) (fun _ _ _ h => h) (Or.inl ⟨by rfl, ?_⟩) (by assumption) ?_
          rotate_left
          · intro w hS; obtain ⟨⟨hS0, hS1⟩, ⟨hS2, hS3, hS4, hS5⟩, hS6, hS7⟩ := hS; go_simp; with_reducible rfl
          try simp only [Act.put, List.setIfInBounds_toArray, List.set_cons_zero, List.set_cons_succ]
          refine wpAnyU_pure (i := 14) (oi := { dst := some 70, op := Op.build 182 #[(0, Operand.const (Value.string { data := #[101, 100, 105, 116, 115] })), (1, Operand.tmp 69)], type := 182, pos := "lsp.go:218", after := #[{ on := 13, ground := Ground.data }], guard := none }) (v := ?_) rfl (by kernel_rfl) (by kernel_rfl) (by kernel_rfl) (by kernel_rfl) (fun _ _ _ h => h) (Or.inl ⟨by rfl, ?_⟩) (fun _ => by assumption) ?_
          rotate_left
          · intro w _; go_simp; with_reducible rfl
          try simp only [Act.put, List.setIfInBounds_toArray, List.set_cons_zero, List.set_cons_succ]
          refine wpAnyU_ready (rs := [4]) (by kernel_rfl) (by simp) (AllReadyU.cons (o := { dst := some 60, op := Op.call { callee := Callee.value (Operand.func 121), args := #[Operand.tmp 59], argTypes := #[9] }, type := 25, pos := "lsp.go:218", after := #[{ on := 3, ground := Ground.data }], guard := none }) rfl (fun K hK => ?_) AllReadyU.nil)
          rw [if_pos (by rfl)]
          go_simp
          (go_at_call 121; refine h121.mono ?_; rintro e w6 ⟨rfl, hb6⟩; have F6 : FrP (fun q => (Value.slice po Lo.length co).ownBlock = some q) wa w6 := (FrP.refl _ _).drew.trans (FrP.of_none (gb_below' hb6)); have h126 := HW.out w6 hb6)
          refine hK.out _ _ (fun _ => HS5.out _ F6) (fun hS2 => ?_)
          replace hS2 := hS2 (by decide)
          clear hK K
          try simp only [Act.put, List.setIfInBounds_toArray, List.set_cons_zero, List.set_cons_succ]
          refine wpAnyU_pure (i := 5) (oi := { dst := some 61, op := Op.build 182 #[(0, Operand.const (Value.string { data := #[117, 114, 105] })), (1, Operand.tmp 60)], type := 182, pos := "lsp.go:218", after := #[{ on := 4, ground := Ground.data }], guard := none }) (v := ?_) rfl (by kernel_rfl) (by kernel_rfl) (by kernel_rfl) (by kernel_rfl) (fun _ _ _ h => h) (Or.inl ⟨by rfl, ?_⟩) (fun _ => by assumption) ?_
          rotate_left
          · intro w _; go_simp; with_reducible rfl
          try simp only [Act.put, List.setIfInBounds_toArray, List.set_cons_zero, List.set_cons_succ]
          refine wpAnyU_ready (rs := [8]) (by kernel_rfl) (by simp) (AllReadyU.cons (o := { dst := some 64, op := Op.call { callee := Callee.value (Operand.func 126), args := #[Operand.tmp 63], argTypes := #[2] }, type := 25, pos := "lsp.go:218", after := #[{ on := 7, ground := Ground.data }, { on := 4, ground := Ground.chain }], guard := none }) rfl (fun K hK => ?_) AllReadyU.nil)
          rw [if_pos (by rfl)]
          go_simp
          (go_at_call 126; refine h126.mono ?_; rintro e w7 ⟨rfl, hb7⟩; have F7 := F6.trans (FrP.of_none (P := (fun q => (Value.slice po Lo.length co).ownBlock = some q)) (gb_below' hb7)))
          refine hK.out _ _ (fun _ => HS5.out _ F7) (fun hS2 => ?_)
          replace hS2 := hS2 (by decide)
          clear hK K
          try simp only [Act.put, List.setIfInBounds_toArray, List.set_cons_zero, List.set_cons_succ]
          refine wpAnyU_pure (i := 9) (oi := { dst := some 65, op := Op.build 182 #[(0, Operand.const (Value.string { data := #[118, 101, 114, 115, 105, 111, 110] })), (1, Operand.tmp 64)], type := 182, pos := "lsp.go:218", after := #[{ on := 8, ground := Ground.data }], guard := none }) (v := ?_) rfl (by kernel_rfl) (by kernel_rfl) (by kernel_rfl) (by kernel_rfl) (fun _ _ _ h => h) (Or.inl ⟨by rfl, ?_⟩) (fun _ => by assumption) ?_
          rotate_left
          · intro w _; go_simp; with_reducible rfl
          try simp only [Act.put, List.setIfInBounds_toArray, List.set_cons_zero, List.set_cons_succ]
          refine wpAnyU_ready (rs := [10]) (by kernel_rfl) (by simp) (AllReadyU.cons (o := { dst := some 66, op := Op.buildSlice 235 2 #[(0, Operand.tmp 61), (1, Operand.tmp 65)], type := 235, pos := "lsp.go:218", after := #[{ on := 5, ground := Ground.data }, { on := 9, ground := Ground.data }], guard := none }) rfl (fun K hK => ?_) AllReadyU.nil)
          rw [if_pos (by rfl)]
          go_simp; obtain ⟨w8, hw8⟩ : ∃ V, w7.alloc (.cells #[.string ⟨#[117, 114, 105]⟩, .int .i64 4, .string U, .slice none 0 0, .slice none 0 0, .string ⟨#[118, 101, 114, 115, 105, 111, 110]⟩, .int .i64 3, .string I, .slice none 0 0, .slice none 0 0] 182) = V := ⟨_, rfl⟩; have hb8 := alloc_b hw8; have hr8 := row_at hw8; rw [hw8]; have F8 := F7.trans (FrP.of_none (P := (fun q => (Value.slice po Lo.length co).ownBlock = some q)) (gb_below' hb8)); have h119 := obj_rowD (c0 := 2) hb6 hb7 hb8 hr8 HII.out HUL.out HNL.out
          refine hK.out _ _ (fun _ => HS5.out _ F8) (fun hS2 => ?_)
          replace hS2 := hS2 (by decide)
          clear hK K
          try simp only [Act.put, List.setIfInBounds_toArray, List.set_cons_zero, List.set_cons_succ]
          refine wpAnyU_ready (rs := [11]) (by kernel_rfl) (by simp) (AllReadyU.cons (o := { dst := some 67, op := Op.call { callee := Callee.value (Operand.func 119), args := #[Operand.tmp 66], argTypes := #[235] }, type := 25, pos := "lsp.go:218", after := #[{ on := 10, ground := Ground.data }, { on := 8, ground := Ground.chain }], guard := none }) rfl (fun K hK => ?_) AllReadyU.nil)
          rw [if_pos (by rfl)]
          go_simp
          (go_at_call 119; refine h119.mono ?_; rintro e w9 ⟨kd, cd, id, dd, rfl, hkd, hb9⟩; have F9 := F8.trans (FrP.of_none (P := (fun q => (Value.slice po Lo.length co).ownBlock = some q)) (gb_below' hb9)); have b9 := Below.on hb6 (Below.on hb7 (Below.on hb8 hb9)))
          refine hK.out _ _ (fun _ => HS5.out _ F9) (fun hS2 => ?_)
          replace hS2 := hS2 (by decide)
          clear hK K
          try simp only [Act.put, List.setIfInBounds_toArray, List.set_cons_zero, List.set_cons_succ]
          refine wpAnyU_pure (i := 12) (oi := { dst := some 68, op := Op.build 182 #[(0, Operand.const (Value.string { data := #[116, 101, 120, 116, 68, 111, 99, 117, 109, 101, 110, 116] })), (1, Operand.tmp 67)], type := 182, pos := "lsp.go:218", after := #[{ on := 11, ground := Ground.data }], guard := none }) (v := ?_) rfl (by kernel_rfl) (by kernel_rfl) (by kernel_rfl) (by kernel_rfl) (fun _ _ _ h => h) (Or.inl ⟨by rfl, ?_⟩) (fun _ => by assumption) ?_
          rotate_left
          · intro w _; go_simp; with_reducible rfl
          try simp only [Act.put, List.setIfInBounds_toArray, List.set_cons_zero, List.set_cons_succ]
          refine wpAnyU_ready (rs := [15]) (by kernel_rfl) (by simp) (AllReadyU.cons (o := { dst := some 71, op := Op.buildSlice 235 2 #[(0, Operand.tmp 68), (1, Operand.tmp 70)], type := 235, pos := "lsp.go:218", after := #[{ on := 12, ground := Ground.data }, { on := 14, ground := Ground.data }], guard := none }) rfl (fun K hK => ?_) AllReadyU.nil)
          rw [if_pos (by rfl)]
          go_simp; obtain ⟨w10, hw10⟩ : ∃ V, w9.alloc (.cells #[.string ⟨#[116, 101, 120, 116, 68, 111, 99, 117, 109, 101, 110, 116]⟩, .int .i64 6, .string ⟨#[]⟩, .slice kd 2 cd, .slice id 2 dd, .string ⟨#[101, 100, 105, 116, 115]⟩, .int .i64 5, .string ⟨#[]⟩, .slice none 0 0, .slice pi Ls.length ci] 182) = V := ⟨_, rfl⟩; have hb10 := alloc_b hw10; have hr10 := row_at hw10; rw [hw10]; have F10 := F9.trans (FrP.of_none (P := (fun q => (Value.slice po Lo.length co).ownBlock = some q)) (gb_below' hb10)); have h119e := obj_rowE (c0 := 2) b9 hkd HKE.out hb10 hr10 HLS.out; have hri10 := row_fr HCO.out.ri ((FrP.refl (fun _ => False) _).drew.trans (FrP.of_none (gb_below' (Below.on b9 hb10)))) (fun _ _ h => h)
          refine hK.out _ _ (fun _ => HS5.out _ F10) (fun hS2 => ?_)
          replace hS2 := hS2 (by decide)
          clear hK K
          try simp only [Act.put, List.setIfInBounds_toArray, List.set_cons_zero, List.set_cons_succ]
          refine wpAnyU_ready (rs := [16]) (by kernel_rfl) (by simp) (AllReadyU.cons (o := { dst := some 72, op := Op.call { callee := Callee.value (Operand.func 119), args := #[Operand.tmp 71], argTypes := #[235] }, type := 25, pos := "lsp.go:218", after := #[{ on := 15, ground := Ground.data }, { on := 11, ground := Ground.chain }], guard := none }) rfl (fun K hK => ?_) AllReadyU.nil)
          rw [if_pos (by rfl)]
          go_simp
          (go_at_call 119; refine h119e.mono ?_; rintro e w11 ⟨kb, cb, ib, db, rfl, hkb, hb11⟩; have F11 := F10.trans (FrP.of_none (P := (fun q => (Value.slice po Lo.length co).ownBlock = some q)) (gb_below' hb11)); have hri11 := row_fr hri10 (FrP.of_none (P := fun _ => False) (gb_below' hb11)) (fun _ _ h => h))
          refine hK.out _ _ (fun _ => HS5.out _ F11) (fun hS2 => ?_)
          replace hS2 := hS2 (by decide)
          clear hK K
          try simp only [Act.put, List.setIfInBounds_toArray, List.set_cons_zero, List.set_cons_succ]
          refine wpAnyU_ready (rs := [17]) (by kernel_rfl) (by simp) (AllReadyU.cons (o := { dst := some 73, op := Op.buildSlice 23 1 #[(0, Operand.tmp 72)], type := 23, pos := "lsp.go:218", after := #[{ on := 16, ground := Ground.data }], guard := none }) rfl (fun K hK => ?_) AllReadyU.nil)
          rw [if_pos (by rfl)]
          go_simp
          refine hK.out _ _ (fun _ => HS5.out _ (F11.alloc _)) (fun hS2 => ?_)
          replace hS2 := hS2 (by decide)
          clear hK K
          try simp only [Act.put, List.setIfInBounds_toArray, List.set_cons_zero, List.set_cons_succ]
          refine wpAnyU_ready (rs := [18]) (by kernel_rfl) (by simp) (AllReadyU.cons (o := { dst := some 74, op := Op.call { callee := Callee.builtin Builtin.append, args := #[Operand.tmp 57, Operand.tmp 73], argTypes := #[23, 23] }, type := 23, pos := "lsp.go:218", after := #[{ on := 1, ground := Ground.data }, { on := 17, ground := Ground.data }, { on := 16, ground := Ground.chain }], guard := none }) rfl (fun K hK => ?_) AllReadyU.nil)
          rw [if_pos (by rfl)]
          refine wp_append_own_at (.tmp 57) (.tmp 73) 23 rfl (w.heap.size + 1) 25 i45_ _ 4 72 Tryz.underlying23 hi45 hz450 hz451 hz452 rfl (by decide) _ _ _ rfl (hri11.alloc (.cells #[.int .i64 6, .string ⟨#[]⟩, .slice kb 2 cb, .slice ib 2 db] 25)) ⟨w11.heap.size, 0, none⟩ 1 1 [.int .i64 6, .string ⟨#[]⟩, .slice kb 2 cb, .slice ib 2 db] rfl rfl (new_cells _ _ _) (fun u hu => by simp only [List.mem_cons, List.not_mem_nil, or_false] at hu; rcases hu with rfl | rfl | rfl | rfl <;> rfl) (by unfold maxLen; omega) (by omega) (by have := F11.size; have := HSZ.out; simp; omega) ?_; intro iv2 wx hi2 hgi hat2; have FX := (F11.alloc (.cells #[.int .i64 6, .string ⟨#[]⟩, .slice kb 2 cb, .slice ib 2 db] 25)).trans (FrP.of_row hgi (fun k hk => hk)); obtain ⟨y1, y2, y3⟩ := HS5.out _ FX; obtain ⟨pw, cw, rfl⟩ := row_form hi2
          refine hK.out _ _ (fun _ => HS5.out _ FX) (fun hS2 => ?_)
          replace hS2 := hS2 (by decide)
          clear hK K
          try simp only [Act.put, List.setIfInBounds_toArray, List.set_cons_zero, List.set_cons_succ]
          refine wpAnyU_pure (i := 19) (oi := { dst := some 75, op := Op.fieldAddr 25 (Operand.tmp 5) 3, type := 0, pos := "lsp.go:218", after := #[{ on := 0, ground := Ground.phase }, { on := 1, ground := Ground.phase }, { on := 2, ground := Ground.phase }, { on := 3, ground := Ground.phase }, { on := 4, ground := Ground.phase }, { on := 5, ground := Ground.phase }, { on := 6, ground := Ground.phase }, { on := 7, ground := Ground.phase }, { on := 8, ground := Ground.phase }, { on := 9, ground := Ground.phase }, { on := 10, ground := Ground.phase }, { on := 11, ground := Ground.phase }, { on := 12, ground := Ground.phase }, { on := 13, ground := Ground.phase }, { on := 14, ground := Ground.phase }, { on := 15, ground := Ground.phase }, { on := 16, ground := Ground.phase }, { on := 17, ground := Ground.phase }, { on := 18, ground := Ground.phase }], guard := none }) (v := ?_) rfl (by kernel_rfl) (by kernel_rfl) (by kernel_rfl) (by kernel_rfl) (fun _ _ _ h => h) (Or.inl ⟨by rfl, ?_⟩) (fun _ => by assumption) ?_
          rotate_left
          · intro w _; go_simp; with_reducible rfl
          try simp only [Act.put, List.setIfInBounds_toArray, List.set_cons_zero, List.set_cons_succ]
          refine wpAnyU_ready (rs := [20]) (by kernel_rfl) (by simp) (AllReadyU.cons (o := { dst := none, op := Op.store 23 (Operand.tmp 75) (Operand.tmp 74), type := 0, pos := "lsp.go:218", after := #[{ on := 19, ground := Ground.data }, { on := 18, ground := Ground.data }, { on := 18, ground := Ground.chain }, { on := 0, ground := Ground.phase }, { on := 1, ground := Ground.phase }, { on := 2, ground := Ground.phase }, { on := 3, ground := Ground.phase }, { on := 4, ground := Ground.phase }, { on := 5, ground := Ground.phase }, { on := 6, ground := Ground.phase }, { on := 7, ground := Ground.phase }, { on := 8, ground := Ground.phase }, { on := 9, ground := Ground.phase }, { on := 10, ground := Ground.phase }, { on := 11, ground := Ground.phase }, { on := 12, ground := Ground.phase }, { on := 13, ground := Ground.phase }, { on := 14, ground := Ground.phase }, { on := 15, ground := Ground.phase }, { on := 16, ground := Ground.phase }, { on := 17, ground := Ground.phase }, { on := 18, ground := Ground.phase }], guard := none }) rfl (fun K hK => ?_) AllReadyU.nil)
          rw [if_pos (by rfl)]
          go_simp
          refine hK.out _ _ (fun h => absurd h (by decide)) (fun _ => ?_)
          clear hK K
          try simp only [Act.put, List.setIfInBounds_toArray, List.set_cons_zero, List.set_cons_succ]
          refine wpAnyU_done (by kernel_rfl) ?_ _
          go_wp2_with fail
          have b11 := Below.on (HBW.out.drew) (Below.on b9 (Below.on hb10 hb11))
          have hadd := CV.add (c := ⟨editJ pos us n l, kb, cb, ib, db⟩) (HCO1.out.below HW2.out) (World.grownBy.refl w2 none) (gb_below' b11) (World.grownBy_alloc w11 (.cells #[.int .i64 6, .string ⟨#[]⟩, .slice kb 2 cb, .slice ib 2 db] 25) none) hgi hat2 hi2 ⟨hkb, Nat.zero_le _⟩
          go_roundw
          case rel => exact ⟨1, Lo ++ [⟨editJ pos us n l, kb, cb, ib, db⟩], _, rfl, Nat.le_refl _, by rw [List.map_append, HLO.out]; rfl, hadd.1, below_fr HB2.out (Nat.le_refl _) hadd.2 (fun b hb => by
            rcases hb with rfl | hb
            · omega
            · have := (row_lt HCO1.out.ri hb).1; omega), (HJO1.out.same (HW2.out.block _ HJO1.out.lt)).same (hadd.2.block _ (by have := HJO1.out.lt; have := HW2.out.size; omega) (fun e => by
            rcases e with e | e
            · omega
            · have := (row_lt HCO1.out.ri e).1; omega))⟩
          case measure => simp [RowKit.intOf]
    · obtain rfl : i = 1 := by omega
      obtain ⟨kp, kc, ip, ic, e1, e2, hk⟩ := hCo.made (s := []) ⟨by unfold maxLen; omega, by unfold maxLen; simp, fun s hs => by cases hs⟩
      injection e1 with a1 a2 a3
      injection e2 with a4 a5 a6
      subst a1 a3 a4 a6
      clear a2 a5
      rw [hLo] at hk
      obtain ⟨o0, o1, o2, o3⟩ := cells4 hCo.hd
      rw [hLol] at o3
      obtain ⟨V, hV⟩ : ∃ V, wr.alloc (.cells #[.string ⟨#[100, 111, 99, 117, 109, 101, 110, 116, 67, 104, 97, 110, 103, 101, 115]⟩, .int .i64 5, .string ⟨#[]⟩, .slice none 0 0, .slice po 1 co] 182) = V := ⟨_, rfl⟩
      have hv := alloc_b hV
      have h119 := obj_one (c0 := 1) hk hv (row_at hV) (by have := hJo.lt; omega)
      have HBV := Lib.hid (Below.on hBo hv)
      have HJV := Lib.hid (hJo.same (hv.block _ hJo.lt))
      clear hCo hBo hJo hLo hLol hk hv
      go_wp2_with (first
        | (go_at_call 119; refine h119.mono ?_; rintro e w9 ⟨kp, kc, ip, ic, rfl, hkp, hb9⟩; have hj9 : JBox w9 w.heap.size := HJV.out.same (hb9.block _ HJV.out.lt); have HK := Lib.hid hkp; clear hkp)
        | (refine store_val rfl (.tmp 4) (.tmp 80) rfl w.heap.size rfl (.int .i64 6) (.string ⟨#[]⟩) (.slice kp 1 kc) (.slice ip 1 ic) rfl rfl hj9 (fun V9 hV9 hgV _ => ?_)))
      refine bodyPost_ret (ret_val Tryz.results122 rfl hV9) rfl ?_
      exact ⟨kp, kc, ip, ic, rfl, (HK.out.fr (FrP.of (P := fun q => q = w.heap.size) hgV rfl) (fun q hq e => by omega)).keep (Nat.le_refl _) (fun _ _ _ => rfl) (fun q hq _ => by omega), below_gbz (Below.on HBV.out hb9) (Nat.le_refl _) hgV⟩
end Go.Proofs.Ls
