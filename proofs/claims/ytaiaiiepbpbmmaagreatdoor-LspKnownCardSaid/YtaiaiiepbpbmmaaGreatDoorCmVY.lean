/- Merged texts: V12, V13, VE. -/
import Derived.Test.YtaiaiiepbpbmmaaGreatDoorCmVX
/- V12: Values of JSON in memory: the text is laid (put); Put. -/
namespace Go.Proofs.Jt
open Go.RowKit Go.Maps Go.Lib Go.Proofs.Utf Go.Proofs

theorem cell_blk {w : World} {b o : Nat} {x : Value} (h : w.cell? ⟨b, o, none⟩ = some x) : b < w.heap.size := by
 by_cases hb : b < w.heap.size
 · exact hb
 · exfalso
   have : w.heap[b]? = none := Array.getElem?_eq_none (by omega)
   simp [World.cell?, this] at h
/-- the boxes of put -/
theorem put_boxes {w W : World} {b : Nat} {x : JV} {kp ip : Option Addr} {kc ic : Nat} (hb : b < w.heap.size) (hW : (w.alloc (.cells #[.pointer (some ⟨b, 0, none⟩)] 199)).alloc (.cells #[.int .i64 x.kind, .string ⟨x.str.toArray⟩, .slice kp x.keys.length kc, .slice ip x.items.length ic] 25) = W) :
 ∀ V, OK5 b W V → V.cell? ⟨w.heap.size, 0, none⟩ = some (.pointer (some ⟨b, 0, none⟩)) ∧ V.cell? ⟨w.heap.size + 1, 0, none⟩ = some (.int .i64 x.kind) ∧ V.cell? ⟨w.heap.size + 1, 1, none⟩ = some (.string ⟨x.str.toArray⟩) ∧ V.cell? ⟨w.heap.size + 1, 2, none⟩ = some (.slice kp x.keys.length kc) ∧ V.cell? ⟨w.heap.size + 1, 3, none⟩ = some (.slice ip x.items.length ic) := fun V hV => by
 have h1 : (w.alloc (.cells #[.pointer (some ⟨b, 0, none⟩)] 199)).heap[w.heap.size]? = some (.cells #[.pointer (some ⟨b, 0, none⟩)] 199) := World.alloc_heap_new w _
 have h2 : W.heap[w.heap.size]? = some (.cells #[.pointer (some ⟨b, 0, none⟩)] 199) := by
  rw [← hW]
  exact (((Below.refl _ _).alloc (Nat.le_refl _) _).block _ (by simp)).trans h1
 have h3 : W.heap[w.heap.size + 1]? = some (.cells #[.int .i64 x.kind, .string ⟨x.str.toArray⟩, .slice kp x.keys.length kc, .slice ip x.items.length ic] 25) := by
  rw [← hW]
  have := World.alloc_heap_new (w.alloc (.cells #[.pointer (some ⟨b, 0, none⟩)] 199)) (.cells #[.int .i64 x.kind, .string ⟨x.str.toArray⟩, .slice kp x.keys.length kc, .slice ip x.items.length ic] 25)
  simpa using this
 have h4 := hV _ _ h2 (fun e => by have := Option.some.inj e; omega) (fun c fz e => by cases e)
 have h5 := hV _ _ h3 (fun e => by have := Option.some.inj e; omega) (fun c fz e => by cases e)
 refine ⟨?_, ?_, ?_, ?_, ?_⟩
 · simp [World.cell?, h4]
 all_goals simp [World.cell?, h5]
theorem fndL_item {o : Bool} : ∀ {it : List JV} {ks met : List (List UInt8)}, fndL o it ks met = 0 → ∀ (j : Nat) (y : JV), it[j]? = some y → y.fnd = 0 ∧ (o = true → ∀ u, ks[j]? = some u → validD u = true)
 | [], _, _, _, j, y, hy => by cases hy
 | x :: t, ks, met, h, j, y, hy => by
  obtain ⟨h1, h2, h3⟩ := fndL_cons h
  cases j with
  | zero =>
   obtain rfl := Option.some.inj hy
   refine ⟨h2, fun ho u hu => ?_⟩
   have := (h1 ho).1
   cases ks with
   | nil => cases hu
   | cons k r =>
    obtain rfl := Option.some.inj hu
    exact this
  | succ j =>
   have := fndL_item h3 j y (by simpa using hy)
   refine ⟨this.1, fun ho u hu => this.2 ho u ?_⟩
   cases ks with
   | nil => cases hu
   | cons k r => simpa using hu
theorem xbox_cells {w W : World} {b : Nat} {x : JV} {S : ByteArray} {kp ip : Option Addr} {kc ic : Nat} (_hS : (⟨x.str.toArray⟩ : ByteArray) = S) (hb : b < w.heap.size) (hW : w.alloc (.cells #[.int .i64 x.kind, .string S, .slice kp x.keys.length kc, .slice ip x.items.length ic] 25) = W) : ∀ V, OK5 b W V → V.cell? ⟨w.heap.size, 0, none⟩ = some (.int .i64 x.kind) ∧ V.cell? ⟨w.heap.size, 1, none⟩ = some (.string S) ∧ V.cell? ⟨w.heap.size, 2, none⟩ = some (.slice kp x.keys.length kc) ∧ V.cell? ⟨w.heap.size, 3, none⟩ = some (.slice ip x.items.length ic) := fun V hV => by
 have h1 : W.heap[w.heap.size]? = some (.cells #[.int .i64 x.kind, .string S, .slice kp x.keys.length kc, .slice ip x.items.length ic] 25) := by rw [← hW]; exact World.alloc_heap_new w _
 have h2 := hV _ _ h1 (fun e => by have := Option.some.inj e; omega) (fun c fz e => by cases e)
 refine ⟨?_, ?_, ?_, ?_⟩ <;> simp [World.cell?, h2]
set_option maxRecDepth 100000 in
set_option maxHeartbeats 16000000 in
theorem put_any {w : World} {x : JV} {kp ip : Option Addr} {kc ic : Nat} (hT : Tabs w) (h : KI w x kp kc ip ic) : x.fnd = 0 → x.wt ≤ 1000000 → ∀ (w' : World) (B b : Nat) (l : List UInt8), w.heap.size ≤ B → Below w.heap.size w w' → BW w' B b l → l.length + 9 * x.wt ≤ 20000000 →
 Calls Tryz.prog 134 #[.pointer (some ⟨b, 0, none⟩), jval x kp kc ip ic] w' fun e w'' => e = .returned (.tuple #[]) ∧ BW w'' B b (l ++ x.text) ∧ Below B w' w'' ∧ OK5 b w' w'' := by
 induction h with
 | mk x kp kc ip ic fp fc gp gc hk hz hi hh ih =>
  intro hfn hwt w' B b l hB0 hb hBW hl
  obtain ⟨W, hW⟩ : ∃ W, (w'.alloc (.cells #[.pointer (some ⟨b, 0, none⟩)] 199)).alloc (.cells #[.int .i64 x.kind, .string ⟨x.str.toArray⟩, .slice kp x.keys.length kc, .slice ip x.items.length ic] 25) = W := ⟨_, rfl⟩
  have hbl := hBW.lt
  have bW : Below w'.heap.size w' W := by rw [← hW]; exact ((Below.refl _ _).alloc (Nat.le_refl _) _).alloc (by simp) _
  have hbx := put_boxes hbl.2 hW
  cases x with
  | mk k s ks it =>
  unfold jval
  simp only [kind_mk, str_mk, keys_mk, items_mk] at *
  obtain ⟨S, hS⟩ : ∃ S : ByteArray, (⟨s.toArray⟩ : ByteArray) = S := ⟨_, rfl⟩
  have hSl : S.data.toList = s := by rw [← hS]
  have hwt2 := hwt
  rw [JV.wt] at hwt2 hl
  have hSs : S.size = s.length := by rw [← hS, arr_size]
  have hSz : S.size ≤ 1000000 := by omega
  have hkw : keysW ks ≤ 1000000 := by omega
  have hkl : ks.length ≤ 1000000 := by have := keys_len ks; omega
  have hil : it.length ≤ 1000000 := by have := items_len it; omega
  simp only [hS] at hW hbx
  rw [hS]
  obtain ⟨hsh, hv4, hfL⟩ := fnd_zero hfn
  have hsc := shaped_cases hsh
  have hBz : B ≤ w'.heap.size := by omega
  have HT : Hid (∀ V, Below B w' V → Tabs V) := Lib.hid fun V hV => hT.below (hb.trans (hV.mono hB0))
  have HBw : Hid (∀ V, Below B w' V → Below w.heap.size w V) := Lib.hid fun V hV => hb.trans (hV.mono hB0)
  have HBX := Lib.hid hbx
  have HbW : Hid (Below B w' W) := Lib.hid (bW.mono hBz)
  have HOW : Hid (OK5 b w' W) := Lib.hid (ok5_below bW)
  have hBWW := hBW.below bW
  obtain ⟨c0, c1, c2, c3, c4⟩ := hbx W (Lib.OthersKept.refl _ _ _)
  obtain ⟨d0, d1, d2, d3, d4⟩ := hbx W.drew (Lib.OthersKept.refl _ _ W).drew
  have hq2 : w'.heap.size < W.heap.size := by rw [← hW]; simp; omega
  have htx : (JV.mk k s ks it).text = if k = 0 then wNull else if k = 1 then wFalse else if k = 2 then wTrue else if k = 3 then s else if k = 4 then quoteL s else if k = 6 then 123 :: (txtL true it ks true ++ [125]) else 91 :: (txtL false it ks true ++ [93]) := by rw [JV.text]
  rw [htx]
  have HI := Lib.hid hi
  have HIH := Lib.hid ih
  have HK := Lib.hid hk
  have HBW := Lib.hid hBWW
  have HFL := Lib.hid hfL
  have HSL := Lib.hid hSl
  have HV4 := Lib.hid hv4
  have HWT : Hid (∀ (i : Nat) (y : JV), it[i]? = some y → y.wt ≤ 1000000) := Lib.hid fun i y hy => by have := wt_item hy; omega
  clear hi ih hh hk hz hbx bW hb hT hfn hwt hwt2 hS hSl hsh hfL hv4 htx hBW hBWW
  rcases hsc with ⟨hk, -, -, -⟩ | ⟨rfl, -, -, -⟩ | ⟨rfl, -, -⟩ | ⟨rfl, -, -⟩ | ⟨rfl, -, hlen⟩
  · rcases hk with rfl | rfl | rfl
    · rw [if_pos rfl]
      have hc := bw_str l ⟨#[110, 117, 108, 108]⟩ HBW.out (by simp [ByteArray.size]; omega)
      go_enter Tryz.func134, Tryz.ntmps134
      go_wp2_with (first | (go_at_call 170; refine hc.mono ?_; rintro e w2 ⟨rfl, h2, h3, h4⟩))
      go_end0
      exact ⟨rfl, h2, HbW.out.trans h3, HOW.out.trans h4⟩
    · rw [if_neg (by decide), if_pos rfl]
      have hc := bw_str (w := W.drew) l ⟨#[102, 97, 108, 115, 101]⟩ (HBW.out.below ((Below.refl _ _).drew)) (by simp [ByteArray.size]; omega)
      have hf := Tryz.strconv_FormatBool false W.drew
      rw [show (⟨(Lib.formatBool false).toArray⟩ : ByteArray) = ⟨#[102, 97, 108, 115, 101]⟩ from rfl] at hf
      go_enter Tryz.func134, Tryz.ntmps134
      go_wp2_with fail
      go_region_held3 (fun v => v.cell? ⟨w'.heap.size, 0, none⟩ = some (.pointer (some ⟨b, 0, none⟩)) ∧ v.cell? ⟨w'.heap.size + 1, 0, none⟩ = some (.int .i64 1)) (first | exact ⟨d0, d1⟩ | exact ⟨f0, f1⟩) (first
       | (go_at_call 186; refine hf.mono ?_; rintro e w1 ⟨rfl, hw⟩; subst hw)
       | (go_at_call 170; refine hc.mono ?_; rintro e w2 ⟨rfl, h2, h3, h4⟩; obtain ⟨f0, f1, f2, f3, f4⟩ := HBX.out w2 ((Lib.OthersKept.refl _ _ W).drew.trans h4)))
      go_end0
      exact ⟨rfl, h2, (HbW.out.drew).trans h3, (HOW.out.drew).trans h4⟩
    · rw [if_neg (by decide), if_neg (by decide), if_pos rfl]
      have hc := bw_str (w := W.drew) l ⟨#[116, 114, 117, 101]⟩ (HBW.out.below ((Below.refl _ _).drew)) (by simp [ByteArray.size]; omega)
      have hf := Tryz.strconv_FormatBool true W.drew
      rw [show (⟨(Lib.formatBool true).toArray⟩ : ByteArray) = ⟨#[116, 114, 117, 101]⟩ from rfl] at hf
      go_enter Tryz.func134, Tryz.ntmps134
      go_wp2_with fail
      go_region_held3 (fun v => v.cell? ⟨w'.heap.size, 0, none⟩ = some (.pointer (some ⟨b, 0, none⟩)) ∧ v.cell? ⟨w'.heap.size + 1, 0, none⟩ = some (.int .i64 2)) (first | exact ⟨d0, d1⟩ | exact ⟨f0, f1⟩) (first
       | (go_at_call 186; refine hf.mono ?_; rintro e w1 ⟨rfl, hw⟩; subst hw)
       | (go_at_call 170; refine hc.mono ?_; rintro e w2 ⟨rfl, h2, h3, h4⟩; obtain ⟨f0, f1, f2, f3, f4⟩ := HBX.out w2 ((Lib.OthersKept.refl _ _ W).drew.trans h4)))
      go_end0
      exact ⟨rfl, h2, (HbW.out.drew).trans h3, (HOW.out.drew).trans h4⟩
  · rw [if_neg (by decide), if_neg (by decide), if_neg (by decide), if_pos rfl, ← HSL.out]
    have hc := bw_str l S HBW.out (by omega)
    go_enter Tryz.func134, Tryz.ntmps134
    go_wp2_with (first | (go_at_call 170; refine hc.mono ?_; rintro e w2 ⟨rfl, h2, h3, h4⟩))
    go_end0
    exact ⟨rfl, h2, HbW.out.trans h3, HOW.out.trans h4⟩
  · rw [if_neg (by decide), if_neg (by decide), if_neg (by decide), if_neg (by decide), if_pos rfl, ← HSL.out]
    have hc := put1_any S W (HT.out W HbW.out) hSz (by rw [HSL.out]; exact HV4.out rfl) B b w'.heap.size l HBW.out (by omega) c0 hq2
    go_enter Tryz.func134, Tryz.ntmps134
    go_wp2_with (first | (go_at_call 185; refine hc.mono ?_; rintro e w2 ⟨rfl, h2, h3, h4⟩))
    go_end0
    exact ⟨rfl, h2, HbW.out.trans h3, HOW.out.trans h4⟩
  · rw [if_neg (by decide), if_neg (by decide), if_neg (by decide), if_neg (by decide), if_neg (by decide), if_neg (by decide)]
    have hWd := HBW.out.below (w' := W.drew) ((Below.refl _ _).drew)
    have hc0 := bw_byte (w := W.drew) l 91 hWd (by omega)
    simp only [show (((91 : UInt8).toNat : Nat) : Int) = 91 from rfl] at hc0
    have he0 : (((⟨#[91, 93]⟩ : ByteArray)[0]'(by decide)).toNat : Int) = 91 := rfl
    have he1 : (((⟨#[91, 93]⟩ : ByteArray)[1]'(by decide)).toNat : Int) = 93 := rfl
    obtain ⟨T, hT0⟩ : ∃ T, l ++ [91] ++ txtL false it ks true = T := ⟨_, rfl⟩
    have hTe : l ++ (91 :: (txtL false it ks true ++ [93])) = T ++ [93] := by rw [← hT0]; simp
    rw [hTe]
    have HT0 := Lib.hid hT0
    obtain ⟨L0, hL0⟩ : ∃ L0, l.length + 9 * (wtL it) + 5 = L0 := ⟨_, rfl⟩
    have hL1 : L0 ≤ 20000000 := by rw [← hL0]; omega
    have HL0 := Lib.hid hL0
    clear hT0 hTe hL0
    go_enter Tryz.func134, Tryz.ntmps134
    go_wp2_with fail
    go_region_held3 (fun v => v.cell? ⟨w'.heap.size, 0, none⟩ = some (.pointer (some ⟨b, 0, none⟩))) (first | exact d0 | exact f0) (first
     | (go_at_call 182; refine hc0.mono ?_; rintro e w1 ⟨rfl, hW1, hb1, ho1⟩; obtain ⟨f0, f1, f2, f3, f4⟩ := HBX.out w1 ((Lib.OthersKept.refl _ _ W).drew.trans ho1)))
    have hB1 := (HbW.out.drew).trans hb1
    have hO1 : OK5 b W w1 := (Lib.OthersKept.refl _ _ W).drew.trans ho1
    have hw1z := hb1.size
    clear hc0 hWd hb1 ho1 d0 d1 d2 d3 d4 c0 c1 c2 c3 c4
    go_wp2_with fail
    go_loopw [21] (fun iv wr => ∃ (j : Nat) (c : List UInt8), iv = .int .i64 j ∧ j ≤ it.length ∧ c ++ txtL false (it.drop j) (ks.drop j) (decide (j = 0)) = T ∧ c.length + 9 * (wtL (it.drop j)) + 4 ≤ L0 ∧ BW wr B b c ∧ Below B w' wr ∧ OK5 b W wr) (fun iv _ => it.length - (RowKit.intOf iv).toNat)
    case atStart => exact ⟨0, _, rfl, Nat.zero_le _, by rw [List.drop_zero]; exact HT0.out, by rw [← HL0.out]; simp; omega, hW1, hB1, hO1⟩
    case round =>
     obtain ⟨j, c, rfl, hj, hm, hcl, hBc, hB, hO⟩ := hrel
     clear f0 f1 f2 f3 f4 hW1 hB1 hO1
     obtain ⟨f0, f1, f2, f3, f4⟩ := HBX.out wr hO
     by_cases hjn : (j : Int) < (it.length : Int)
     · obtain ⟨y, hy⟩ : ∃ y, it[j]? = some y := ⟨_, List.getElem?_eq_getElem (by omega)⟩
       obtain ⟨_, a, rfl, hjc⟩ := HI.out j y hy
       obtain ⟨g0, g1, g2, g3, _⟩ := hjc.below (HBw.out _ hB)
       obtain ⟨Y, hY⟩ : ∃ Y : ByteArray, (⟨y.str.toArray⟩ : ByteArray) = Y := ⟨_, rfl⟩
       rw [hY] at g1
       have hyw := HWT.out j y hy
       have hfy := fndL_item  HFL.out j y hy
       obtain ⟨wx, hwx⟩ : ∃ wx, wr.alloc (.cells #[.int .i64 y.kind, .string Y, .slice (fp j) y.keys.length (fc j), .slice (gp j) y.items.length (gc j)] 25) = wx := ⟨_, rfl⟩
       have hbx2 : Below wr.heap.size wr wx := by rw [← hwx]; exact (Below.refl _ _).alloc (Nat.le_refl _) _
       have hxb := xbox_cells hY hBc.lt.2 hwx
       have hBx : Below B w' wx := hB.trans (hbx2.mono (by have := hBc.lt; omega))
       have hOx : OK5 b W wx := hO.trans (ok5_below hbx2)
       have hBcx := hBc.below hbx2
       have HXB := Lib.hid hxb
       have hih := fun (V : World) (c2 : List UInt8) (h1 : Below B w' V) (h2 : BW V B b c2) (h3 : c2.length + 9 * y.wt ≤ 20000000) => HIH.out j y hy hfy.1 hyw V B b c2 hB0 (HBw.out V h1) h2 h3
       unfold jval at hih
       rw [hY] at hih
       have HIJ := Lib.hid hih
       have htl := text_len y
       rw [drop_cons hy, txtL] at hm
       rw [drop_cons hy, wtL] at hcl
       simp only [Bool.false_eq_true, if_false, List.nil_append, List.tail_drop] at hm
       by_cases hjz : j = 0
       · have hj0 : ¬ (0 : Int) < (j : Int) := by omega
         clear hjz
         rw [decide_eq_true (show j = 0 by omega)] at hm
         simp only [if_true, List.nil_append] at hm
         have HM := Lib.hid hm
         clear hm hy hjc hxb hih hY
         have X1 : OK5 b wx wx := Lib.OthersKept.refl _ _ _
         obtain ⟨p0, p1, p2, p3, p4⟩ := HBX.out wx hOx
         obtain ⟨x0, x1, x2, x3⟩ := HXB.out wx X1
         go_wp2_with fail
         refine (HIJ.out wx c hBx hBcx (by first | omega | (simp; omega))).mono ?_
         rintro e v4 ⟨rfl, k4, kb4, ko4⟩
         go_wp2_with fail
         go_roundw
         case rel => exact ⟨j + 1, _, by go_num, by omega, by rw [decide_eq_false (by omega), ← HM.out]; simp, by simp; omega, k4, hBx.trans kb4, hOx.trans ko4⟩
         case measure => simp [RowKit.intOf]; omega
       · have hj0 : (0 : Int) < (j : Int) := by omega
         clear hjz
         rw [decide_eq_false (show ¬ j = 0 by omega)] at hm
         simp only [Bool.false_eq_true, if_false, List.singleton_append] at hm
         have HM := Lib.hid hm
         clear hm hy hjc hxb hih hY
         obtain ⟨p0, p1, p2, p3, p4⟩ := HBX.out wx hOx
         obtain ⟨x0, x1, x2, x3⟩ := HXB.out wx (Lib.OthersKept.refl _ _ _)
         have hcm := bw_byte (w := wx) c 44 hBcx (by omega)
         simp only [show (((44 : UInt8).toNat : Nat) : Int) = 44 from rfl] at hcm
         go_wp2_with fail
         refine hcm.mono ?_
         rintro e v1 ⟨rfl, k1, kb1, ko1⟩
         clear p0 p1 p2 p3 p4 x0 x1 x2 x3 hcm
         have B1 := hBx.trans kb1
         have O1 := hOx.trans ko1
         obtain ⟨p0, p1, p2, p3, p4⟩ := HBX.out v1 O1
         have X1 : OK5 b wx v1 := ko1
         obtain ⟨x0, x1, x2, x3⟩ := HXB.out v1 X1
         go_wp2_with fail
         refine (HIJ.out v1 (c ++ [44]) B1 k1 (by first | omega | (simp; omega))).mono ?_
         rintro e v4 ⟨rfl, k4, kb4, ko4⟩
         go_wp2_with fail
         go_roundw
         case rel => exact ⟨j + 1, _, by go_num, by omega, by rw [decide_eq_false (by omega), ← HM.out]; simp, by simp; omega, k4, B1.trans kb4, O1.trans ko4⟩
         case measure => simp [RowKit.intOf]; omega
     · have : j = it.length := by omega
       subst this
       rw [List.drop_length, txtL, List.append_nil] at hm
       subst hm
       have hBd := hBc.below (w' := wr.drew) ((Below.refl _ _).drew)
       have hce := bw_byte (w := wr.drew) c 93 hBd (by omega)
       simp only [show (((93 : UInt8).toNat : Nat) : Int) = 93 from rfl] at hce
       have f0d : wr.drew.cell? ⟨w'.heap.size, 0, none⟩ = some (.pointer (some ⟨b, 0, none⟩)) := f0
       go_wp2_with fail
       go_region_held3 (fun v => v.cell? ⟨w'.heap.size, 0, none⟩ = some (.pointer (some ⟨b, 0, none⟩))) (first | exact f0d | exact g0) (first
        | (go_at_call 182; refine hce.mono ?_; rintro e w2 ⟨rfl, hW2, hb2, ho2⟩; obtain ⟨g0, g1, g2, g3, g4⟩ := HBX.out w2 (hO.drew.trans ho2)))
       go_end0
       exact ⟨rfl, hW2, hB.drew.trans hb2, HOW.out.trans (hO.drew.trans ho2)⟩
  · rw [if_neg (by decide), if_neg (by decide), if_neg (by decide), if_neg (by decide), if_neg (by decide), if_pos rfl]
    have hWd := HBW.out.below (w' := W.drew) ((Below.refl _ _).drew)
    have hc0 := bw_byte (w := W.drew) l 123 hWd (by omega)
    simp only [show (((123 : UInt8).toNat : Nat) : Int) = 123 from rfl] at hc0
    have he0 : (((⟨#[123, 125]⟩ : ByteArray)[0]'(by decide)).toNat : Int) = 123 := rfl
    have he1 : (((⟨#[123, 125]⟩ : ByteArray)[1]'(by decide)).toNat : Int) = 125 := rfl
    obtain ⟨T, hT0⟩ : ∃ T, l ++ [123] ++ txtL true it ks true = T := ⟨_, rfl⟩
    have hTe : l ++ (123 :: (txtL true it ks true ++ [125])) = T ++ [125] := by rw [← hT0]; simp
    rw [hTe]
    have HT0 := Lib.hid hT0
    have HKL := Lib.hid hlen
    clear hlen
    obtain ⟨L0, hL0⟩ : ∃ L0, l.length + 9 * (wtL it + keysW ks) + 5 = L0 := ⟨_, rfl⟩
    have hL1 : L0 ≤ 20000000 := by rw [← hL0]; omega
    have HL0 := Lib.hid hL0
    clear hT0 hTe hL0
    go_enter Tryz.func134, Tryz.ntmps134
    go_wp2_with fail
    go_region_held3 (fun v => v.cell? ⟨w'.heap.size, 0, none⟩ = some (.pointer (some ⟨b, 0, none⟩))) (first | exact d0 | exact f0) (first
     | (go_at_call 182; refine hc0.mono ?_; rintro e w1 ⟨rfl, hW1, hb1, ho1⟩; obtain ⟨f0, f1, f2, f3, f4⟩ := HBX.out w1 ((Lib.OthersKept.refl _ _ W).drew.trans ho1)))
    have hB1 := (HbW.out.drew).trans hb1
    have hO1 : OK5 b W w1 := (Lib.OthersKept.refl _ _ W).drew.trans ho1
    have hw1z := hb1.size
    clear hc0 hWd hb1 ho1 d0 d1 d2 d3 d4 c0 c1 c2 c3 c4
    go_wp2_with fail
    go_loopw [21] (fun iv wr => ∃ (j : Nat) (c : List UInt8), iv = .int .i64 j ∧ j ≤ it.length ∧ c ++ txtL true (it.drop j) (ks.drop j) (decide (j = 0)) = T ∧ c.length + 9 * (wtL (it.drop j) + keysW (ks.drop j)) + 4 ≤ L0 ∧ BW wr B b c ∧ Below B w' wr ∧ OK5 b W wr) (fun iv _ => it.length - (RowKit.intOf iv).toNat)
    case atStart => exact ⟨0, _, rfl, Nat.zero_le _, by rw [List.drop_zero]; exact HT0.out, by rw [← HL0.out]; simp; omega, hW1, hB1, hO1⟩
    case round =>
     obtain ⟨j, c, rfl, hj, hm, hcl, hBc, hB, hO⟩ := hrel
     clear f0 f1 f2 f3 f4 hW1 hB1 hO1
     obtain ⟨f0, f1, f2, f3, f4⟩ := HBX.out wr hO
     by_cases hjn : (j : Int) < (it.length : Int)
     · obtain ⟨y, hy⟩ : ∃ y, it[j]? = some y := ⟨_, List.getElem?_eq_getElem (by omega)⟩
       obtain ⟨_, a, rfl, hjc⟩ := HI.out j y hy
       obtain ⟨g0, g1, g2, g3, _⟩ := hjc.below (HBw.out _ hB)
       obtain ⟨Y, hY⟩ : ∃ Y : ByteArray, (⟨y.str.toArray⟩ : ByteArray) = Y := ⟨_, rfl⟩
       rw [hY] at g1
       have hyw := HWT.out j y hy
       have hfy := fndL_item  HFL.out j y hy
       obtain ⟨u, hu⟩ : ∃ u, ks[j]? = some u := ⟨_, List.getElem?_eq_getElem (by have := HKL.out; omega)⟩
       have huv := hfy.2 rfl u hu
       obtain ⟨U, hU⟩ : ∃ U : ByteArray, (⟨u.toArray⟩ : ByteArray) = U := ⟨_, rfl⟩
       have hUl : U.data.toList = u := by rw [← hU]
       have hUs : U.size = u.length := by rw [← hU, arr_size]
       have hjk : (j : Int) < (ks.length : Int) := by have := HKL.out; omega
       have hul := keysW_mem (List.mem_of_getElem? hu)
       obtain ⟨kb, rfl, _, _⟩ := HK.out j u hu
       have HKC : Hid (∀ V, Below B w' V → V.cell? (kb.add j) = some (.string U)) := Lib.hid fun V hV => by
        obtain ⟨kb2, h1, h2, _⟩ := (HK.out.below (HBw.out _ hV)) j u hu
        cases h1
        rw [← hU]
        exact h2
       have HUL := Lib.hid hUl
       have hql := quote_len u
       obtain ⟨wx, hwx⟩ : ∃ wx, wr.alloc (.cells #[.int .i64 y.kind, .string Y, .slice (fp j) y.keys.length (fc j), .slice (gp j) y.items.length (gc j)] 25) = wx := ⟨_, rfl⟩
       have hbx2 : Below wr.heap.size wr wx := by rw [← hwx]; exact (Below.refl _ _).alloc (Nat.le_refl _) _
       have hxb := xbox_cells hY hBc.lt.2 hwx
       have hBx : Below B w' wx := hB.trans (hbx2.mono (by have := hBc.lt; omega))
       have hOx : OK5 b W wx := hO.trans (ok5_below hbx2)
       have hBcx := hBc.below hbx2
       have HXB := Lib.hid hxb
       have hih := fun (V : World) (c2 : List UInt8) (h1 : Below B w' V) (h2 : BW V B b c2) (h3 : c2.length + 9 * y.wt ≤ 20000000) => HIH.out j y hy hfy.1 hyw V B b c2 hB0 (HBw.out V h1) h2 h3
       unfold jval at hih
       rw [hY] at hih
       have HIJ := Lib.hid hih
       have htl := text_len y
       rw [drop_cons hy, drop_cons hu, txtL] at hm
       rw [drop_cons hy, wtL, drop_cons hu, keysW] at hcl
       simp only [List.headD_cons, List.tail_cons, if_true] at hm
       by_cases hjz : j = 0
       · have hj0 : ¬ (0 : Int) < (j : Int) := by omega
         clear hjz
         rw [decide_eq_true (show j = 0 by omega)] at hm
         simp only [if_true, List.nil_append] at hm
         have HM := Lib.hid hm
         clear hm hy hjc hxb hih hY hu hU hUl
         have X1 : OK5 b wx wx := Lib.OthersKept.refl _ _ _
         obtain ⟨p0, p1, p2, p3, p4⟩ := HBX.out wx hOx
         obtain ⟨x0, x1, x2, x3⟩ := HXB.out wx X1
         have hkc1 := HKC.out _ hBx
         go_wp2_with fail
         refine (put1_any U wx (HT.out _ hBx) (by omega) (by rw [HUL.out]; exact huv) B b w'.heap.size c hBcx (by first | omega | (simp; omega)) p0 (cell_blk p0)).mono ?_
         rintro e v2 ⟨rfl, k2, kb2, ko2⟩
         rw [HUL.out] at k2
         have B2 := hBx.trans kb2
         have O2 := hOx.trans ko2
         have X2 := X1.trans ko2
         clear p0 p1 p2 p3 p4 x0 x1 x2 x3
         obtain ⟨p0, p1, p2, p3, p4⟩ := HBX.out v2 O2
         obtain ⟨x0, x1, x2, x3⟩ := HXB.out v2 X2
         have hcm2 := bw_byte (w := v2) (c ++ quoteL u) 58 k2 (by simp; omega)
         simp only [show (((58 : UInt8).toNat : Nat) : Int) = 58 from rfl] at hcm2
         go_wp2_with fail
         refine hcm2.mono ?_
         clear hcm2
         rintro e v3 ⟨rfl, k3, kb3, ko3⟩
         have B3 := B2.trans kb3
         have O3 := O2.trans ko3
         have X3 := X2.trans ko3
         clear p0 p1 p2 p3 p4 x0 x1 x2 x3
         obtain ⟨p0, p1, p2, p3, p4⟩ := HBX.out v3 O3
         obtain ⟨x0, x1, x2, x3⟩ := HXB.out v3 X3
         go_wp2_with fail
         refine (HIJ.out v3 (c ++ quoteL u ++ [58]) B3 k3 (by first | omega | (simp; omega))).mono ?_
         rintro e v4 ⟨rfl, k4, kb4, ko4⟩
         go_wp2_with fail
         go_roundw
         case rel => exact ⟨j + 1, _, by go_num, by omega, by rw [decide_eq_false (by omega), ← HM.out]; simp, by simp; omega, k4, B3.trans kb4, O3.trans ko4⟩
         case measure => simp [RowKit.intOf]; omega
       · have hj0 : (0 : Int) < (j : Int) := by omega
         clear hjz
         rw [decide_eq_false (show ¬ j = 0 by omega)] at hm
         simp only [Bool.false_eq_true, if_false, List.singleton_append] at hm
         have HM := Lib.hid hm
         clear hm hy hjc hxb hih hY hu hU hUl
         obtain ⟨p0, p1, p2, p3, p4⟩ := HBX.out wx hOx
         obtain ⟨x0, x1, x2, x3⟩ := HXB.out wx (Lib.OthersKept.refl _ _ _)
         have hcm := bw_byte (w := wx) c 44 hBcx (by omega)
         simp only [show (((44 : UInt8).toNat : Nat) : Int) = 44 from rfl] at hcm
         go_wp2_with fail
         refine hcm.mono ?_
         rintro e v1 ⟨rfl, k1, kb1, ko1⟩
         clear p0 p1 p2 p3 p4 x0 x1 x2 x3 hcm
         have B1 := hBx.trans kb1
         have O1 := hOx.trans ko1
         obtain ⟨p0, p1, p2, p3, p4⟩ := HBX.out v1 O1
         have X1 : OK5 b wx v1 := ko1
         obtain ⟨x0, x1, x2, x3⟩ := HXB.out v1 X1
         have hkc1 := HKC.out _ B1
         go_wp2_with fail
         refine (put1_any U v1 (HT.out _ B1) (by omega) (by rw [HUL.out]; exact huv) B b w'.heap.size (c ++ [44]) k1 (by first | omega | (simp; omega)) p0 (cell_blk p0)).mono ?_
         rintro e v2 ⟨rfl, k2, kb2, ko2⟩
         rw [HUL.out] at k2
         have B2 := B1.trans kb2
         have O2 := O1.trans ko2
         have X2 := X1.trans ko2
         clear p0 p1 p2 p3 p4 x0 x1 x2 x3
         obtain ⟨p0, p1, p2, p3, p4⟩ := HBX.out v2 O2
         obtain ⟨x0, x1, x2, x3⟩ := HXB.out v2 X2
         have hcm2 := bw_byte (w := v2) ((c ++ [44]) ++ quoteL u) 58 k2 (by simp; omega)
         simp only [show (((58 : UInt8).toNat : Nat) : Int) = 58 from rfl] at hcm2
         go_wp2_with fail
         refine hcm2.mono ?_
         clear hcm2
         rintro e v3 ⟨rfl, k3, kb3, ko3⟩
         have B3 := B2.trans kb3
         have O3 := O2.trans ko3
         have X3 := X2.trans ko3
         clear p0 p1 p2 p3 p4 x0 x1 x2 x3
         obtain ⟨p0, p1, p2, p3, p4⟩ := HBX.out v3 O3
         obtain ⟨x0, x1, x2, x3⟩ := HXB.out v3 X3
         go_wp2_with fail
         refine (HIJ.out v3 ((c ++ [44]) ++ quoteL u ++ [58]) B3 k3 (by first | omega | (simp; omega))).mono ?_
         rintro e v4 ⟨rfl, k4, kb4, ko4⟩
         go_wp2_with fail
         go_roundw
         case rel => exact ⟨j + 1, _, by go_num, by omega, by rw [decide_eq_false (by omega), ← HM.out]; simp, by simp; omega, k4, B3.trans kb4, O3.trans ko4⟩
         case measure => simp [RowKit.intOf]; omega
     · have : j = it.length := by omega
       subst this
       rw [List.drop_length, txtL, List.append_nil] at hm
       subst hm
       have hBd := hBc.below (w' := wr.drew) ((Below.refl _ _).drew)
       have hce := bw_byte (w := wr.drew) c 125 hBd (by omega)
       simp only [show (((125 : UInt8).toNat : Nat) : Int) = 125 from rfl] at hce
       have f0d : wr.drew.cell? ⟨w'.heap.size, 0, none⟩ = some (.pointer (some ⟨b, 0, none⟩)) := f0
       go_wp2_with fail
       go_region_held3 (fun v => v.cell? ⟨w'.heap.size, 0, none⟩ = some (.pointer (some ⟨b, 0, none⟩))) (first | exact f0d | exact g0) (first
        | (go_at_call 182; refine hce.mono ?_; rintro e w2 ⟨rfl, hW2, hb2, ho2⟩; obtain ⟨g0, g1, g2, g3, g4⟩ := HBX.out w2 (hO.drew.trans ho2)))
       go_end0
       exact ⟨rfl, hW2, hB.drew.trans hb2, HOW.out.trans (hO.drew.trans ho2)⟩
end Go.Proofs.Jt
/- V13: Values of JSON in memory: Put; equal. -/
namespace Go.Proofs.Jt
open Go.RowKit Go.Maps Go.Lib Go.Proofs.Utf Go.Proofs

set_option maxRecDepth 100000 in
set_option maxHeartbeats 2000000 in
theorem Put_any {w : World} {x : JV} {kp ip : Option Addr} {kc ic : Nat} (hT : Tabs w) (h : KI w x kp kc ip ic) (hwt : x.wt ≤ 1000000) : ∀ w', Below w.heap.size w w' → Calls Tryz.prog 84 #[jval x kp kc ip ic] w' fun e w'' => e = .returned (.tuple #[.string ⟨(putV x).1.toArray⟩, .int .i64 ((putV x).2 : Nat)]) ∧ Below w'.heap.size w' w'' := by
 intro w' hb
 obtain ⟨W, hW⟩ : ∃ W, w'.alloc (.cells #[.int .i64 x.kind, .string ⟨x.str.toArray⟩, .slice kp x.keys.length kc, .slice ip x.items.length ic] 25) = W := ⟨_, rfl⟩
 have bW : Below w'.heap.size w' W := by rw [← hW]; exact (Below.refl _ _).alloc (Nat.le_refl _) _
 have hbx := box_cells hW
 obtain ⟨c0, c1, c2, c3⟩ := hbx W (Below.refl _ _)
 have hB : ∀ W', Below W.heap.size W W' → Below w.heap.size w W' := fun W' hb' => hb.trans ((bW.trans (hb'.mono bW.size)).mono hb.size)
 have hck := check_any hT h hwt W (hB W (Below.refl _ _))
 have hpt := fun (hc : x.chk = 0) (V : World) (B b : Nat) (hV : Below W.heap.size W V) (hBz : W.heap.size ≤ B) (hbw : BW V B b []) => put_any hT h (chk_zero hc).2 hwt V B b [] (by have := (hB W (Below.refl _ _)).size; omega) (hB V hV) hbw (by simp; omega)
 unfold putV
 obtain ⟨C, hC⟩ : ∃ C, x.chk = C := ⟨_, rfl⟩
 rw [hC] at hck hpt ⊢
 unfold jval at hck hpt ⊢
 obtain ⟨S, hS⟩ : ∃ S : ByteArray, (⟨x.str.toArray⟩ : ByteArray) = S := ⟨_, rfl⟩
 simp only [hS] at hW hbx hck hpt c1 ⊢
 have HBX := Lib.hid hbx
 have HPT := Lib.hid hpt
 have HBW := Lib.hid bW
 clear hbx hpt bW hB h hT hC hS hb
 by_cases h0 : C = 0
 · subst h0
   rw [if_pos rfl]
   simp only [Int.natCast_zero] at hck ⊢
   obtain ⟨TX, hTX⟩ : ∃ T : ByteArray, (⟨x.text.toArray⟩ : ByteArray) = T := ⟨_, rfl⟩
   rw [hTX]
   have HTX := Lib.hid hTX
   clear hTX
   go_enter Tryz.func84, Tryz.ntmps84
   go_wp2_with (first
    | (go_at_call 89; refine hck.mono ?_; rintro e w1 ⟨rfl, hb1⟩
       have hf := fresh66 w1
       have hba : Below w1.heap.size w1 (w1.alloc (.cells #[.pointer none, .slice none 0 0] 201)) := (Below.refl _ _).alloc (Nat.le_refl _) _
       have hba2 := hb1.trans (hba.mono hb1.size)
       obtain ⟨d0, d1, d2, d3⟩ := HBX.out _ hba2
       have hpc := HPT.out rfl _ w1.heap.size w1.heap.size hba2 hb1.size hf)
    | (go_at_call 134; refine hpc.mono ?_; rintro e w2 ⟨rfl, k2, kb2, ko2⟩)
    | (go_at_call 135; refine (Tryz.Builder_String_any_k w1.heap.size w1.heap.size ([] ++ x.text) w2 k2 (by have := k2; have := BW.lt this; omega)).mono ?_; rintro e w3 ⟨rfl, _, kb3, _⟩))
   go_ret2
   have hf1 : Below w1.heap.size w1 w3 := hba.trans (kb2.trans kb3)
   exact ⟨by rw [← HTX.out]; rfl, HBW.out.trans ((hb1.trans (hf1.mono hb1.size)).mono HBW.out.size)⟩
 · rw [if_neg h0]
   have n1 : ((C : Int) != 0) = true := by simp; omega
   have n2 : ((C : Int) == 0) = false := beq_eq_false_iff_ne.2 (by omega)
   clear h0
   go_enter Tryz.func84, Tryz.ntmps84
   go_wp2_with (first | (go_at_call 89; refine hck.mono ?_; rintro e w1 ⟨rfl, hb1⟩))
   go_ret2
   exact ⟨rfl, HBW.out.trans (hb1.mono HBW.out.size)⟩
theorem str_ne {A B : ByteArray} (h : ¬ A = B) : ¬ A.toList = B.toList ∧ (A.toList == B.toList) = false ∧ (A.toList != B.toList) = true := by
 have h1 : ¬ A.toList = B.toList := fun e => h (by
  rw [ByteArray.toList_eq, ByteArray.toList_eq] at e
  exact ByteArray.ext (Array.toList_inj.1 e))
 have h2 : (A.toList == B.toList) = false := beq_eq_false_iff_ne.2 h1
 exact ⟨h1, h2, by simp [bne, h2]⟩
theorem str_same (A : ByteArray) : (A.toList == A.toList) = true ∧ (A.toList != A.toList) = false := by simp
end Go.Proofs.Jt
/- VE: Merged texts: V26, V28. -/
/- V26: Values of JSON, plain: which are the same; a key's item. No program in sight. -/
namespace Go.Proofs.Jt
open Go.Lib Go.Proofs.Utf

theorem jv_wt_pos (x : JV) : 1 ≤ x.wt := by
 cases x; rw [JV.wt]; omega
theorem wt_items {x : JV} {i : Nat} {y : JV} (h : x.items[i]? = some y) : y.wt < x.wt := by
 cases x with
 | mk k s ks it =>
  have := wt_item (show it[i]? = some y from h)
  rw [JV.wt]
  omega
end Go.Proofs.Jt
/- V28: JsonOrder, plain: an object with its keys in another order. No program in sight. -/
namespace Go.Proofs.Jt
open Go.Lib Go.Proofs.Utf

section
variable {ks : List (List UInt8)} {it : List JV} (t : Nat) (h : (JV.mk 6 [] ks it).chk = 0) (h0 : 0 < ks.length)
include h h0
end
/-- what a key has -/
def fieldV (x : JV) (key : List UInt8) : Option JV := if x.kind = 6 ∧ key ∈ x.keys then x.items[x.keys.idxOf key]? else none
section
variable {ks : List (List UInt8)} {it : List JV} (t : Nat) (h : (JV.mk 6 [] ks it).chk = 0) (h0 : 0 < ks.length)
include h h0
end
end Go.Proofs.Jt
