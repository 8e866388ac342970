/- The reference's same; Same. Printed by gen_z12.py. -/
import Derived.Test.YtaiaiiepbpbmmaaGreatDoorZ6
import Derived.Test.YtaiaiiepbpbmmaaGreatDoorV29
namespace Go.Proofs.Jt
open Go.RowKit Go.Maps Go.Lib Go.Proofs.Utf Go.Proofs

theorem sameV_ne {x y : JV} (h : x.kind ≠ y.kind) : sameV x y = false := by
  cases x; cases y
  rw [sameV_mk2, decide_eq_false (by exact h)]
  simp
theorem fnd_kind {x : JV} (h : x.fnd = 0) : x.kind ≠ (jn (-1)).kind := by
  cases x with
  | mk k s ks it =>
    show k ≠ -1
    rcases shaped_cases (fnd_zero h).1 with ⟨e, _⟩ | ⟨e, _⟩ | ⟨e, _⟩ | ⟨e, _⟩ | ⟨e, _⟩
    all_goals omega
theorem same_shape {x y : JV} (h : x.fnd = 0) (h' : y.fnd = 0) (hk : x.kind = y.kind) : x.items ≠ [] → (x.kind = 5 ∧ y.keys = []) ∨ x.kind = 6 := fun hi => by
  cases x with
  | mk k s ks it =>
  cases y with
  | mk k' s' ks' it' =>
    obtain rfl : k = k' := hk
    rcases shaped_cases (fnd_zero h).1 with ⟨_, _, _, e⟩ | ⟨_, _, e, _⟩ | ⟨_, _, e⟩ | ⟨e, _⟩ | ⟨e, _⟩
    · exact absurd e hi
    · exact absurd e hi
    · exact absurd e hi
    · refine .inl ⟨e, ?_⟩
      rcases shaped_cases (fnd_zero h').1 with ⟨e2, _⟩ | ⟨e2, _⟩ | ⟨e2, _⟩ | ⟨_, _, e2⟩ | ⟨e2, _⟩
      · omega
      · omega
      · omega
      · exact e2
      · omega
    · exact .inr e
/-- what the box of a round holds: the item of the key, or a value of kind -1 -/
def SB (ks' : List (List UInt8)) (it' : List JV) (fp' : Nat → Option Addr) (fc' : Nat → Nat) (gp' : Nat → Option Addr) (gc' : Nat → Nat) (u : List UInt8) (j : Nat) (p0 p1 p2 p3 : Value) : Prop :=
  (u ∉ ks'.take j ∧ p0 = .int .i64 (-1) ∧ p1 = .string ⟨#[]⟩ ∧ p2 = .slice none 0 0 ∧ p3 = .slice none 0 0) ∨
  (∃ (m : Nat) (y' : JV), m < j ∧ ks'[m]? = some u ∧ it'[m]? = some y' ∧ p0 = .int .i64 y'.kind ∧ p1 = .string ⟨y'.str.toArray⟩ ∧ p2 = .slice (fp' m) y'.keys.length (fc' m) ∧ p3 = .slice (gp' m) y'.items.length (gc' m))
theorem SB.next {ks' : List (List UInt8)} {it' : List JV} {fp' : Nat → Option Addr} {fc' : Nat → Nat} {gp' : Nat → Option Addr} {gc' : Nat → Nat} {u v : List UInt8} {j : Nat} {p0 p1 p2 p3 : Value} (h : SB ks' it' fp' fc' gp' gc' u j p0 p1 p2 p3) (hv : ks'[j]? = some v) (hne : v ≠ u) : SB ks' it' fp' fc' gp' gc' u (j + 1) p0 p1 p2 p3 := by
  rcases h with ⟨h, r⟩ | ⟨m, y', hm, r⟩
  · exact .inl ⟨take_not hv h hne, r⟩
  · exact .inr ⟨m, y', by omega, r⟩
set_option maxRecDepth 100000 in
set_option maxHeartbeats 2000000 in
theorem rsame_ne {w' : World} {x y : JV} {kp ip kp' ip' : Option Addr} {kc ic kc' ic' : Nat} (hne : x.kind ≠ y.kind) : Calls Tryz.prog 92 #[jval x kp kc ip ic, jval y kp' kc' ip' ic'] w' fun e w'' => e = .returned (.bool false) ∧ Below w'.heap.size w' w'' := by
  obtain ⟨k, hk⟩ : ∃ k, x.kind = k := ⟨_, rfl⟩
  obtain ⟨k', hk'⟩ : ∃ k, y.kind = k := ⟨_, rfl⟩
  obtain ⟨S, hS⟩ : ∃ S : ByteArray, (⟨x.str.toArray⟩ : ByteArray) = S := ⟨_, rfl⟩
  obtain ⟨S', hS'⟩ : ∃ S : ByteArray, (⟨y.str.toArray⟩ : ByteArray) = S := ⟨_, rfl⟩
  unfold jval
  rw [hk, hk', hS, hS']
  rw [hk, hk'] at hne
  generalize x.keys.length = n1
  generalize x.items.length = n2
  generalize y.keys.length = n3
  generalize y.items.length = n4
  obtain ⟨W1, hW1⟩ : ∃ W, w'.alloc (.cells #[.int .i64 k, .string S, .slice kp n1 kc, .slice ip n2 ic] 25) = W := ⟨_, rfl⟩
  obtain ⟨W, hW⟩ : ∃ W, W1.alloc (.cells #[.int .i64 k', .string S', .slice kp' n3 kc', .slice ip' n4 ic'] 25) = W := ⟨_, rfl⟩
  have bW1 := alloc_b hW1
  have bW2 := alloc_b hW
  have hz1 : W1.heap.size = w'.heap.size + 1 := by rw [← hW1]; simp
  obtain ⟨c0, c1, c2, c3⟩ := box_of hW1 W bW2
  obtain ⟨e0, e1, e2, e3⟩ := box_of hW W (Below.refl _ _)
  rw [hz1] at e0 e1 e2 e3
  subst hW1
  have q1 : (k == k') = false := beq_eq_false_iff_ne.2 hne
  have q2 : (k != k') = true := by simp [hne]
  clear hk hk' hS hS' hne hz1
  go_enter Tryz.func92, Tryz.ntmps92
  go_wp2_with fail
  go_ret
  exact ⟨rfl, Below.on bW1 bW2⟩
set_option maxRecDepth 100000 in
set_option maxHeartbeats 16000000 in
theorem rsame_any {w : World} {x : JV} {kp ip : Option Addr} {kc ic : Nat} (h : KI w x kp kc ip ic) : x.fnd = 0 → ∀ (y : JV) (kp' ip' : Option Addr) (kc' ic' : Nat), KI w y kp' kc' ip' ic' → (x.kind = y.kind → y.fnd = 0) → x.wt ≤ 1000000 → y.wt ≤ 1000000 → ∀ w', Below w.heap.size w w' → Calls Tryz.prog 92 #[jval x kp kc ip ic, jval y kp' kc' ip' ic'] w' fun e w'' => e = .returned (.bool (sameV x y)) ∧ Below w'.heap.size w' w'' := by
  induction h with
  | mk x kp kc ip ic fp fc gp gc hk hz hi hh ih =>
    intro hf y kp' ip' kc' ic' h' hf' hwx hwy w' hb
    by_cases hkind : x.kind = y.kind
    case neg => rw [sameV_ne hkind]; exact rsame_ne hkind
    replace hf' := hf' hkind
    have hsh := same_shape hf hf' hkind
    cases h' with
    | mk _ _ _ _ _ fp' fc' gp' gc' hk' hz' hi' hh' =>
    obtain ⟨W1, hW1⟩ : ∃ W, w'.alloc (.cells #[.int .i64 x.kind, .string ⟨x.str.toArray⟩, .slice kp x.keys.length kc, .slice ip x.items.length ic] 25) = W := ⟨_, rfl⟩
    obtain ⟨W, hW⟩ : ∃ W, W1.alloc (.cells #[.int .i64 y.kind, .string ⟨y.str.toArray⟩, .slice kp' y.keys.length kc', .slice ip' y.items.length ic'] 25) = W := ⟨_, rfl⟩
    have bW1 : Below w'.heap.size w' W1 := by rw [← hW1]; exact (Below.refl _ _).alloc (Nat.le_refl _) _
    have bW2 : Below W1.heap.size W1 W := by rw [← hW]; exact (Below.refl _ _).alloc (Nat.le_refl _) _
    have bW : Below w'.heap.size w' W := bW1.trans (bW2.mono bW1.size)
    have hz1 : W1.heap.size = w'.heap.size + 1 := by rw [← hW1]; simp
    have hbx0 := box_cells hW1
    have hbx : ∀ V, Below W.heap.size W V → _ := fun V hV => hbx0 V (bW2.trans (hV.mono bW2.size))
    have hby := box_cells hW
    rw [hz1] at hby
    obtain ⟨_, hkl0⟩ := fnd_nodup hf
    obtain ⟨hnd, hkl0'⟩ := fnd_nodup hf'
    have HFI : Hid (∀ (i : Nat) (z : JV), x.items[i]? = some z → z.fnd = 0 ∧ z.wt ≤ 1000000) := Lib.hid fun i z hz => ⟨fnd_items hf hz, by have := wt_items hz; omega⟩
    have HFI' : Hid (∀ (i : Nat) (z : JV), y.items[i]? = some z → z.fnd = 0 ∧ z.wt ≤ 1000000) := Lib.hid fun i z hz => ⟨fnd_items hf' hz, by have := wt_items hz; omega⟩
    have HKW : Hid (∀ u ∈ x.keys, u.length ≤ 1000000) := Lib.hid fun u hu => by have := keysW_mem hu; cases x; rw [JV.wt] at hwx; simp only [keys_mk] at this; omega
    have HKW' : Hid (∀ u ∈ y.keys, u.length ≤ 1000000) := Lib.hid fun u hu => by have := keysW_mem hu; cases y; rw [JV.wt] at hwy; simp only [keys_mk] at this; omega
    have hkn' : y.keys.length ≤ 1000000 := by have := keys_len y.keys; cases y; rw [JV.wt] at hwy; simp only [keys_mk] at this ⊢; omega
    cases x with
    | mk k s ks it =>
    cases y with
    | mk k' s' ks' it' =>
    unfold jval
    simp only [kind_mk, str_mk, keys_mk, items_mk] at *
    clear hkind
    have HSHP := Lib.hid hsh
    clear hsh
    obtain ⟨S, hS⟩ : ∃ S : ByteArray, (⟨s.toArray⟩ : ByteArray) = S := ⟨_, rfl⟩
    obtain ⟨S', hS'⟩ : ∃ S : ByteArray, (⟨s'.toArray⟩ : ByteArray) = S := ⟨_, rfl⟩
    have hss := str_eq_iff hS hS'
    simp only [hS] at hW1 hbx
    simp only [hS'] at hW hby
    rw [hS, hS', sameV_mk2]
    have hzz : it.length ≤ maxLen ∧ ks.length ≤ maxLen := ⟨hz.1, hz.2.1⟩
    unfold maxLen at hzz
    obtain ⟨hil, hkl⟩ := hzz
    subst hW1
    obtain ⟨c0, c1, c2, c3⟩ := hbx W (Below.refl _ _)
    obtain ⟨e0, e1, e2, e3⟩ := hby W (Below.refl _ _)
    have HBX : Hid (∀ V, Below W.heap.size W V → _) := Lib.hid hbx
    have HBY := Lib.hid hby
    have HBW := Lib.hid bW
    have HB : Hid (∀ W', Below W.heap.size W W' → Below w.heap.size w W') := Lib.hid fun W' hb' => hb.trans ((bW.trans (hb'.mono bW.size)).mono hb.size)
    have HI := Lib.hid hi
    have HI' := Lib.hid hi'
    have HH' := Lib.hid hh'
    have HIH := Lib.hid ih
    have HK := Lib.hid hk
    have HK' := Lib.hid hk'
    have HND := Lib.hid hnd
    clear hbx0 hbx hby bW1 bW2 bW hb hi hi' hh hh' ih hk hk' hz hz' hS hS' hz1 hf hf' hwx hwy hnd
    by_cases hkk : k = k'
    · by_cases hs2 : s = s'
      · by_cases hli : it.length = it'.length
        · rw [decide_eq_true hkk, decide_eq_true hs2, decide_eq_true hli, Bool.true_and, Bool.true_and, Bool.true_and]
          obtain rfl := hss.1 hs2
          subst hkk hs2
          obtain ⟨t1, t2⟩ := str_same S
          have q1 : (k == k) = true := by simp
          have q2 : (k != k) = false := by simp
          have z1 : ((it.length : Int) != (it'.length : Int)) = false := by rw [hli]; simp
          have z2 : ((it.length : Int) == (it'.length : Int)) = true := by rw [hli]; simp
          have HLI := Lib.hid hli
          have HL6 := Lib.hid hkl0
          have HL6' := Lib.hid hkl0'
          obtain ⟨B, hBB⟩ : ∃ B, JV.mk k s ks' it' = B := ⟨_, rfl⟩
          rw [hBB]
          have hBk : B.keys = ks' ∧ B.items = it' := by rw [← hBB]; exact ⟨rfl, rfl⟩
          have HBB := Lib.hid hBk
          clear hss hli hkl0 hkl0' hBB hBk
          obtain ⟨R, hR⟩ : ∃ R, sameL (decide (k = 6)) it ks 0 B = R := ⟨_, rfl⟩
          rw [hR]
          have HR := Lib.hid hR
          clear hR
          go_enter Tryz.func92, Tryz.ntmps92
          go_wp2_with fail
          go_loopw [5] (fun iv wr => ∃ i : Nat, iv = .int .i64 i ∧ i ≤ it.length ∧ sameL (decide (k = 6)) (it.drop i) (ks.drop i) i B = R ∧ Below W.heap.size W wr) (fun iv _ => it.length - (RowKit.intOf iv).toNat)
          case atStart => exact ⟨0, rfl, Nat.zero_le _, by rw [List.drop_zero, List.drop_zero]; exact HR.out, Below.refl _ _⟩
          case round =>
            obtain ⟨wo, hwo⟩ : ∃ wo, wo = wr := ⟨_, rfl⟩
            subst hwo
            obtain ⟨i, rfl, hi, hm, hB⟩ := hrel
            clear c0 c1 c2 c3 e0 e1 e2 e3
            obtain ⟨c0, c1, c2, c3⟩ := HBX.out wo hB
            by_cases hin : (i : Int) < (it.length : Int)
            · obtain ⟨y, hy⟩ : ∃ y, it[i]? = some y := ⟨_, List.getElem?_eq_getElem (by omega)⟩
              obtain ⟨_, a, rfl, hjc⟩ := HI.out i y hy
              obtain ⟨hyf, hyw⟩ := HFI.out i y hy
              obtain ⟨Y, hY⟩ : ∃ Y : ByteArray, (⟨y.str.toArray⟩ : ByteArray) = Y := ⟨_, rfl⟩
              rw [drop_cons hy, sameL_cons] at hm
              have hJ := JBox.alloc wo (.int .i64 0) (.string ⟨#[]⟩) (.slice none 0 0) (.slice none 0 0)
              rcases HSHP.out (by intro e; rw [e, List.length_nil] at hin; omega) with ⟨k5, hks'⟩ | k6
              · -- a list
                subst k5
                have hk0 : ¬ (0 : Int) < (ks'.length : Int) := by rw [hks']; simp
                clear hks'
                have HK6 : Hid (decide ((5 : Int) = 6) = false) := Lib.hid rfl
                rw [HK6.out, if_neg (by simp), HBB.out.2] at hm
                have hin' : (i : Int) < (it'.length : Int) := by have := HLI.out; omega
                obtain ⟨y', hy'⟩ : ∃ z, it'[i]? = some z := ⟨_, List.getElem?_eq_getElem (by omega)⟩
                have hget : it'.getD i (jn 0) = y' := by rw [List.getD_eq_getElem?_getD, hy']; rfl
                rw [hget, List.tail_drop] at hm
                obtain ⟨_, a', rfl, hjc'⟩ := HI'.out i y' hy'
                obtain ⟨hyf', hyw'⟩ := HFI'.out i y' hy'
                obtain ⟨Y', hY'⟩ : ∃ Y : ByteArray, (⟨y'.str.toArray⟩ : ByteArray) = Y := ⟨_, rfl⟩
                have HP := Lib.hid (And.intro hm (And.intro hget (And.intro hyf' (And.intro hyw' (HH'.out i y' hy')))))
                have HY1 := Lib.hid (And.intro hy (And.intro hY (And.intro hyf (And.intro hyw hjc))))
                have HY2 := Lib.hid (And.intro hY' hjc')
                clear hm hget hyf' hyw' hy hY hyf hyw hjc hy' hjc' hY'
                go_wp2_with (first
                  | (refine store_val rfl (.tmp 6) (.tmp 36) rfl wo.heap.size rfl (.int .i64 (-1)) (.string ⟨#[]⟩) (.slice none 0 0) (.slice none 0 0) rfl rfl hJ (fun V hV hgV _ => ?_)
                     have b1 := below_gbz (hB.alloc hB.size _) hB.size hgV
                     clear c0 c1 c2 c3
                     obtain ⟨c0, c1, c2, c3⟩ := HBX.out V b1
                     obtain ⟨e0, e1, e2, e3⟩ := HBY.out V b1
                     obtain ⟨j0, j1, j2, j3, _⟩ := HY2.out.2.below (HB.out _ b1)
                     rw [HY2.out.1] at j1
                     have hJ1 : JBox V wo.heap.size := ⟨_, _, _, _, hV⟩)
                  | (refine store_val rfl (.tmp 6) (.tmp 44) rfl wo.heap.size rfl (.int .i64 y'.kind) (.string Y') (.slice (fp' i) y'.keys.length (fc' i)) (.slice (gp' i) y'.items.length (gc' i)) rfl rfl hJ1 (fun V2 hV2 hgV2 _ => ?_)
                     have hBX := below_gbz b1 hB.size hgV2
                     have hbz := hV2
                     clear c0 c1 c2 c3 e0 e1 e2 e3 j0 j1 j2 j3 hV hgV hJ1 hV2 hgV2))
                go_loopw [7] (fun kv wr => kv = .int .i64 0 ∧ wr.heap[wo.heap.size]? = some (.cells #[.int .i64 y'.kind, .string Y', .slice (fp' i) y'.keys.length (fc' i), .slice (gp' i) y'.items.length (gc' i)] 25 (0, 0)) ∧ Below W.heap.size W wr) (fun _ _ => 0)
                case atStart => exact ⟨rfl, hbz, hBX⟩
                case round =>
                  clear hbz hBX
                  obtain ⟨rfl, hbz, hBX⟩ := hrel
                  obtain ⟨hy, hY, hyf, hyw, hjc⟩ := HY1.out
                  obtain ⟨hm, hget, hyf', hyw', hKy'⟩ := HP.out
                  have hZ : ∃ (Z : JV) (zp : Option Addr) (zc : Nat) (zi : Option Addr) (zd : Nat), Value.int .i64 y'.kind = .int .i64 Z.kind ∧ Value.string Y' = .string ⟨Z.str.toArray⟩ ∧ Value.slice (fp' i) y'.keys.length (fc' i) = .slice zp Z.keys.length zc ∧ Value.slice (gp' i) y'.items.length (gc' i) = .slice zi Z.items.length zd ∧ KI w Z zp zc zi zd ∧ (y.kind = Z.kind → Z.fnd = 0) ∧ Z.wt ≤ 1000000 ∧ (sameV y Z && sameL false (it.drop (i + 1)) (ks.drop (i + 1)) (i + 1) B) = R := ⟨y', _, _, _, _, rfl, by rw [← HY2.out.1], rfl, rfl, hKy', fun _ => hyf', hyw', hm⟩
                  generalize Value.int .i64 y'.kind = p0 at hZ hbz
                  generalize Value.string Y' = p1 at hZ hbz
                  generalize Value.slice (fp' i) y'.keys.length (fc' i) = p2 at hZ hbz
                  generalize Value.slice (gp' i) y'.items.length (gc' i) = p3 at hZ hbz
                  clear hm hget hyf' hyw' hKy' HP HY1 HY2 hJ
                  obtain ⟨x0, x1, x2, x3⟩ := HBX.out wr hBX
                  obtain ⟨f0, f1, f2, f3⟩ := HBY.out wr hBX
                  obtain ⟨g0, g1, g2, g3, _⟩ := hjc.below (HB.out _ hBX)
                  have hBd : Below W.heap.size W wr.drew := hBX.drew
                  obtain ⟨b0, b1, b2, b3⟩ := HBX.out _ hBd
                  obtain ⟨n0, n1, n2, n3, _⟩ := hjc.below (HB.out _ hBd)
                  rw [hY] at g1 n1
                  clear hjc
                  obtain ⟨Z, zp, zc, zi, zd, rfl, rfl, rfl, rfl, hKZ, hZf, hZw, hmE⟩ := hZ
                  have hcall := HIH.out i y hy hyf Z _ _ _ _ hKZ hZf hyw hZw _ (HB.out _ hBd)
                  obtain ⟨ZS, hZS⟩ : ∃ Y : ByteArray, (⟨Z.str.toArray⟩ : ByteArray) = Y := ⟨_, rfl⟩
                  rw [hZS] at hbz
                  obtain ⟨l0, l1, l2, l3⟩ := cells4 hbz
                  obtain ⟨m0, m1, m2, m3⟩ := cells4 (show wr.drew.heap[wo.heap.size]? = _ from hbz)
                  unfold jval at hcall
                  simp only [hY, hZS] at hcall
                  obtain ⟨E, hE⟩ : ∃ E, sameV y Z = E := ⟨_, rfl⟩
                  rw [hE] at hmE hcall
                  have HME := Lib.hid hmE
                  have HCALL := Lib.hid hcall
                  clear hE hY hZS hy hmE hyf hyw hKZ hZf hZw hcall hbz
                  go_wp2_with fail
                  go_still_tail 6, (by kernel_rfl)
                  change wpList _ _ _ _ _ wr.drew
                  have hcall := HCALL.out
                  clear x0 x1 x2 x3 f0 f1 f2 f3 g0 g1 g2 g3 l0 l1 l2 l3 HCALL
                  generalize wr.drew = wd at *
                  cases E with
                  | true =>
                    go_wp2_with (first | (go_at_call 92; refine hcall.mono ?_; rintro e w3 ⟨rfl, hb3⟩))
                    go_roundw
                    case rel => exact ⟨i + 1, by go_num, by omega, by rw [HK6.out]; have := HME.out; rw [Bool.true_and] at this; exact this, hBd.trans (hb3.mono hBd.size)⟩
                    case measure => simp [RowKit.intOf]; omega
                  | false =>
                    have hm := HME.out
                    rw [Bool.false_and] at hm
                    subst hm
                    clear HME HR
                    go_wp2_with (first | (go_at_call 92; refine hcall.mono ?_; rintro e w3 ⟨rfl, hb3⟩))
                    go_ret
                    exact ⟨rfl, HBW.out.trans ((hBd.trans (hb3.mono hBd.size)).mono HBW.out.size)⟩
              · -- an object
                have HK6 := Lib.hid (decide_eq_true k6)
                have k5 : (k == 5) = false := beq_eq_false_iff_ne.2 (by omega)
                have hjk : (i : Int) < (ks.length : Int) := by have := HL6.out k6; omega
                obtain ⟨u, hu⟩ : ∃ u, ks[i]? = some u := ⟨_, List.getElem?_eq_getElem (by omega)⟩
                obtain ⟨U, hU⟩ : ∃ S : ByteArray, (⟨u.toArray⟩ : ByteArray) = S := ⟨_, rfl⟩
                rw [HK6.out, if_pos rfl, drop_cons hu, List.headD_cons, List.tail_cons, HBB.out.1, HBB.out.2] at hm
                have HL7 := Lib.hid (HL6'.out k6)
                have HY1 := Lib.hid (And.intro hy (And.intro hY (And.intro hyf (And.intro hyw (And.intro hjc (And.intro hm (And.intro hu hU)))))))
                clear hm hy hY hyf hyw hjc hu hU k6
                go_wp2_with (first
                  | (refine store_val rfl (.tmp 6) (.tmp 36) rfl wo.heap.size rfl (.int .i64 (-1)) (.string ⟨#[]⟩) (.slice none 0 0) (.slice none 0 0) rfl rfl hJ (fun V hV hgV _ => ?_)
                     have b1 := below_gbz (hB.alloc hB.size _) hB.size hgV
                     clear c0 c1 c2 c3
                     obtain ⟨c0, c1, c2, c3⟩ := HBX.out V b1))
                go_loopw [7] (fun kv wr => ∃ (j : Nat) (p0 p1 p2 p3 : Value), kv = .int .i64 j ∧ j ≤ ks'.length ∧ wr.heap[wo.heap.size]? = some (.cells #[p0, p1, p2, p3] 25 (0, 0)) ∧ SB ks' it' fp' fc' gp' gc' u j p0 p1 p2 p3 ∧ Below W.heap.size W wr) (fun kv _ => ks'.length - (RowKit.intOf kv).toNat)
                case atStart => exact ⟨0, _, _, _, _, rfl, Nat.zero_le _, hV, .inl ⟨by simp, rfl, rfl, rfl, rfl⟩, b1⟩
                case round =>
                  obtain ⟨j, p0, p1, p2, p3, rfl, hj, hbz, hsb, hBX⟩ := hrel
                  clear c0 c1 c2 c3 hV hgV b1
                  obtain ⟨hy, hY, hyf, hyw, hjc, hm, hu, hU⟩ := HY1.out
                  by_cases hjn : (j : Int) < (ks'.length : Int)
                  · obtain ⟨v, hv⟩ : ∃ v, ks'[j]? = some v := ⟨_, List.getElem?_eq_getElem (by omega)⟩
                    obtain ⟨a2, rfl, ha2, _⟩ := (HK'.out.below (HB.out _ hBX)) j v hv
                    obtain ⟨b, rfl, hkc, _⟩ := (HK.out.below (HB.out _ hBX)) i u hu
                    obtain ⟨Vs, hVs⟩ : ∃ S : ByteArray, (⟨v.toArray⟩ : ByteArray) = S := ⟨_, rfl⟩
                    rw [hU] at hkc
                    rw [hVs] at ha2
                    have huv := str_eq_iff hVs hU
                    obtain ⟨x0, x1, x2, x3⟩ := HBX.out wr hBX
                    obtain ⟨f0, f1, f2, f3⟩ := HBY.out wr hBX
                    by_cases hvu : Vs = U
                    · have hvu2 := huv.2 hvu
                      subst hvu hvu2
                      obtain ⟨t1, t2⟩ := str_same Vs
                      have hji : (j : Int) < (it'.length : Int) := by have := HL7.out; omega
                      obtain ⟨y', hy'⟩ : ∃ z, it'[j]? = some z := ⟨_, List.getElem?_eq_getElem (by omega)⟩
                      obtain ⟨_, a', rfl, hjc'⟩ := HI'.out j y' hy'
                      obtain ⟨Y', hY'⟩ : ∃ Y : ByteArray, (⟨y'.str.toArray⟩ : ByteArray) = Y := ⟨_, rfl⟩
                      have hnx : SB ks' it' fp' fc' gp' gc' v (j + 1) (.int .i64 y'.kind) (.string Y') (.slice (fp' j) y'.keys.length (fc' j)) (.slice (gp' j) y'.items.length (gc' j)) := .inr ⟨j, y', Nat.lt_succ_self _, hv, hy', rfl, by rw [← hY'], rfl, rfl⟩
                      have HN := Lib.hid hnx
                      have HY2 := Lib.hid (And.intro hY' hjc')
                      have HJ2 := Lib.hid (show JBox wr wo.heap.size from ⟨_, _, _, _, hbz⟩)
                      clear hnx hY' hjc' hy' hv huv hy hY hyf hyw hjc hm hu hU hVs hsb hbz
                      go_upto_region 12 with fail
                      go_quiet (fail)
                      have hBd := below_draws hBX nq
                      clear x0 x1 x2 x3 f0 f1 f2 f3 ha2 hkc
                      obtain ⟨x0, x1, x2, x3⟩ := HBX.out _ hBd
                      obtain ⟨f0, f1, f2, f3⟩ := HBY.out _ hBd
                      obtain ⟨j0, j1, j2, j3, _⟩ := HY2.out.2.below (HB.out _ hBd)
                      rw [HY2.out.1] at j1
                      have hjb : JBox (wr.drewN nq) wo.heap.size := HJ2.out.same (by rw [World.heap_drewN])
                      generalize wr.drewN nq = wd at *
                      go_wp2_with (first
                        | (refine store_val rfl (.tmp 6) (.tmp 67) rfl wo.heap.size rfl (.int .i64 y'.kind) (.string Y') (.slice (fp' j) y'.keys.length (fc' j)) (.slice (gp' j) y'.items.length (gc' j)) rfl rfl hjb (fun V2 hV2 hgV2 _ => ?_)))
                      go_roundw
                      case rel => exact ⟨j + 1, _, _, _, _, by go_num, by omega, hV2, HN.out, below_gbz hBd hB.size hgV2⟩
                      case measure => simp [RowKit.intOf]; omega
                    · obtain ⟨t1, t2, t3⟩ := str_ne hvu
                      have hnx : SB ks' it' fp' fc' gp' gc' u (j + 1) p0 p1 p2 p3 := hsb.next hv (fun e => hvu (huv.1 e))
                      have HN := Lib.hid hnx
                      have HBZ := Lib.hid hbz
                      clear hnx hv huv hy hY hyf hyw hjc hm hu hU hVs hsb hbz hvu
                      go_upto_region 12 with fail
                      go_quiet (fail)
                      have hBd := below_draws hBX nq
                      have hbd : (wr.drewN nq).heap[wo.heap.size]? = some (.cells #[p0, p1, p2, p3] 25 (0, 0)) := by rw [World.heap_drewN]; exact HBZ.out
                      clear x0 x1 x2 x3 f0 f1 f2 f3 ha2 hkc
                      generalize wr.drewN nq = wd at *
                      go_wp2_with fail
                      go_roundw
                      case rel => exact ⟨j + 1, _, _, _, _, by go_num, by omega, hbd, HN.out, hBd⟩
                      case measure => simp [RowKit.intOf]; omega
                  · have hj2 : j = ks'.length := by omega
                    subst hj2
                    have hZ : ∃ (Z : JV) (zp : Option Addr) (zc : Nat) (zi : Option Addr) (zd : Nat), p0 = .int .i64 Z.kind ∧ p1 = .string ⟨Z.str.toArray⟩ ∧ p2 = .slice zp Z.keys.length zc ∧ p3 = .slice zi Z.items.length zd ∧ KI w Z zp zc zi zd ∧ (y.kind = Z.kind → Z.fnd = 0) ∧ Z.wt ≤ 1000000 ∧ (sameV y Z && sameL true (it.drop (i + 1)) (ks.drop (i + 1)) (i + 1) B) = R := by
                      rcases hsb with ⟨hn, e0, e1, e2, e3⟩ | ⟨m, y', _, hmu, hmy, e0, e1, e2, e3⟩
                      · rw [List.take_length] at hn
                        have hk1 : y.kind ≠ (jn (-1)).kind := fnd_kind hyf
                        refine ⟨jn (-1), none, 0, none, 0, e0, e1, e2, e3, (KP.leaf _ (fun _ => True) _ _).ki, fun e => absurd e hk1, by decide, ?_⟩
                        rw [sameV_ne hk1, ← hm, decide_eq_false hn]
                        simp
                      · obtain ⟨hyf', hyw'⟩ := HFI'.out m y' hmy
                        refine ⟨y', _, _, _, _, e0, e1, e2, e3, HH'.out m y' hmy, fun _ => hyf', hyw', ?_⟩
                        rw [← hm, decide_eq_true (List.mem_of_getElem? hmu), idx_get HND.out hmu, List.getD_eq_getElem?_getD, hmy]
                        rfl
                    clear hm hu hU hsb HY1 hJ
                    obtain ⟨x0, x1, x2, x3⟩ := HBX.out wr hBX
                    obtain ⟨f0, f1, f2, f3⟩ := HBY.out wr hBX
                    obtain ⟨g0, g1, g2, g3, _⟩ := hjc.below (HB.out _ hBX)
                    have hBd : Below W.heap.size W wr.drew := hBX.drew
                    obtain ⟨b0, b1, b2, b3⟩ := HBX.out _ hBd
                    obtain ⟨n0, n1, n2, n3, _⟩ := hjc.below (HB.out _ hBd)
                    rw [hY] at g1 n1
                    clear hjc
                    obtain ⟨Z, zp, zc, zi, zd, rfl, rfl, rfl, rfl, hKZ, hZf, hZw, hmE⟩ := hZ
                    have hcall := HIH.out i y hy hyf Z _ _ _ _ hKZ hZf hyw hZw _ (HB.out _ hBd)
                    obtain ⟨ZS, hZS⟩ : ∃ Y : ByteArray, (⟨Z.str.toArray⟩ : ByteArray) = Y := ⟨_, rfl⟩
                    rw [hZS] at hbz
                    obtain ⟨l0, l1, l2, l3⟩ := cells4 hbz
                    obtain ⟨m0, m1, m2, m3⟩ := cells4 (show wr.drew.heap[wo.heap.size]? = _ from hbz)
                    unfold jval at hcall
                    simp only [hY, hZS] at hcall
                    obtain ⟨E, hE⟩ : ∃ E, sameV y Z = E := ⟨_, rfl⟩
                    rw [hE] at hmE hcall
                    have HME := Lib.hid hmE
                    have HCALL := Lib.hid hcall
                    clear hE hY hZS hy hmE hyf hyw hKZ hZf hZw hcall hbz
                    go_wp2_with fail
                    go_still_tail 6, (by kernel_rfl)
                    change wpList _ _ _ _ _ wr.drew
                    have hcall := HCALL.out
                    clear x0 x1 x2 x3 f0 f1 f2 f3 g0 g1 g2 g3 l0 l1 l2 l3 HCALL
                    generalize wr.drew = wd at *
                    cases E with
                    | true =>
                      go_wp2_with (first | (go_at_call 92; refine hcall.mono ?_; rintro e w3 ⟨rfl, hb3⟩))
                      go_roundw
                      case rel => exact ⟨i + 1, by go_num, by omega, by rw [HK6.out]; have := HME.out; rw [Bool.true_and] at this; exact this, hBd.trans (hb3.mono hBd.size)⟩
                      case measure => simp [RowKit.intOf]; omega
                    | false =>
                      have hm := HME.out
                      rw [Bool.false_and] at hm
                      subst hm
                      clear HME HR
                      go_wp2_with (first | (go_at_call 92; refine hcall.mono ?_; rintro e w3 ⟨rfl, hb3⟩))
                      go_ret
                      exact ⟨rfl, HBW.out.trans ((hBd.trans (hb3.mono hBd.size)).mono HBW.out.size)⟩
            · have hii : i = it.length := by omega
              subst hii
              rw [List.drop_length, sameL] at hm
              subst hm
              clear HR
              go_wp2_with fail
              go_ret
              exact ⟨rfl, HBW.out.trans (hB.mono HBW.out.size)⟩
        · rw [decide_eq_false hli, Bool.and_false, Bool.false_and]
          obtain rfl := hss.1 hs2
          subst hkk
          obtain ⟨t1, t2⟩ := str_same S
          have q1 : (k == k) = true := by simp
          have q2 : (k != k) = false := by simp
          have u1 : ((it.length : Int) != (it'.length : Int)) = true := by simp; omega
          have u2 : ((it.length : Int) == (it'.length : Int)) = false := beq_eq_false_iff_ne.2 (by omega)
          clear hss hs2 hli
          go_enter Tryz.func92, Tryz.ntmps92
          go_wp2_with fail
          go_ret
          exact ⟨rfl, HBW.out⟩
      · rw [decide_eq_false hs2, Bool.and_false, Bool.false_and, Bool.false_and]
        obtain ⟨t1, t2, t3⟩ := str_ne (fun e => hs2 (hss.2 e))
        subst hkk
        have q1 : (k == k) = true := by simp
        have q2 : (k != k) = false := by simp
        clear hss hs2
        go_enter Tryz.func92, Tryz.ntmps92
        go_wp2_with fail
        go_ret
        exact ⟨rfl, HBW.out⟩
    · rw [decide_eq_false hkk, Bool.false_and, Bool.false_and, Bool.false_and]
      have q1 : (k == k') = false := beq_eq_false_iff_ne.2 hkk
      have q2 : (k != k') = true := by simp [hkk]
      clear hss hkk
      go_enter Tryz.func92, Tryz.ntmps92
      go_wp2_with fail
      go_ret
      exact ⟨rfl, HBW.out⟩
set_option maxRecDepth 100000 in
set_option maxHeartbeats 4000000 in
theorem rSame_any {w : World} {x y : JV} {kp ip kp' ip' : Option Addr} {kc ic kc' ic' : Nat} (h : KI w x kp kc ip ic) (h' : KI w y kp' kc' ip' ic') (hwx : x.wt ≤ 1000000) (hwy : y.wt ≤ 1000000) : ∀ w', Below w.heap.size w w' → Calls Tryz.prog 32 #[jval x kp kc ip ic, jval y kp' kc' ip' ic'] w' fun e w'' => e = .returned (.bool (sameB x y)) ∧ Below w'.heap.size w' w'' := by
  intro w' hb
  obtain ⟨W1, hW1⟩ : ∃ W, w'.alloc (.cells #[.int .i64 x.kind, .string ⟨x.str.toArray⟩, .slice kp x.keys.length kc, .slice ip x.items.length ic] 25) = W := ⟨_, rfl⟩
  obtain ⟨W, hW⟩ : ∃ W, W1.alloc (.cells #[.int .i64 y.kind, .string ⟨y.str.toArray⟩, .slice kp' y.keys.length kc', .slice ip' y.items.length ic'] 25) = W := ⟨_, rfl⟩
  have bW1 : Below w'.heap.size w' W1 := by rw [← hW1]; exact (Below.refl _ _).alloc (Nat.le_refl _) _
  have bW2 : Below W1.heap.size W1 W := by rw [← hW]; exact (Below.refl _ _).alloc (Nat.le_refl _) _
  have bW : Below w'.heap.size w' W := bW1.trans (bW2.mono bW1.size)
  have hz1 : W1.heap.size = w'.heap.size + 1 := by rw [← hW1]; simp
  have hbx0 := box_cells hW1
  have hbx : ∀ V, Below W.heap.size W V → _ := fun V hV => hbx0 V (bW2.trans (hV.mono bW2.size))
  have hby := box_cells hW
  rw [hz1] at hby
  have hB : ∀ W', Below W.heap.size W W' → Below w.heap.size w W' := fun W' hb' => hb.trans ((bW.trans (hb'.mono bW.size)).mono hb.size)
  have hcx := fun V (hV : Below W.heap.size W V) => rcheck_any h hwx V (hB V hV)
  have hcy := fun V (hV : Below W.heap.size W V) => rcheck_any h' hwy V (hB V hV)
  have hss := fun (hx : x.chk = 0) (hy : y.chk = 0) V (hV : Below W.heap.size W V) => rsame_any h (chk_zero hx).2 y _ _ _ _ h' (fun _ => (chk_zero hy).2) hwx hwy V (hB V hV)
  obtain ⟨S, hS⟩ : ∃ S : ByteArray, (⟨x.str.toArray⟩ : ByteArray) = S := ⟨_, rfl⟩
  obtain ⟨S', hS'⟩ : ∃ S : ByteArray, (⟨y.str.toArray⟩ : ByteArray) = S := ⟨_, rfl⟩
  obtain ⟨E, hE⟩ : ∃ E, sameV x y = E := ⟨_, rfl⟩
  obtain ⟨cx, hcx0⟩ : ∃ c, x.chk = c := ⟨_, rfl⟩
  obtain ⟨cy, hcy0⟩ : ∃ c, y.chk = c := ⟨_, rfl⟩
  unfold sameB
  rw [hE, hcx0, hcy0]
  unfold jval at hcx hcy hss ⊢
  simp only [hS, hS', hE, hcx0, hcy0] at hW1 hW hbx hby hcx hcy hss ⊢
  have HBX : Hid (∀ V, Below W.heap.size W V → _) := Lib.hid hbx
  have HBY := Lib.hid hby
  have HCX := Lib.hid hcx
  have HCY := Lib.hid hcy
  have HSS := Lib.hid hss
  have HBW := Lib.hid bW
  subst hW1
  obtain ⟨c0, c1, c2, c3⟩ := hbx W (Below.refl _ _)
  clear h h' hbx hbx0 hby bW1 bW2 bW hb hB hcx hcy hss hz1 hE hcx0 hcy0 hS hS'
  have h1 := HCX.out W (Below.refl _ _)
  by_cases e1 : cx = 0
  · rw [decide_eq_true e1, Bool.true_and]
    by_cases e2 : cy = 0
    · rw [decide_eq_true e2, Bool.true_and]
      have HSV := Lib.hid (HSS.out e1 e2)
      subst e1 e2
      clear HSS
      go_enter Tryz.func32, Tryz.ntmps32
      go_wp2_with (first
        | (with_reducible (show Calls _ _ _ W _); go_at_call 91; refine h1.mono ?_; rintro e w1 ⟨rfl, hb1⟩; obtain ⟨d0, d1, d2, d3⟩ := HBY.out w1 hb1; have h2 := HCY.out w1 hb1)
        | (go_at_call 91; refine h2.mono ?_; rintro e w2 ⟨rfl, hb2⟩; have hb12 := hb1.trans (hb2.mono hb1.size); obtain ⟨f0, f1, f2, f3⟩ := HBX.out w2 hb12; obtain ⟨g0, g1, g2, g3⟩ := HBY.out w2 hb12; have h3 := HSV.out w2 hb12)
        | (go_at_call 92; refine h3.mono ?_; rintro e w3 ⟨rfl, hb3⟩))
      go_ret
      exact ⟨rfl, HBW.out.trans ((hb12.trans (hb3.mono hb12.size)).mono HBW.out.size)⟩
    · rw [decide_eq_false e2, Bool.false_and]
      have n2 : ((cy : Int) == 0) = false := beq_eq_false_iff_ne.2 (by omega)
      subst e1
      clear HSS e2
      go_enter Tryz.func32, Tryz.ntmps32
      go_wp2_with (first
        | (with_reducible (show Calls _ _ _ W _); go_at_call 91; refine h1.mono ?_; rintro e w1 ⟨rfl, hb1⟩; obtain ⟨d0, d1, d2, d3⟩ := HBY.out w1 hb1; have h2 := HCY.out w1 hb1)
        | (go_at_call 91; refine h2.mono ?_; rintro e w2 ⟨rfl, hb2⟩; have hb12 := hb1.trans (hb2.mono hb1.size)))
      go_ret
      exact ⟨rfl, HBW.out.trans (hb12.mono HBW.out.size)⟩
  · rw [decide_eq_false e1, Bool.false_and, Bool.false_and]
    have n1 : ((cx : Int) == 0) = false := beq_eq_false_iff_ne.2 (by omega)
    clear HSS HCY e1
    go_enter Tryz.func32, Tryz.ntmps32
    go_wp2_with (first
      | (go_at_call 91; refine h1.mono ?_; rintro e w1 ⟨rfl, hb1⟩))
    go_ret
    exact ⟨rfl, HBW.out.trans (hb1.mono HBW.out.size)⟩
end Go.Proofs.Jt
