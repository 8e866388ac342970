/- LspKnown: the walk. Printed by gen_of.py. -/
import Derived.Test.YtaiaiiepbpbmmaaGreatDoorCmKO
namespace Go.Proofs.Ls
open Go.RowKit Go.Maps Go.Lib Go.Proofs.Utf Go.Proofs.Jt Go.Proofs

theorem chs_cells {w : World} {B g c : Nat} (h : w.ownsRow B 117 6 (.slice (some ⟨g, 0, none⟩) 2 c) 2 (chC lkC)) (j : Nat) (u : Value) (hu : (chC lkC)[j]? = some u) : w.cell? ⟨g, j, none⟩ = some u := by
  have := h.cells (g := g) rfl j u hu
  rwa [add0] at this
set_option maxRecDepth 100000 in
set_option maxHeartbeats 64000000 in
theorem lspKnown_walk {w : World} (hE : ∀ V, Below w.heap.size w V → Env V) : Calls Tryz.prog 13 #[] w fun e w' => e = .returned (.bool true) ∧ Below w.heap.size w w' := by
  have H64A1 : Hid (∀ V, Below w.heap.size w V → Calls Tryz.prog 64 #[.string ⟨#[123, 34, 105, 100, 34, 58, 34, 97, 34, 125]⟩] V fun e w' => ∃ kp kc ip ic, e = .returned (.agg #[.int .i64 6, .string ⟨#[]⟩, .slice kp 1 kc, .slice ip 1 ic]) ∧ KI w' lkVA1 kp kc ip ic ∧ Below V.heap.size V w') := Lib.hid fun V hV =>
    (of64 (T := lkTA1) (hE V hV).tabs (Nat.le_of_ble_eq_true rfl) lkPA1 rfl).mono fun _ _ ⟨kp, kc, ip, ic, a, b, _, c⟩ => ⟨kp, kc, ip, ic, a, b.ki, c⟩
  have H64A2 : Hid (∀ V, Below w.heap.size w V → Calls Tryz.prog 64 #[.string ⟨#[123, 34, 116, 101, 120, 116, 68, 111, 99, 117, 109, 101, 110, 116, 34, 58, 123, 34, 117, 114, 105, 34, 58, 34, 117, 34, 125, 44, 34, 120, 34, 58, 49, 125]⟩] V fun e w' => ∃ kp kc ip ic, e = .returned (.agg #[.int .i64 6, .string ⟨#[]⟩, .slice kp 2 kc, .slice ip 2 ic]) ∧ KI w' lkVA2 kp kc ip ic ∧ Below V.heap.size V w') := Lib.hid fun V hV =>
    (of64 (T := lkTA2) (hE V hV).tabs (Nat.le_of_ble_eq_true rfl) lkPA2 rfl).mono fun _ _ ⟨kp, kc, ip, ic, a, b, _, c⟩ => ⟨kp, kc, ip, ic, a, b.ki, c⟩
  have H64A4 : Hid (∀ V, Below w.heap.size w V → Calls Tryz.prog 64 #[.string ⟨#[123, 34, 116, 101, 120, 116, 68, 111, 99, 117, 109, 101, 110, 116, 34, 58, 123, 34, 117, 114, 105, 34, 58, 34, 117, 34, 44, 34, 118, 101, 114, 115, 105, 111, 110, 34, 58, 45, 51, 125, 44, 34, 99, 111, 110, 116, 101, 110, 116, 67, 104, 97, 110, 103, 101, 115, 34, 58, 91, 123, 34, 116, 101, 120, 116, 34, 58, 34, 120, 34, 125, 44, 123, 34, 114, 97, 110, 103, 101, 34, 58, 123, 34, 115, 116, 97, 114, 116, 34, 58, 123, 34, 108, 105, 110, 101, 34, 58, 48, 44, 34, 99, 104, 97, 114, 97, 99, 116, 101, 114, 34, 58, 49, 125, 44, 34, 101, 110, 100, 34, 58, 123, 34, 108, 105, 110, 101, 34, 58, 50, 44, 34, 99, 104, 97, 114, 97, 99, 116, 101, 114, 34, 58, 51, 125, 125, 44, 34, 116, 101, 120, 116, 34, 58, 34, 34, 125, 93, 125]⟩] V fun e w' => ∃ kp kc ip ic, e = .returned (.agg #[.int .i64 6, .string ⟨#[]⟩, .slice kp 2 kc, .slice ip 2 ic]) ∧ KI w' lkVA4 kp kc ip ic ∧ Below V.heap.size V w') := Lib.hid fun V hV =>
    (of64 (T := lkTA4) (hE V hV).tabs (Nat.le_of_ble_eq_true rfl) lkPA4 rfl).mono fun _ _ ⟨kp, kc, ip, ic, a, b, _, c⟩ => ⟨kp, kc, ip, ic, a, b.ki, c⟩
  have HN1 : Hid (∀ V, Below w.heap.size w V → Calls Tryz.prog 65 #[.string ⟨#[36, 47, 99, 97, 110, 99, 101, 108, 82, 101, 113, 117, 101, 115, 116]⟩, .string ⟨#[123, 34, 105, 100, 34, 58, 49, 46, 53, 125]⟩] V fun e w' => e = .returned (.bool true) ∧ Below V.heap.size V w') := Lib.hid fun V hV =>
    no65 (T := lkTN1) (fun V' hV' => hE V' (Below.on hV hV')) [36, 47, 99, 97, 110, 99, 101, 108, 82, 101, 113, 117, 101, 115, 116] rfl (Nat.le_of_ble_eq_true rfl) lkPN1 lkNN1.1 lkNN1.2.1 lkNN1.2.2
  have HN2 : Hid (∀ V, Below w.heap.size w V → Calls Tryz.prog 65 #[.string ⟨#[105, 110, 105, 116, 105, 97, 108, 105, 122, 101, 100]⟩, .string ⟨#[123, 125]⟩] V fun e w' => e = .returned (.bool true) ∧ Below V.heap.size V w') := Lib.hid fun V hV =>
    no65 (T := lkTN2) (fun V' hV' => hE V' (Below.on hV hV')) [105, 110, 105, 116, 105, 97, 108, 105, 122, 101, 100] rfl (Nat.le_of_ble_eq_true rfl) lkPN2 lkNN2.1 lkNN2.2.1 lkNN2.2.2
  have HN3 : Hid (∀ V, Below w.heap.size w V → Calls Tryz.prog 65 #[.string ⟨#[36, 47, 99, 97, 110, 99, 101, 108, 82, 101, 113, 117, 101, 115, 116]⟩, .string ⟨#[91, 93]⟩] V fun e w' => e = .returned (.bool true) ∧ Below V.heap.size V w') := Lib.hid fun V hV =>
    no65 (T := lkTN3) (fun V' hV' => hE V' (Below.on hV hV')) [36, 47, 99, 97, 110, 99, 101, 108, 82, 101, 113, 117, 101, 115, 116] rfl (Nat.le_of_ble_eq_true rfl) lkPN3 lkNN3.1 lkNN3.2.1 lkNN3.2.2
  have HN7 : Hid (∀ V, Below w.heap.size w V → Calls Tryz.prog 65 #[.string ⟨#[116, 101, 120, 116, 68, 111, 99, 117, 109, 101, 110, 116, 47, 114, 101, 110, 97, 109, 101]⟩, .string ⟨#[123, 34, 116, 101, 120, 116, 68, 111, 99, 117, 109, 101, 110, 116, 34, 58, 123, 34, 117, 114, 105, 34, 58, 34, 117, 34, 125, 44, 34, 112, 111, 115, 105, 116, 105, 111, 110, 34, 58, 123, 34, 99, 104, 97, 114, 97, 99, 116, 101, 114, 34, 58, 50, 44, 34, 108, 105, 110, 101, 34, 58, 48, 125, 125]⟩] V fun e w' => e = .returned (.bool true) ∧ Below V.heap.size V w') := Lib.hid fun V hV =>
    no65 (T := lkTN7) (fun V' hV' => hE V' (Below.on hV hV')) [116, 101, 120, 116, 68, 111, 99, 117, 109, 101, 110, 116, 47, 114, 101, 110, 97, 109, 101] rfl (Nat.le_of_ble_eq_true rfl) lkPN7 lkNN7.1 lkNN7.2.1 lkNN7.2.2
  have HN8 : Hid (∀ V, Below w.heap.size w V → Calls Tryz.prog 65 #[.string ⟨#[116, 101, 120, 116, 68, 111, 99, 117, 109, 101, 110, 116, 47, 100, 105, 100, 67, 104, 97, 110, 103, 101]⟩, .string ⟨#[123, 34, 116, 101, 120, 116, 68, 111, 99, 117, 109, 101, 110, 116, 34, 58, 123, 34, 117, 114, 105, 34, 58, 34, 117, 34, 44, 34, 118, 101, 114, 115, 105, 111, 110, 34, 58, 49, 125, 44, 34, 99, 111, 110, 116, 101, 110, 116, 67, 104, 97, 110, 103, 101, 115, 34, 58, 91, 123, 34, 114, 97, 110, 103, 101, 34, 58, 110, 117, 108, 108, 44, 34, 116, 101, 120, 116, 34, 58, 34, 34, 125, 93, 125]⟩] V fun e w' => e = .returned (.bool true) ∧ Below V.heap.size V w') := Lib.hid fun V hV =>
    no65 (T := lkTN8) (fun V' hV' => hE V' (Below.on hV hV')) [116, 101, 120, 116, 68, 111, 99, 117, 109, 101, 110, 116, 47, 100, 105, 100, 67, 104, 97, 110, 103, 101] rfl (Nat.le_of_ble_eq_true rfl) lkPN8 lkNN8.1 lkNN8.2.1 lkNN8.2.2
  obtain ⟨H, hH⟩ : ∃ H : ByteArray, lkH = H := ⟨_, rfl⟩
  have H64A3 : Hid (∀ V, Below w.heap.size w V → Calls Tryz.prog 64 #[.string (H ++ ⟨#[50, 49, 52, 55, 52, 56, 51, 54, 52, 55, 125, 125]⟩)] V fun e w' => ∃ kp kc ip ic, e = .returned (.agg #[.int .i64 6, .string ⟨#[]⟩, .slice kp 3 kc, .slice ip 3 ic]) ∧ KI w' lkVA3 kp kc ip ic ∧ Below V.heap.size V w') := Lib.hid fun V hV => by
    rw [← hH]
    exact   (of64 (T := lkTA3) (hE V hV).tabs lkSA3 lkPA3 rfl).mono fun _ _ ⟨kp, kc, ip, ic, a, b, _, c⟩ => ⟨kp, kc, ip, ic, a, b.ki, c⟩
  have HN4 : Hid (∀ V, Below w.heap.size w V → Calls Tryz.prog 65 #[.string ⟨#[116, 101, 120, 116, 68, 111, 99, 117, 109, 101, 110, 116, 47, 114, 101, 110, 97, 109, 101]⟩, .string (H ++ ⟨#[45, 49, 125, 125]⟩)] V fun e w' => e = .returned (.bool true) ∧ Below V.heap.size V w') := Lib.hid fun V hV => by
    rw [← hH]
    exact   no65 (T := lkTN4) (fun V' hV' => hE V' (Below.on hV hV')) [116, 101, 120, 116, 68, 111, 99, 117, 109, 101, 110, 116, 47, 114, 101, 110, 97, 109, 101] rfl lkSN4 lkPN4 lkNN4.1 lkNN4.2.1 lkNN4.2.2
  have HN5 : Hid (∀ V, Below w.heap.size w V → Calls Tryz.prog 65 #[.string ⟨#[116, 101, 120, 116, 68, 111, 99, 117, 109, 101, 110, 116, 47, 114, 101, 110, 97, 109, 101]⟩, .string (H ++ ⟨#[49, 46, 48, 125, 125]⟩)] V fun e w' => e = .returned (.bool true) ∧ Below V.heap.size V w') := Lib.hid fun V hV => by
    rw [← hH]
    exact   no65 (T := lkTN5) (fun V' hV' => hE V' (Below.on hV hV')) [116, 101, 120, 116, 68, 111, 99, 117, 109, 101, 110, 116, 47, 114, 101, 110, 97, 109, 101] rfl lkSN5 lkPN5 lkNN5.1 lkNN5.2.1 lkNN5.2.2
  have HN6 : Hid (∀ V, Below w.heap.size w V → Calls Tryz.prog 65 #[.string ⟨#[116, 101, 120, 116, 68, 111, 99, 117, 109, 101, 110, 116, 47, 114, 101, 110, 97, 109, 101]⟩, .string (H ++ ⟨#[50, 49, 52, 55, 52, 56, 51, 54, 52, 56, 125, 125]⟩)] V fun e w' => e = .returned (.bool true) ∧ Below V.heap.size V w') := Lib.hid fun V hV => by
    rw [← hH]
    exact   no65 (T := lkTN6) (fun V' hV' => hE V' (Below.on hV hV')) [116, 101, 120, 116, 68, 111, 99, 117, 109, 101, 110, 116, 47, 114, 101, 110, 97, 109, 101] rfl lkSN6 lkPN6 lkNN6.1 lkNN6.2.1 lkNN6.2.2
  have H17a : Hid (∀ V, Below w.heap.size w V → ∀ kp kc ip ic, KI V lkVA1 kp kc ip ic → Calls Tryz.prog 17 #[.string ⟨#[36, 47, 99, 97, 110, 99, 101, 108, 82, 101, 113, 117, 101, 115, 116]⟩, .agg #[.int .i64 6, .string ⟨#[]⟩, .slice kp 1 kc, .slice ip 1 ic]] V fun e w' => ∃ p1 c1, e = .returned (.tuple #[.agg #[.int .i64 4, .string ⟨#[]⟩, .string ⟨#[]⟩, .int .i64 0, .slice p1 0 c1, .string ⟨#[34, 97, 34]⟩], .bool true]) ∧ Below V.heap.size V w') := Lib.hid fun V hV kp kc ip ic hk => by
    refine (note_any (fun V' hV' => hE V' (Below.on hV hV')) hk lkW.1 rfl mCancel _ rfl _ _ lkO1).mono ?_
    rintro e w' ⟨_, rfl, ⟨p, c, rfl, _⟩, hb⟩
    exact ⟨p, c, rfl, hb⟩
  have H17b : Hid (∀ V, Below w.heap.size w V → ∀ kp kc ip ic, KI V lkVA2 kp kc ip ic → Calls Tryz.prog 17 #[.string ⟨#[116, 101, 120, 116, 68, 111, 99, 117, 109, 101, 110, 116, 47, 100, 105, 100, 67, 108, 111, 115, 101]⟩, .agg #[.int .i64 6, .string ⟨#[]⟩, .slice kp 2 kc, .slice ip 2 ic]] V fun e w' => ∃ p2 c2, e = .returned (.tuple #[.agg #[.int .i64 3, .string ⟨#[117]⟩, .string ⟨#[]⟩, .int .i64 0, .slice p2 0 c2, .string ⟨#[]⟩], .bool true]) ∧ Below V.heap.size V w') := Lib.hid fun V hV kp kc ip ic hk => by
    refine (note_any (fun V' hV' => hE V' (Below.on hV hV')) hk lkW.2.1 rfl mClose _ rfl _ _ lkO2).mono ?_
    rintro e w' ⟨_, rfl, ⟨p, c, rfl, _⟩, hb⟩
    exact ⟨p, c, rfl, hb⟩
  have H17c : Hid (∀ V, Below w.heap.size w V → ∀ kp kc ip ic, KI V lkVA4 kp kc ip ic → Calls Tryz.prog 17 #[.string ⟨#[116, 101, 120, 116, 68, 111, 99, 117, 109, 101, 110, 116, 47, 100, 105, 100, 67, 104, 97, 110, 103, 101]⟩, .agg #[.int .i64 6, .string ⟨#[]⟩, .slice kp 2 kc, .slice ip 2 ic]] V fun e w' => ∃ g4 c4, e = .returned (.tuple #[.agg #[.int .i64 2, .string ⟨#[117]⟩, .string ⟨#[]⟩, .int .i64 (-3), .slice (some ⟨g4, 0, none⟩) 2 c4, .string ⟨#[]⟩], .bool true]) ∧ w'.ownsRow V.heap.size 117 6 (.slice (some ⟨g4, 0, none⟩) 2 c4) 2 (chC lkC) ∧ Below V.heap.size V w') := Lib.hid fun V hV kp kc ip ic hk => by
    refine (note_any (fun V' hV' => hE V' (Below.on hV hV')) hk lkW.2.2.2 rfl mChange _ rfl _ _ lkO4).mono ?_
    rintro e w' ⟨_, rfl, ⟨p, c, rfl, hr⟩, hb⟩
    have hr0 := hr
    obtain ⟨_, h1⟩ := hr
    rcases h1 with ⟨_, hz⟩ | ⟨g, cap, cur, hv, _, hg, _⟩
    · cases hz
    · injection hv with hv1 hv2 hv3
      subst hv1
      exact ⟨g, c, rfl, hr0, hb⟩
  have H19 : Hid (∀ V, Below w.heap.size w V → ∀ kp kc ip ic, KI V lkVA3 kp kc ip ic → Calls Tryz.prog 19 #[.string ⟨#[116, 101, 120, 116, 68, 111, 99, 117, 109, 101, 110, 116, 47, 114, 101, 110, 97, 109, 101]⟩, .agg #[.int .i64 6, .string ⟨#[]⟩, .slice kp 3 kc, .slice ip 3 ic]] V fun e w' => e = .returned (.tuple #[.agg #[.int .i64 2, .string ⟨#[117]⟩, .int .i64 2147483647, .int .i64 2, .int .i64 2147483647, .int .i64 2, .string ⟨#[110]⟩], .bool true]) ∧ Below V.heap.size V w') := Lib.hid fun V hV kp kc ip ic hk =>
    ask_any (hE V hV).rng hk lkW.2.2.1 rfl mRen _ rfl _ _ lkQ3 _ _ rfl rfl
  have H15 : Hid (∀ V, Below w.heap.size w V → Calls Tryz.prog 15 #[] V fun e w' => e = .returned (.bool true) ∧ Below V.heap.size V w') := Lib.hid fun V hV => awake15 (fun V' hV' => hE V' (Below.on hV hV'))
  have hHs : H.size ≤ 1000 := by rw [← hH]; exact Nat.le_of_ble_eq_true rfl
  have HE := Lib.hid hE
  have h64 := H64A1.out w (Below.refl _ _)
  have HH := Lib.hid hH
  clear hE hH
  go_enter Tryz.func13, Tryz.ntmps13
  go_upto_region 3 with (first
    | (with_reducible (show Calls _ _ _ w _); go_at_call 64; refine h64.mono ?_; rintro e w1 ⟨kp, kc, ip, ic, rfl, hk, hb1⟩
       have h17 := H17a.out w1 hb1 kp kc ip ic hk
       clear hk)
    | (with_reducible (show Calls _ _ _ w1 _); go_at_call 17; refine h17.mono ?_; rintro e w2 ⟨p1, c1, rfl, hb2⟩
       obtain ⟨V1, hV1⟩ : ∃ V, w2.alloc (.cells #[.int .i64 4, .string ⟨#[]⟩, .string ⟨#[]⟩, .int .i64 0, .slice p1 0 c1, .string ⟨#[34, 97, 34]⟩] 31) = V := ⟨_, rfl⟩
       have b1 := Below.on (Below.on hb1 hb2) (alloc_b hV1)
       have HX1 := Lib.hid (row_at hV1)
       have h64 := H64A2.out V1 b1)
    | (with_reducible (show Calls _ _ _ V1 _); go_at_call 64; refine h64.mono ?_; rintro e w3 ⟨kp, kc, ip, ic, rfl, hk, hb3⟩
       have b3 := Below.on b1 hb3
       have h17 := H17b.out w3 b3 kp kc ip ic hk
       clear hk)
    | (with_reducible (show Calls _ _ _ w3 _); go_at_call 17; refine h17.mono ?_; rintro e w4 ⟨p2, c2, rfl, hb4⟩))
  obtain ⟨V2, hV2⟩ : ∃ V, w4.alloc (.cells #[.int .i64 3, .string ⟨#[117]⟩, .string ⟨#[]⟩, .int .i64 0, .slice p2 0 c2, .string ⟨#[]⟩] 31) = V := ⟨_, rfl⟩
  rw [hV2]
  have b42 := alloc_b hV2
  have b12 := Below.on hb3 (Below.on hb4 b42)
  have b2 := Below.on b1 b12
  obtain ⟨_, _, _, _, _, x5⟩ := cells6 ((b12.block _ (ltS HX1.out)).trans HX1.out)
  obtain ⟨y0, y1, _, _, _, _⟩ := cells6 (row_at hV2)
  have h65 := HN1.out V2 b2
  clear h64 h17 H64A1 H64A2 H17a H17b HX1
  go_upto_region 6 with (first
    | (with_reducible (show Calls _ _ _ V2 _); go_at_call 65; refine h65.mono ?_; rintro e n1 ⟨rfl, hn1⟩; have b3 := Below.on b2 hn1; have h65 := HN2.out n1 b3)
    | (with_reducible (show Calls _ _ _ n1 _); go_at_call 65; refine h65.mono ?_; rintro e n2 ⟨rfl, hn2⟩; have b4 := Below.on b3 hn2; have h65 := HN3.out n2 b4)
    | (with_reducible (show Calls _ _ _ n2 _); go_at_call 65; refine h65.mono ?_; rintro e n3 ⟨rfl, hn3⟩; have b5 := Below.on b4 hn3; have h65 := HN4.out n3 b5))
  have hHl : (⟨([123, 34, 116, 101, 120, 116, 68, 111, 99, 117, 109, 101, 110, 116, 34, 58, 123, 34, 117, 114, 105, 34, 58, 34, 117, 34, 125, 44, 34, 110, 101, 119, 78, 97, 109, 101, 34].append [58, 34, 110, 34, 44, 34, 112, 111, 115, 105, 116, 105, 111, 110, 34, 58, 123, 34, 99, 104, 97, 114, 97, 99, 116, 101, 114, 34, 58, 50, 44, 34, 108, 105, 110, 101, 34, 58]).toArray⟩ : ByteArray) = H := HH.out
  rw [hHl]
  clear x5 y0 y1 hHl
  go_upto_region 9 with (first
    | (with_reducible (show Calls _ _ _ n3 _); go_at_call 65; refine h65.mono ?_; rintro e n4 ⟨rfl, hn4⟩; have b6 := Below.on b5 hn4; have h65 := HN5.out n4 b6)
    | (with_reducible (show Calls _ _ _ n4 _); go_at_call 65; refine h65.mono ?_; rintro e n5 ⟨rfl, hn5⟩; have b7 := Below.on b6 hn5; have h65 := HN6.out n5 b7)
    | (with_reducible (show Calls _ _ _ n5 _); go_at_call 65; refine h65.mono ?_; rintro e n6 ⟨rfl, hn6⟩; have b8 := Below.on b7 hn6; have h65 := HN7.out n6 b8)
    | (with_reducible (show Calls _ _ _ n6 _); go_at_call 65; refine h65.mono ?_; rintro e n7 ⟨rfl, hn7⟩; have b9 := Below.on b8 hn7; have h64 := H64A3.out n7 b9)
    | (with_reducible (show Calls _ _ _ n7 _); go_at_call 64; refine h64.mono ?_; rintro e w5 ⟨kp, kc, ip, ic, rfl, hk, hb5⟩
       have b10 := Below.on b9 hb5
       have h19 := H19.out w5 b10 kp kc ip ic hk
       clear hk)
    | (go_at_call 19; refine h19.mono ?_; rintro e w6 ⟨rfl, hb6⟩))
  obtain ⟨V3, hV3⟩ : ∃ V, w6.alloc (.cells #[.int .i64 2, .string ⟨#[117]⟩, .int .i64 2147483647, .int .i64 2, .int .i64 2147483647, .int .i64 2, .string ⟨#[110]⟩] 42) = V := ⟨_, rfl⟩
  rw [hV3]
  have b11 := Below.on b10 (Below.on hb6 (alloc_b hV3))
  have HX3 := Lib.hid (row_at hV3)
  have h64 := H64A4.out V3 b11
  go_upto_region 10 with (first
    | (with_reducible (show Calls _ _ _ V3 _); go_at_call 64; refine h64.mono ?_; rintro e w7 ⟨kp, kc, ip, ic, rfl, hk, hb7⟩
       have b12 := Below.on b11 hb7
       have h17 := H17c.out w7 b12 kp kc ip ic hk
       clear hk)
    | (go_at_call 17; refine h17.mono ?_; rintro e w8 ⟨g4, c4, rfl, hrow, hb8⟩))
  obtain ⟨V4, hV4⟩ : ∃ V, w8.alloc (.cells #[.int .i64 2, .string ⟨#[117]⟩, .string ⟨#[]⟩, .int .i64 (-3), .slice (some ⟨g4, 0, none⟩) 2 c4, .string ⟨#[]⟩] 31) = V := ⟨_, rfl⟩
  rw [hV4]
  have bv4 := alloc_b hV4
  have b13 := Below.on b12 (Below.on hb8 bv4)
  have hx3 := ((Below.on hb7 (Below.on hb8 bv4)).block _ (ltS HX3.out)).trans HX3.out
  obtain ⟨q0, q1, q2, q3, q4, q5, q6⟩ := cells7 hx3
  obtain ⟨_, _, _, y3, y4, _⟩ := cells6 (row_at hV4)
  have hrow4 := own_below hrow bv4
  have k0 := chs_cells hrow4 0 (.bool true) rfl
  have k5 := chs_cells hrow4 5 (.string ⟨#[120]⟩) rfl
  have k6 := chs_cells hrow4 6 (.bool false) rfl
  have k7 := chs_cells hrow4 7 (.int .i64 0) rfl
  have k8 := chs_cells hrow4 8 (.int .i64 1) rfl
  have k9 := chs_cells hrow4 9 (.int .i64 2) rfl
  have k10 := chs_cells hrow4 10 (.int .i64 3) rfl
  have h65 := HN8.out V4 b13
  clear hrow hrow4 hx3 q0 q1 q3 q4 q5 q6 h64 h17 h19
  go_upto_region 12 with (first
    | (go_at_call 65; refine h65.mono ?_; rintro e n8 ⟨rfl, hn8⟩))
  have b14 := Below.on b13 hn8
  obtain ⟨V5, hV5⟩ : ∃ V, n8.alloc (.cells #[.string ⟨#[117]⟩, .string ⟨#[97, 10, 98]⟩, .int .i64 4] 93) = V := ⟨_, rfl⟩
  have bv5 := alloc_b hV5
  have b15 := Below.on b14 bv5
  have HD := Lib.hid (row_at hV5)
  have HDL : Hid (lkD.size ≤ 1000000) := Lib.hid (Nat.le_of_ble_eq_true rfl)
  obtain ⟨G, hG⟩ : ∃ X : ByteArray, lkG = X := ⟨_, rfl⟩
  obtain ⟨NU, hNU⟩ : ∃ X : ByteArray, (⟨#[110, 117, 108, 108]⟩ : ByteArray) = X := ⟨_, rfl⟩
  obtain ⟨AI, hAI⟩ : ∃ X : ByteArray, lkI = X := ⟨_, rfl⟩
  obtain ⟨HL, hHL⟩ : ∃ X : ByteArray, lkHello = X := ⟨_, rfl⟩
  have HGL : Hid (G.toList = [123, 34, 114, 97, 110, 103, 101, 34, 58, 123, 34, 115, 116, 97, 114, 116, 34, 58, 123, 34, 108, 105, 110, 101, 34, 58, 49, 44, 34, 99, 104, 97, 114, 97, 99, 116, 101, 114, 34, 58, 48, 125, 44, 34, 101, 110, 100, 34, 58, 123, 34, 108, 105, 110, 101, 34, 58, 49, 44, 34, 99, 104, 97, 114, 97, 99, 116, 101, 114, 34, 58, 49, 125, 125, 44, 34, 112, 108, 97, 99, 101, 104, 111, 108, 100, 101, 114, 34, 58, 34, 98, 34, 125]) := Lib.hid (by rw [← hG, ByteArray.toList_eq] <;> rfl)
  have HNL : Hid (NU.toList = [110, 117, 108, 108]) := Lib.hid (by rw [← hNU, ByteArray.toList_eq] <;> rfl)
  have HAL : Hid (AI.toList = [91, 123, 34, 116, 105, 116, 108, 101, 34, 58, 34, 105, 110, 108, 105, 110, 101, 34, 44, 34, 107, 105, 110, 100, 34, 58, 34, 114, 101, 102, 97, 99, 116, 111, 114, 46, 105, 110, 108, 105, 110, 101, 34, 44, 34, 101, 100, 105, 116, 34, 58, 123, 34, 100, 111, 99, 117, 109, 101, 110, 116, 67, 104, 97, 110, 103, 101, 115, 34, 58, 91, 123, 34, 116, 101, 120, 116, 68, 111, 99, 117, 109, 101, 110, 116, 34, 58, 123, 34, 117, 114, 105, 34, 58, 34, 117, 34, 44, 34, 118, 101, 114, 115, 105, 111, 110, 34, 58, 52, 125, 44, 34, 101, 100, 105, 116, 115, 34, 58, 91, 123, 34, 114, 97, 110, 103, 101, 34, 58, 123, 34, 115, 116, 97, 114, 116, 34, 58, 123, 34, 108, 105, 110, 101, 34, 58, 48, 44, 34, 99, 104, 97, 114, 97, 99, 116, 101, 114, 34, 58, 48, 125, 44, 34, 101, 110, 100, 34, 58, 123, 34, 108, 105, 110, 101, 34, 58, 48, 44, 34, 99, 104, 97, 114, 97, 99, 116, 101, 114, 34, 58, 49, 125, 125, 44, 34, 110, 101, 119, 84, 101, 120, 116, 34, 58, 34, 122, 34, 125, 93, 125, 93, 125, 125, 93]) := Lib.hid (by rw [← hAI, ByteArray.toList_eq] <;> rfl)
  have HHL : Hid (HL.toList = [123, 34, 99, 97, 112, 97, 98, 105, 108, 105, 116, 105, 101, 115, 34, 58, 123, 34, 112, 111, 115, 105, 116, 105, 111, 110, 69, 110, 99, 111, 100, 105, 110, 103, 34, 58, 34, 117, 116, 102, 45, 49, 54, 34, 44, 34, 116, 101, 120, 116, 68, 111, 99, 117, 109, 101, 110, 116, 83, 121, 110, 99, 34, 58, 123, 34, 111, 112, 101, 110, 67, 108, 111, 115, 101, 34, 58, 116, 114, 117, 101, 44, 34, 99, 104, 97, 110, 103, 101, 34, 58, 50, 125, 44, 34, 114, 101, 110, 97, 109, 101, 80, 114, 111, 118, 105, 100, 101, 114, 34, 58, 123, 34, 112, 114, 101, 112, 97, 114, 101, 80, 114, 111, 118, 105, 100, 101, 114, 34, 58, 116, 114, 117, 101, 125, 44, 34, 99, 111, 100, 101, 65, 99, 116, 105, 111, 110, 80, 114, 111, 118, 105, 100, 101, 114, 34, 58, 123, 34, 99, 111, 100, 101, 65, 99, 116, 105, 111, 110, 75, 105, 110, 100, 115, 34, 58, 91, 34, 114, 101, 102, 97, 99, 116, 111, 114, 46, 105, 110, 108, 105, 110, 101, 34, 44, 34, 114, 101, 102, 97, 99, 116, 111, 114, 46, 101, 120, 116, 114, 97, 99, 116, 34, 93, 125, 125, 125]) := Lib.hid (by rw [← hHL, ByteArray.toList_eq] <;> rfl)
  have H66a : Hid (∀ V, Below w.heap.size w V → ∀ kp kc ip ic, KI V (prepJ (1, 0) (1, 1) [98]) kp kc ip ic → Calls Tryz.prog 66 #[.agg #[.int .i64 6, .string ⟨#[]⟩, .slice kp 2 kc, .slice ip 2 ic]] V fun e w' => e = .returned (.string G) ∧ Below V.heap.size V w') := Lib.hid fun V hV kp kc ip ic hk => by rw [← hG]; exact put66 (v := prepJ (1, 0) (1, 1) [98]) (S := ⟨#[]⟩) (X := lkG) (fun V' hV' => HE.out V' (Below.on hV hV')) hk lkPG.2 rfl lkPG.1
  have H66b : Hid (∀ V, Below w.heap.size w V → Calls Tryz.prog 66 #[.agg #[.int .i64 0, .string ⟨#[]⟩, .slice none 0 0, .slice none 0 0]] V fun e w' => e = .returned (.string NU) ∧ Below V.heap.size V w') := Lib.hid fun V hV => by rw [← hNU]; exact put66 (v := jn 0) (S := ⟨#[]⟩) (X := ⟨#[110, 117, 108, 108]⟩) (fun V' hV' => HE.out V' (Below.on hV hV')) (KP.leaf V (fun _ => True) 0 []).ki lkPN.2 rfl lkPN.1
  have H66c : Hid (∀ V, Below w.heap.size w V → ∀ ip ic, KI V lkAct none 0 ip ic → Calls Tryz.prog 66 #[.agg #[.int .i64 5, .string ⟨#[]⟩, .slice none 0 0, .slice ip 1 ic]] V fun e w' => e = .returned (.string AI) ∧ Below V.heap.size V w') := Lib.hid fun V hV ip ic hk => by rw [← hAI]; exact put66 (v := lkAct) (S := ⟨#[]⟩) (X := lkI) (fun V' hV' => HE.out V' (Below.on hV hV')) hk lkPI.2 rfl lkPI.1
  have H66d : Hid (∀ V, Below w.heap.size w V → ∀ kp kc ip ic, KI V helloJ kp kc ip ic → Calls Tryz.prog 66 #[.agg #[.int .i64 6, .string ⟨#[]⟩, .slice kp 1 kc, .slice ip 1 ic]] V fun e w' => e = .returned (.string HL) ∧ Below V.heap.size V w') := Lib.hid fun V hV kp kc ip ic hk => by rw [← hHL]; exact put66 (v := helloJ) (S := ⟨#[]⟩) (X := lkHello) (fun V' hV' => HE.out V' (Below.on hV hV')) hk lkPH.2 rfl lkPH.1
  have h61a := told_prep (w := V5) (U := ⟨#[117]⟩) (T := lkD) (NM := ⟨#[98]⟩) (nm := [98]) (fr := 2) (till := 3) (v := 4) (fun V hV => HE.out V (Below.on b15 hV)) (1, 0) (1, 1) (row_at hV5) ⟨⟨by decide, by decide⟩, ⟨by decide, by decide⟩⟩ ⟨⟨by decide, by decide⟩, ⟨by decide, by decide⟩⟩ (by have := atC_any lkD HDL.out 2 V5; rwa [lkAt.1] at this) (by have := atC_any lkD HDL.out 3 V5; rwa [lkAt.2] at this) rfl (Nat.le_of_ble_eq_true rfl)
  clear hG hNU hAI hHL y3 y4 q2 k0 k5 k6 k7 k8 k9 k10 HX3 h65
  go_upto_region 15 with (first
    | (with_reducible (show Calls _ _ _ V5 _); go_at_call 61; refine h61a.mono ?_; rintro e w9 ⟨kp, kc, ip, ic, rfl, hk, hb9⟩
       have b16 := Below.on b15 hb9
       have h66 := H66a.out w9 b16 kp kc ip ic hk.ki
       clear hk)
    | (with_reducible (show Calls _ _ _ w9 _); go_at_call 66; refine h66.mono ?_; rintro e w10 ⟨rfl, hb10⟩
       have b17 := Below.on b16 hb10
       have h61 := told_none (w := w10) (((Below.on hb9 hb10).block _ (ltS HD.out)).trans HD.out))
    | (with_reducible (show Calls _ _ _ w10 _); go_at_call 61; refine h61.mono ?_; rintro e w11 ⟨rfl, hb11⟩
       have b18 := Below.on b17 hb11
       have h66 := H66b.out w11 b18)
    | (with_reducible (show Calls _ _ _ w11 _); go_at_call 66; refine h66.mono ?_; rintro e w12 ⟨rfl, hb12⟩))
  have b19 := Below.on b18 hb12
  obtain ⟨V6, hV6⟩ : ∃ V, w12.alloc (.cells #[.int .i64 0, .int .i64 1, .string ⟨#[122]⟩] 107) = V := ⟨_, rfl⟩
  obtain ⟨s6, hs6⟩ : ∃ q, w12.heap.size = q := ⟨_, rfl⟩
  obtain ⟨V7, hV7⟩ : ∃ V, V6.alloc (.cells #[.string ⟨#[117]⟩, .int .i64 4, .slice (some ⟨s6, 0, none⟩) 1 1] 95) = V := ⟨_, rfl⟩
  have z6 : V6.heap.size = s6 + 1 := by rw [← hV6, ← hs6]; simp
  obtain ⟨V8, hV8⟩ : ∃ V, V7.alloc (.cells #[.string ⟨#[114, 101, 102, 97, 99, 116, 111, 114, 46, 105, 110, 108, 105, 110, 101]⟩, .slice (some ⟨s6 + 1, 0, none⟩) 1 1] 120) = V := ⟨_, rfl⟩
  have z7 : V7.heap.size = s6 + 2 := by rw [← hV7]; simp; omega
  have bv6 := alloc_b hV6
  have bv7 := alloc_b hV7
  have bv8 := alloc_b hV8
  have b20 := Below.on b19 (Below.on bv6 (Below.on bv7 bv8))
  have r6 := ((Below.on bv7 bv8).block _ (ltS (row_at hV6))).trans (row_at hV6)
  rw [hs6] at r6
  have r7 := (bv8.block _ (ltS (row_at hV7))).trans (row_at hV7)
  rw [z6] at r7
  have r8 := row_at hV8
  rw [z7] at r8
  have rd := ((Below.on (Below.on hb9 (Below.on hb10 (Below.on hb11 hb12))) (Below.on bv6 (Below.on bv7 bv8))).block _ (ltS HD.out)).trans HD.out
  have hspl : SplP V8 (some ⟨s6, 0, none⟩) [⟨0, 1, [122]⟩] := fun i s hs => by
    have hi : i = 0 := by
      have := (List.getElem?_eq_some_iff.1 hs).1
      simpa using this
    subst hi
    obtain rfl : SpV.mk 0 1 [122] = s := by simpa using hs
    refine ⟨_, rfl, ?_⟩
    rw [add0]
    exact ⟨by simp [World.cell?, r6], by simp [World.cell?, r6], by simp [World.cell?, r6], ltS r6⟩
  have h61b := told_act (w := V8) (us := [117]) (ks := [114, 101, 102, 97, 99, 116, 111, 114, 46, 105, 110, 108, 105, 110, 101]) (ts := [105, 110, 108, 105, 110, 101]) (U := ⟨#[117]⟩) (T := lkD) (Kb := ⟨#[114, 101, 102, 97, 99, 116, 111, 114, 46, 105, 110, 108, 105, 110, 101]⟩) (l := [⟨0, 1, [122]⟩]) (fun V hV => HE.out V (Below.on b20 hV)) (atV lkD) rd r7 r8 hspl (Nat.le_of_ble_eq_true rfl) (fun s hs => by
    obtain rfl := List.mem_singleton.1 hs
    exact ⟨⟨atV_in lkD HDL.out _, atV_in lkD HDL.out _⟩, atC_any lkD HDL.out _ V8, atC_any lkD HDL.out _ V8, Nat.le_of_ble_eq_true rfl⟩) (by decide) rfl (Nat.le_of_ble_eq_true rfl) lkCut rfl (Nat.le_of_ble_eq_true rfl) (Nat.le_of_ble_eq_true rfl) ⟨Nat.le_of_ble_eq_true rfl, Nat.le_of_ble_eq_true rfl⟩ lkLast
  clear r6 r7 r8 rd hspl h61a h61 h66 bv6 bv7 bv8
  go_upto_region 19 with (first
    | (with_reducible (show Calls _ _ _ V8 _); go_at_call 61; refine h61b.mono ?_; rintro e w13 ⟨ip, ic, rfl, hk, hb13⟩
       have b21 := Below.on b20 hb13
       have h66 := H66c.out w13 b21 ip ic hk.ki
       clear hk)
    | (with_reducible (show Calls _ _ _ w13 _); go_at_call 66; refine h66.mono ?_; rintro e w14 ⟨rfl, hb14⟩))
  have b22 := Below.on b21 hb14
  have gl := HGL.out
  have nl := HNL.out
  have al := HAL.out
  have hl := HHL.out
  have h67 := hello67 (w := w14) (fun V hV => HE.out V (Below.on b22 hV))
  go_wp2_with (first
    | (go_at_call 67; refine h67.mono ?_; rintro e w15 ⟨kp, kc, ip, ic, rfl, hk, hb15⟩
       have b23 := Below.on b22 hb15
       have h66 := H66d.out w15 b23 kp kc ip ic hk.ki
       clear hk)
    | (with_reducible (show Calls _ _ _ w15 _); go_at_call 66; refine h66.mono ?_; rintro e w16 ⟨rfl, hb16⟩
       have b24 := Below.on b23 hb16
       have h15 := H15.out w16 b24)
    | (go_at_call 15; refine h15.mono ?_; rintro e w17 ⟨rfl, hb17⟩))
  go_ret
  exact ⟨rfl, Below.on b24 hb17⟩
end Go.Proofs.Ls
