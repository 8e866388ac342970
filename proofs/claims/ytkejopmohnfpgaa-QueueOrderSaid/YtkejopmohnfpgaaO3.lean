/- QueueOrder's walk. -/
import Derived.Test.YtkejopmohnfpgaaO2
import Derived.Test.YtkejopmohnfpgaaL2
import Derived.Deep.DeepCutAuto
namespace Go.Proofs.Ytkejopmohnfpgaa
open Go.RowKit Go.Maps Go.Proofs

theorem one_string (s : ByteArray) : ∀ u ∈ [Value.string s], u.oneCell' = true := by intro u hu; simp at hu; subst hu; rfl
theorem QQ.ids {B : Nat} {w : World} {qb : Nat} {lv : Value} {m n : Nat} {c : Bool} {line : List ByteArray} (h : QQ B w qb lv m n c line) : ∀ x ∈ line, x.size ≤ maxLen := by
  obtain ⟨mb, s, h1, _, _, _, h5, _⟩ := h
  intro x hx
  rw [← h5] at hx
  obtain ⟨j, hj, e⟩ := List.mem_map.1 hx
  rw [← e]
  exact h1.ids j (List.mem_filter.1 hj).1
theorem Inv.heap {B : Nat} {w w' : World} {qb : Nat} {lv vp vq : Value} {m n : Nat} {c : Bool} {line p q : List ByteArray} (h : Inv B w qb lv vp vq m n c line p q) (e : w'.heap = w.heap) : Inv B w' qb lv vp vq m n c line p q :=
  h.step (h.qq.stands (by rw [e]; exact Nat.le_refl _) (fun k o e1 _ => by rw [e]; exact e1)) (Nine.of (fun k o e1 _ => by rw [e]; exact e1) (by rw [e]; exact Nat.le_refl _)) (.inl rfl)
set_option maxHeartbeats 4000000 in
set_option maxRecDepth 100000 in
theorem order_walk (w : World) (r : Nat) (hr : r ≤ 255) (pi : Option Addr) (ni ci : Nat) (pd : Option Addr) (nd cd : Nat) (_hni : ni ≤ maxLen) (hnd : nd ≤ maxLen)
    (hI : ∀ i, i < ni → ∃ (a : Addr) (s : ByteArray), pi = some a ∧ w.cell? (a.add i) = some (.string s) ∧ s.size ≤ maxLen ∧ a.block < w.heap.size)
    (hD : ∀ i, i < nd → ∃ (a : Addr) (z : Int), pd = some a ∧ w.cell? (a.add i) = some (.int .u8 z) ∧ 0 ≤ z ∧ z ≤ 255 ∧ a.block < w.heap.size) :
    Calls Try.prog 4 #[.int .u8 r, .slice pi ni ci, .slice pd nd cd] w fun e w' => e = .returned (.bool true) ∧ Below w.heap.size w w' := by
  have hm1 : 1 ≤ 1 + r % 64 := by omega
  have hm2 : 1 + r % 64 ≤ 64 := by omega
  have hnn := new_q w (1 + r % 64) hm1 hm2
  have hcast : ((1 + r % 64 : Nat) : Int) = 1 + (r : Int) % 64 := by omega
  rw [hcast] at hnn
  obtain ⟨m, hm⟩ : ∃ m, m = 1 + r % 64 := ⟨_, rfl⟩
  rw [← hm] at hnn hm1 hm2
  have HM : Hid ((1 + (r : Int) % 64) = m) := Lib.hid (by omega)
  clear hcast hm
  obtain ⟨i0, hi, hz0, hz1, hz2⟩ := info_parts info9
  go_enter Try.func4, Try.ntmps4
  go_wp2_with (first
    | (go_at_call 7; refine hnn.mono ?_; rintro e w1 ⟨qb, mb, rfl, d1, H1⟩))
  have I1 : Inv w.heap.size w1 qb (.slice none 0 0) (.slice none 0 0) (.slice none 0 0) m 0 false [] [] [] :=
    ⟨⟨mb, _, H1, rfl, Nat.le_refl _, rfl, rfl, fun j hj => by cases hj⟩, ⟨World.ownsRow_nil _ _ _ _, fun k hk => by cases hk⟩, ⟨World.ownsRow_nil _ _ _ _, fun k hk => by cases hk⟩, fun k hk => by cases hk⟩
  go_loopw [8, 9, 10] (fun vp vq i wr => ∃ (k : Nat) (lv : Value) (line p q : List ByteArray), i = .int .i64 k ∧ k ≤ ni ∧ k ≤ 300 ∧ Inv w.heap.size wr qb lv vp vq m k false line p q ∧ p = q ++ line ∧ p.length ≤ k ∧ line.length ≤ m ∧ Below w.heap.size w wr)
    (fun _ _ i _ => 300 - (RowKit.intOf i).toNat)
  case atStart => exact ⟨0, _, [], [], [], rfl, Nat.zero_le _, Nat.zero_le _, I1, rfl, Nat.le_refl _, Nat.zero_le _, d1⟩
  case round =>
    obtain ⟨k, lv, line, p, q, rfl, hk1, hk2, HI, hpq, hpk, hlm, hB⟩ := hrel
    have HPQ := Lib.hid hpq
    clear hpq
    by_cases hkn : (k : Int) < (ni : Int)
    · by_cases hk3 : (k : Int) < 300
      · have e1 : decide ((k : Int) < (ni : Int)) = true := by simpa using hkn
        have e2 : decide ((k : Int) < 300) = true := by simpa using hk3
        obtain ⟨a, s, rfl, hcell, hsz, hab⟩ := hI k (by omega)
        have hc0 : ∀ {wx : World}, Below w.heap.size w wx → wx.cell? (a.add k) = some (.string s) := fun hb => by
          rw [hb.cell (by unfold Addr.add; split <;> exact hab)]; exact hcell
        have c1 := hc0 hB
        go_upto_if 41 with (first
          | (go_at_call 8; refine (push_inv HI (by omega) s hsz k).mono ?_; rintro e w2 ⟨x, lv2, rfl, d2, hcase⟩))
        have hB2 := hB.trans d2
        have hbase := HI.qq.base
        go_cut [8, 9] (fun v8 v9 wx => ∃ (lv' : Value) (line' p' : List ByteArray), Inv w.heap.size wx qb lv' v8 v9 m (k + 1) false line' p' q ∧ p' = q ++ line' ∧ p'.length ≤ k + 1 ∧ line'.length ≤ m ∧ Below w.heap.size w wx)
        case first =>
          have c2 := hc0 hB2
          rcases hcase with ⟨rfl, hlt, HI2⟩ | ⟨hx0, HI2⟩
          · have hnew := cells_at_new w2 [.string s] 9 _ rfl
            have hbase2 := HI2.qq.base
            go_wp2_with (first
              | (at_builtin; refine wpList_append_own_at _ rfl (.tmp 42) (.tmp 47) 33 rfl w.heap.size 9 i0 (.string ⟨#[]⟩) 1 16 Try.underlying33 hi hz0 hz1 hz2 rfl (by decide) _ _ _ rfl (line_keeps HI2.rp.own ((Keeps.refl _ _).alloc _)) ⟨w2.heap.size, 0, none⟩ 1 1 [.string s] rfl rfl hnew (one_string s) (by unfold maxLen; omega) (by omega) (by simp; omega) ?_; intro v' w3 hown3 hgrow3 _ hwh3))
            go_meet
            refine ⟨lv2, line ++ [s], p ++ [s], HI2.appP hown3 hgrow3 hwh3, by rw [HPQ.out, List.append_assoc], by simp; omega, by simp; omega, ?_⟩
            exact below_grown (hB2.alloc hbase2 _) (line_keeps HI2.rp.own ((Keeps.refl _ _).alloc _)) hgrow3 (by simp; omega)
          · go_wp2
            go_meet
            exact ⟨lv2, line, p, HI2, HPQ.out, by omega, hlm, hB2⟩
        case rest =>
          obtain ⟨lv3, line3, p3, HI3, hpq3, hpk3, hlm3, hB3⟩ := hcut
          have HPQ3 := Lib.hid hpq3
          clear hpq3 HPQ hcase
          by_cases hz : nd = 0
          · subst hz
            go_wp2
            refine ⟨⟨k + 1, lv3, line3, p3, q, by go_num, by omega, by omega, HI3, HPQ3.out, hpk3, hlm3, hB3⟩, ?_⟩
            simp [RowKit.intOf]; omega
          · obtain ⟨b, z, rfl, hcd, hz1', hz2', hbb⟩ := hD (k % nd) (Nat.mod_lt _ (by omega))
            have hd0 : ∀ {wx : World}, Below w.heap.size w wx → wx.cell? (b.add (k % nd : Nat)) = some (.int .u8 z) := fun hb => by
              rw [hb.cell (by unfold Addr.add; split <;> exact hbb)]; exact hcd
            have e3 : ((nd : Int) == 0) = false := by simp; omega
            have e4 : ((k : Int)).tmod nd = ((k % nd : Nat) : Int) := by rw [Int.tmod_eq_emod_of_nonneg (by omega)]; omega
            have c3 := hd0 hB3
            have hlt4 : k % nd < nd := Nat.mod_lt _ (by omega)
            go_upto_if 61 with (fail)
            go_cut [8, 9] (fun v8 v9 wx => Inv w.heap.size wx qb lv3 v8 v9 m (k + 1) false line3 p3 q ∧ Below w.heap.size w wx)
            case first =>
              have c4 := hc0 hB3
              go_wp2_with (first
                | (go_at_call 9; refine (cancel_inv HI3 s hsz).mono ?_; rintro e w4 ⟨x4, rfl, d4, HI4⟩))
              all_goals go_meet
              all_goals first | exact ⟨HI4, hB3.trans d4⟩ | exact ⟨HI3, hB3⟩
            case rest =>
              obtain ⟨HI5, hB5⟩ := hcut
              clear HI3 hB3 c3
              go_upto_if 70 with (fail)
              go_cut [8, 9] (fun v8 v9 wx => ∃ lv6 line6 q6, Inv w.heap.size wx qb lv6 v8 v9 m (k + 1) false line6 p3 q6 ∧ p3 = q6 ++ line6 ∧ line6.length ≤ m ∧ Below w.heap.size w wx)
              case first =>
                rcases line3 with _ | ⟨hd, tl⟩
                · go_wp2_with (first
                    | (go_at_call 10; refine (pop_nil HI5).mono ?_; rintro e w6 ⟨x6, rfl, hx6, hw⟩; subst hw))
                  all_goals go_meet
                  all_goals exact ⟨lv3, [], q, HI5, HPQ3.out, Nat.zero_le _, hB5⟩
                · have hhd := HI5.qq.ids hd (List.mem_cons_self ..)
                  have hql : q.length ≤ 1000 := by have := congrArg List.length HPQ3.out; simp at this; omega
                  go_wp2_with (first
                    | (go_at_call 10; refine (pop_cons HI5).mono ?_; rintro e w6 ⟨x6, lv6, rfl, d6, HI6⟩
                       have hbase6 := HI6.qq.base
                       have hnew6 := cells_at_new w6 [.string hd] 9 _ rfl)
                    | (at_builtin; refine wpList_append_own_at _ rfl (.tmp 79) (.tmp 81) 33 rfl w.heap.size 9 i0 (.string ⟨#[]⟩) 1 16 Try.underlying33 hi hz0 hz1 hz2 rfl (by decide) _ _ _ rfl (line_keeps HI6.rq.own ((Keeps.refl _ _).alloc _)) ⟨w6.heap.size, 0, none⟩ 1 1 [.string hd] rfl rfl hnew6 (one_string hd) (by unfold maxLen; omega) (by omega) (by simp; omega) ?_; intro v' w7 hown7 hgrow7 _ hwh7
                       have HI7 := HI6.appQ hown7 hgrow7 hwh7
                       have hB7 := below_grown ((hB5.trans d6).alloc hbase6 _) (line_keeps HI6.rq.own ((Keeps.refl _ _).alloc _)) hgrow7 (by simp; omega))
                    | (go_at_call 11; refine (done_inv HI7 hd hhd).mono ?_; rintro e w8 ⟨x8, y8, rfl, d8, HI8⟩))
                  all_goals go_meet
                  all_goals first
                    | exact ⟨lv6, tl, q ++ [hd], HI8, by rw [HPQ3.out]; simp, by simp at hlm3; omega, hB7.trans d8⟩
                    | exact ⟨lv6, tl, q ++ [hd], HI7, by rw [HPQ3.out]; simp, by simp at hlm3; omega, hB7⟩
                    | exact ⟨lv3, hd :: tl, q, HI5, HPQ3.out, hlm3, hB5⟩
              case rest =>
                obtain ⟨lv6, line6, q6, HI6, hpq6, hlm6, hB6⟩ := hcut
                have hlen := congrArg List.length hpq6
                rw [List.length_append] at hlen
                have HPQ6 := Lib.hid hpq6
                clear hpq6 HI5
                obtain ⟨pp, cp, rfl⟩ := line_shape HI6.rp.own
                obtain ⟨pq, cq, rfl⟩ := line_shape HI6.rq.own
                have ew : RowKit.wrap64 ((p3.length : Int) - (q6.length : Int)) = (line6.length : Int) := by unfold RowKit.wrap64; omega
                have e6 : decide ((1 + (r : Int) % 64) < (line6.length : Int)) = false := by rw [HM.out]; simp; omega
                have HL := Lib.hid hlen
                clear hlen
                go_wp2_with (first
                  | (go_at_call 13; refine (len_inv HI6).mono ?_; rintro e w9 ⟨rfl, hw⟩; subst hw))
                refine ⟨⟨k + 1, lv6, line6, p3, q6, by go_num, by omega, by omega, HI6, HPQ6.out, hpk3, hlm6, hB6⟩, ?_⟩
                simp [RowKit.intOf]; omega
      · have e1 : decide ((k : Int) < (ni : Int)) = true := by simpa using hkn
        have e2 : decide ((k : Int) < 300) = false := by simpa using hk3
        have hpl := congrArg List.length HPQ.out
        rw [List.length_append] at hpl
        have hql : q.length ≤ 300 := by omega
        clear hpl
        obtain ⟨pp, cp, rfl⟩ := line_shape HI.rp.own
        go_wp2_with (first
          | (go_at_call 14; refine (close_inv HI).mono ?_; rintro e w2 ⟨rfl, d2, HI2⟩))
        go_loopw [9, 15] (fun v9 i wr2 => ∃ (k2 : Nat) (lv2 : Value) (line2 q2 : List ByteArray), i = .int .i64 k2 ∧ k2 ≤ 65 ∧ Inv w.heap.size wr2 qb lv2 (.slice pp p.length cp) v9 m k true line2 p q2 ∧ p = q2 ++ line2 ∧ line2.length ≤ 64 - k2 ∧ Below w.heap.size w wr2)
          (fun _ i _ => 65 - (RowKit.intOf i).toNat)
        case atStart => exact ⟨0, lv, line, q, rfl, Nat.zero_le _, HI2, HPQ.out, by omega, hB.trans d2⟩
        case round =>
          obtain ⟨k2, lv2, line2, q2, rfl, hk65, HI3, hpq3, hl3, hB3⟩ := hrel
          have HPQ3 := Lib.hid hpq3
          clear hpq3
          by_cases hk66 : (k2 : Int) < 65
          · rcases line2 with _ | ⟨hd, tl⟩
            · go_wp2_with (first
                | (go_at_call 10; refine (pop_nil HI3).mono ?_; rintro e w6 ⟨x6, rfl, hx6, hw⟩; subst hw))
              refine ⟨⟨k2 + 1, lv2, [], q2, by go_num, by omega, HI3, HPQ3.out, Nat.zero_le _, hB3⟩, ?_⟩
              simp [RowKit.intOf]; omega
            · have hq2 : q2.length ≤ 1000 := by have := congrArg List.length HPQ3.out; simp at this; omega
              go_wp2_with (first
                | (go_at_call 10; refine (pop_cons HI3).mono ?_; rintro e w6 ⟨x6, lv6, rfl, d6, HI6⟩
                   have hbase6 := HI6.qq.base
                   have hnew6 := cells_at_new w6 [.string hd] 9 _ rfl)
                | (at_builtin; refine wpList_append_own_at _ rfl (.tmp 124) (.tmp 126) 33 rfl w.heap.size 9 i0 (.string ⟨#[]⟩) 1 16 Try.underlying33 hi hz0 hz1 hz2 rfl (by decide) _ _ _ rfl (line_keeps HI6.rq.own ((Keeps.refl _ _).alloc _)) ⟨w6.heap.size, 0, none⟩ 1 1 [.string hd] rfl rfl hnew6 (one_string hd) (by unfold maxLen; omega) (by omega) (by simp; omega) ?_; intro v' w7 hown7 hgrow7 _ hwh7
                   have HI7 := HI6.appQ hown7 hgrow7 hwh7
                   have hB7 := below_grown ((hB3.trans d6).alloc hbase6 _) (line_keeps HI6.rq.own ((Keeps.refl _ _).alloc _)) hgrow7 (by simp; omega)))
              simp only [List.length_cons] at hl3
              refine ⟨⟨k2 + 1, lv6, tl, q2 ++ [hd], by go_num, by omega, HI7, by rw [HPQ3.out]; simp, by omega, hB7⟩, ?_⟩
              simp [RowKit.intOf]; omega
          · have hl0 : line2 = [] := List.length_eq_zero_iff.1 (by omega)
            subst hl0
            have hqp : p = q2 := by rw [HPQ3.out, List.append_nil]
            subst hqp
            go_wp2_with (first
              | (go_at_call 15; refine (same_true HI3.rp.own HI3.rq.own (by omega)).mono ?_; rintro e w7 ⟨rfl, hh7, d7⟩
                 have HI7 := HI3.heap hh7)
              | (go_at_call 13; refine (len_inv HI7).mono ?_; rintro e w8 ⟨rfl, hw⟩; subst hw)
              | (go_at_call 12; refine (awake_true w7).mono ?_; rintro e w9 ⟨rfl, d9⟩))
            go_ret
            have hb7 := hB3.trans (d7.mono hB3.size)
            exact ⟨rfl, hb7.trans (d9.mono hb7.size)⟩
    · have e1 : decide ((k : Int) < (ni : Int)) = false := by simpa using hkn
      have hpl := congrArg List.length HPQ.out
      rw [List.length_append] at hpl
      have hql : q.length ≤ 300 := by omega
      clear hpl
      obtain ⟨pp, cp, rfl⟩ := line_shape HI.rp.own
      go_wp2_with (first
        | (go_at_call 14; refine (close_inv HI).mono ?_; rintro e w2 ⟨rfl, d2, HI2⟩))
      go_loopw [9, 15] (fun v9 i wr2 => ∃ (k2 : Nat) (lv2 : Value) (line2 q2 : List ByteArray), i = .int .i64 k2 ∧ k2 ≤ 65 ∧ Inv w.heap.size wr2 qb lv2 (.slice pp p.length cp) v9 m k true line2 p q2 ∧ p = q2 ++ line2 ∧ line2.length ≤ 64 - k2 ∧ Below w.heap.size w wr2)
        (fun _ i _ => 65 - (RowKit.intOf i).toNat)
      case atStart => exact ⟨0, lv, line, q, rfl, Nat.zero_le _, HI2, HPQ.out, by omega, hB.trans d2⟩
      case round =>
        obtain ⟨k2, lv2, line2, q2, rfl, hk65, HI3, hpq3, hl3, hB3⟩ := hrel
        have HPQ3 := Lib.hid hpq3
        clear hpq3
        by_cases hk66 : (k2 : Int) < 65
        · rcases line2 with _ | ⟨hd, tl⟩
          · go_wp2_with (first
              | (go_at_call 10; refine (pop_nil HI3).mono ?_; rintro e w6 ⟨x6, rfl, hx6, hw⟩; subst hw))
            refine ⟨⟨k2 + 1, lv2, [], q2, by go_num, by omega, HI3, HPQ3.out, Nat.zero_le _, hB3⟩, ?_⟩
            simp [RowKit.intOf]; omega
          · have hq2 : q2.length ≤ 1000 := by have := congrArg List.length HPQ3.out; simp at this; omega
            go_wp2_with (first
              | (go_at_call 10; refine (pop_cons HI3).mono ?_; rintro e w6 ⟨x6, lv6, rfl, d6, HI6⟩
                 have hbase6 := HI6.qq.base
                 have hnew6 := cells_at_new w6 [.string hd] 9 _ rfl)
              | (at_builtin; refine wpList_append_own_at _ rfl (.tmp 124) (.tmp 126) 33 rfl w.heap.size 9 i0 (.string ⟨#[]⟩) 1 16 Try.underlying33 hi hz0 hz1 hz2 rfl (by decide) _ _ _ rfl (line_keeps HI6.rq.own ((Keeps.refl _ _).alloc _)) ⟨w6.heap.size, 0, none⟩ 1 1 [.string hd] rfl rfl hnew6 (one_string hd) (by unfold maxLen; omega) (by omega) (by simp; omega) ?_; intro v' w7 hown7 hgrow7 _ hwh7
                 have HI7 := HI6.appQ hown7 hgrow7 hwh7
                 have hB7 := below_grown ((hB3.trans d6).alloc hbase6 _) (line_keeps HI6.rq.own ((Keeps.refl _ _).alloc _)) hgrow7 (by simp; omega)))
            simp only [List.length_cons] at hl3
            refine ⟨⟨k2 + 1, lv6, tl, q2 ++ [hd], by go_num, by omega, HI7, by rw [HPQ3.out]; simp, by omega, hB7⟩, ?_⟩
            simp [RowKit.intOf]; omega
        · have hl0 : line2 = [] := List.length_eq_zero_iff.1 (by omega)
          subst hl0
          have hqp : p = q2 := by rw [HPQ3.out, List.append_nil]
          subst hqp
          go_wp2_with (first
            | (go_at_call 15; refine (same_true HI3.rp.own HI3.rq.own (by omega)).mono ?_; rintro e w7 ⟨rfl, hh7, d7⟩
               have HI7 := HI3.heap hh7)
            | (go_at_call 13; refine (len_inv HI7).mono ?_; rintro e w8 ⟨rfl, hw⟩; subst hw)
            | (go_at_call 12; refine (awake_true w7).mono ?_; rintro e w9 ⟨rfl, d9⟩))
          go_ret
          have hb7 := hB3.trans (d7.mono hB3.size)
          exact ⟨rfl, hb7.trans (d9.mono hb7.size)⟩
end Go.Proofs.Ytkejopmohnfpgaa
