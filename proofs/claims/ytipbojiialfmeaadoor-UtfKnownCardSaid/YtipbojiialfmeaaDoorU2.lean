/- UtfKnown's walk. -/
import Derived.Test.YtipbojiialfmeaaDoorU1
import Derived.Deep.RegionHeld3
import Derived.IntWalk
import Derived.Lib.Hide
namespace Go.Proofs.YtipbojiialfmeaaDoor
open Go.RowKit Go.Proofs.Utf Go.Lib
set_option maxRecDepth 100000
theorem no_any (n : Int) (w : World) (hp : ¬ IsPoint n) :
    Calls Tryd.prog 26 #[.int .i64 n] w fun e w' => e = .returned (.bool true) ∧ w' = w := by
  have c := utfEncode_no n w hp
  go_enter Tryd.func26, Tryd.ntmps26
  go_wp2_with (go_at_call 11; refine c.mono ?_; rintro e w' ⟨rfl, rfl⟩)
  go_ret
  exact ⟨rfl, rfl⟩
/-- the numbers lie in the block -/
def Lies (w : World) (g : Nat) (l : List Int) : Prop := ∀ (i : Nat) (x : Int), l[i]? = some x → w.cell? ⟨g, i, none⟩ = some (.int .i64 x)
theorem Lies.below {w w' : World} {g : Nat} {l : List Int} (h : Lies w g l) (hb : Below w.heap.size w w') : Lies w' g l := fun i x hx => by
  have := h i x hx
  rw [hb.cell (World.block_lt_of_cell? w _ this)]; exact this
theorem lies_new (w : World) (l : List Int) (t : TypeId) (c : Array Value) (hc : c = (l.map (Value.int .i64)).toArray) : Lies (w.alloc (.cells c t)) w.heap.size l := fun i x hx => by
  subst hc
  have e : (w.alloc (.cells (l.map (Value.int .i64)).toArray t)).cell? ⟨w.heap.size, i, none⟩ = _ := World.cell?_alloc_mark w _ t (0, 0) i
  rw [e]
  simp [hx]
theorem bytes_list : ∀ p ∈ [((0 : Int), (0 : Int)), (1, 1), (2, 1), (3, 5), (4, 7), (9, 7), (-1, 0)], (byteP (pieces smileB.data.toList) 0 0 p.1 : Int) = p.2 := by decide +kernel
theorem units_list : ∀ p ∈ [((0 : Int), (0 : Int)), (1, 1), (2, 1), (4, 1), (5, 3), (6, 3), (7, 4), (99, 4), (-1, 0)], (uaP (pieces smileB.data.toList) 0 0 0 p.1 : Int) = p.2 := by decide +kernel
def lb : List Int := [0, 0, 1, 1, 2, 1, 3, 5, 4, 7, 9, 7, -1, 0]
def lu : List Int := [0, 0, 1, 1, 2, 1, 4, 1, 5, 3, 6, 3, 7, 4, 99, 4, -1, 0]
theorem pair_b : ∀ k, k < 7 → ∃ a b : Int, lb[2 * k]? = some a ∧ lb[2 * k + 1]? = some b ∧ (byteP (pieces smileB.data.toList) 0 0 a : Int) = b
  | 0, _ => ⟨0, 0, rfl, rfl, bytes_list (0, 0) (by decide)⟩
  | 1, _ => ⟨1, 1, rfl, rfl, bytes_list (1, 1) (by decide)⟩
  | 2, _ => ⟨2, 1, rfl, rfl, bytes_list (2, 1) (by decide)⟩
  | 3, _ => ⟨3, 5, rfl, rfl, bytes_list (3, 5) (by decide)⟩
  | 4, _ => ⟨4, 7, rfl, rfl, bytes_list (4, 7) (by decide)⟩
  | 5, _ => ⟨9, 7, rfl, rfl, bytes_list (9, 7) (by decide)⟩
  | 6, _ => ⟨-1, 0, rfl, rfl, bytes_list (-1, 0) (by decide)⟩
  | n + 7, h => by omega
theorem pair_u : ∀ k, k < 9 → ∃ a b : Int, lu[2 * k]? = some a ∧ lu[2 * k + 1]? = some b ∧ (uaP (pieces smileB.data.toList) 0 0 0 a : Int) = b
  | 0, _ => ⟨0, 0, rfl, rfl, units_list (0, 0) (by decide)⟩
  | 1, _ => ⟨1, 1, rfl, rfl, units_list (1, 1) (by decide)⟩
  | 2, _ => ⟨2, 1, rfl, rfl, units_list (2, 1) (by decide)⟩
  | 3, _ => ⟨4, 1, rfl, rfl, units_list (4, 1) (by decide)⟩
  | 4, _ => ⟨5, 3, rfl, rfl, units_list (5, 3) (by decide)⟩
  | 5, _ => ⟨6, 3, rfl, rfl, units_list (6, 3) (by decide)⟩
  | 6, _ => ⟨7, 4, rfl, rfl, units_list (7, 4) (by decide)⟩
  | 7, _ => ⟨99, 4, rfl, rfl, units_list (99, 4) (by decide)⟩
  | 8, _ => ⟨-1, 0, rfl, rfl, units_list (-1, 0) (by decide)⟩
  | n + 9, h => by omega
set_option maxHeartbeats 2000000 in
theorem known_walk (w : World) (hT : Tabs w) : Calls Tryd.prog 8 #[] w fun e w' => e = .returned (.bool true) ∧ Below w.heap.size w w' := by
  have hw0 := Ok.start hT
  have i1 : ∀ v, Tabs v → Calls Tryd.prog 25 #[.string ⟨#[97]⟩, .int .i64 0, .int .i64 97, .int .i64 1] v fun e w' => e = .returned (.bool true) ∧ Below v.heap.size v w' := fun v h => is_in ⟨#[97]⟩ 0 97 1 v (by decide) (by decide) (by decide +kernel) (by decide +kernel) h
  have i2 : ∀ v, Tabs v → Calls Tryd.prog 25 #[.string ⟨#[195, 169]⟩, .int .i64 0, .int .i64 233, .int .i64 2] v fun e w' => e = .returned (.bool true) ∧ Below v.heap.size v w' := fun v h => is_in ⟨#[195, 169]⟩ 0 233 2 v (by decide) (by decide) (by decide +kernel) (by decide +kernel) h
  have i3 : ∀ v, Tabs v → Calls Tryd.prog 25 #[.string ⟨#[195]⟩, .int .i64 0, .int .i64 (-1), .int .i64 1] v fun e w' => e = .returned (.bool true) ∧ Below v.heap.size v w' := fun v h => is_in ⟨#[195]⟩ 0 (-1) 1 v (by decide) (by decide) (by decide +kernel) (by decide +kernel) h
  have i4 : ∀ v, Tabs v → Calls Tryd.prog 25 #[.string ⟨#[128]⟩, .int .i64 0, .int .i64 (-1), .int .i64 1] v fun e w' => e = .returned (.bool true) ∧ Below v.heap.size v w' := fun v h => is_in ⟨#[128]⟩ 0 (-1) 1 v (by decide) (by decide) (by decide +kernel) (by decide +kernel) h
  have i5 : ∀ v, Tabs v → Calls Tryd.prog 25 #[.string ⟨#[192, 128]⟩, .int .i64 0, .int .i64 (-1), .int .i64 1] v fun e w' => e = .returned (.bool true) ∧ Below v.heap.size v w' := fun v h => is_in ⟨#[192, 128]⟩ 0 (-1) 1 v (by decide) (by decide) (by decide +kernel) (by decide +kernel) h
  have i6 : ∀ v, Tabs v → Calls Tryd.prog 25 #[.string ⟨#[237, 160, 128]⟩, .int .i64 0, .int .i64 (-1), .int .i64 1] v fun e w' => e = .returned (.bool true) ∧ Below v.heap.size v w' := fun v h => is_in ⟨#[237, 160, 128]⟩ 0 (-1) 1 v (by decide) (by decide) (by decide +kernel) (by decide +kernel) h
  have i7 : ∀ v, Calls Tryd.prog 25 #[.string ⟨#[97]⟩, .int .i64 1, .int .i64 (-1), .int .i64 0] v fun e w' => e = .returned (.bool true) ∧ w' = v := fun v => is_out ⟨#[97]⟩ 1 v (by decide) (by decide)
  have i8 : ∀ v, Calls Tryd.prog 25 #[.string ⟨#[97]⟩, .int .i64 (-1), .int .i64 (-1), .int .i64 0] v fun e w' => e = .returned (.bool true) ∧ w' = v := fun v => is_out ⟨#[97]⟩ (-1) v (by decide) (by decide)
  have n1 : ∀ v, Calls Tryd.prog 26 #[.int .i64 55296] v fun e w' => e = .returned (.bool true) ∧ w' = v := fun v => no_any 55296 v (by decide)
  have n2 : ∀ v, Calls Tryd.prog 26 #[.int .i64 1114112] v fun e w' => e = .returned (.bool true) ∧ w' = v := fun v => no_any 1114112 v (by decide)
  have n3 : ∀ v, Calls Tryd.prog 26 #[.int .i64 (-1)] v fun e w' => e = .returned (.bool true) ∧ w' = v := fun v => no_any (-1) v (by decide)
  have u1 : ∀ v, Tabs v → Calls Tryd.prog 15 #[.string ⟨#[255, 254]⟩] v fun e w' => e = .returned (.int .i64 2) ∧ Below v.heap.size v w' := fun v _ => by
    have := utfUnits_any ⟨#[255, 254]⟩ v (by decide)
    rw [show unitsP (pieces (⟨#[255, 254]⟩ : ByteArray).data.toList) = 2 by decide +kernel] at this
    exact this
  have v1 : ∀ v, Tabs v → Calls Tryd.prog 23 #[.string ⟨#[255]⟩] v fun e w' => e = .returned (.bool false) ∧ Below v.heap.size v w' := fun v h => by
    have := utfValid_any ⟨#[255]⟩ v (by decide) h
    rw [show validD (⟨#[255]⟩ : ByteArray).data.toList = false by decide +kernel] at this
    exact this
  have v2 : ∀ v, Tabs v → Calls Tryd.prog 23 #[.string smileB] v fun e w' => e = .returned (.bool true) ∧ Below v.heap.size v w' := fun v h => by
    have := utfValid_any smileB v (by decide) h
    rw [show validD smileB.data.toList = true by decide +kernel] at this
    exact this
  go_enter Tryd.func8, Tryd.ntmps8
  go_wp2_with (first
    | (go_at_call 13; refine (works_any (by assumption)).mono ?_; rintro e w1 ⟨rfl, hw1⟩)
    | (go_at_call 27; refine (smile_any _).mono ?_; rintro e w' ⟨rfl, rfl⟩)
    | (go_at_call_of 25 (Value.string ⟨#[195, 169]⟩); refine (ok_of i2 (by assumption)).mono ?_; rintro e w2 ⟨rfl, hw2⟩)
    | (go_at_call_of 25 (Value.string ⟨#[195]⟩); refine (ok_of i3 (by assumption)).mono ?_; rintro e w2 ⟨rfl, hw2⟩)
    | (go_at_call_of 25 (Value.string ⟨#[128]⟩); refine (ok_of i4 (by assumption)).mono ?_; rintro e w2 ⟨rfl, hw2⟩)
    | (go_at_call_of 25 (Value.string ⟨#[192, 128]⟩); refine (ok_of i5 (by assumption)).mono ?_; rintro e w2 ⟨rfl, hw2⟩)
    | (go_at_call_of 25 (Value.string ⟨#[237, 160, 128]⟩); refine (ok_of i6 (by assumption)).mono ?_; rintro e w2 ⟨rfl, hw2⟩)
    | (go_at_call_of 25 (Value.int .i64 97); refine (ok_of i1 (by assumption)).mono ?_; rintro e w2 ⟨rfl, hw2⟩)
    | (go_at_call_of 25 (Value.int .i64 1); refine (i7 _).mono ?_; rintro e w2 ⟨rfl, rfl⟩)
    | (go_at_call 25; refine (i8 _).mono ?_; rintro e w2 ⟨rfl, rfl⟩)
    | (go_at_call_of 26 (Value.int .i64 55296); refine (n1 _).mono ?_; rintro e w2 ⟨rfl, rfl⟩)
    | (go_at_call_of 26 (Value.int .i64 1114112); refine (n2 _).mono ?_; rintro e w2 ⟨rfl, rfl⟩)
    | (go_at_call 26; refine (n3 _).mono ?_; rintro e w2 ⟨rfl, rfl⟩)
    | (go_at_call 15; refine (ok_of u1 (by assumption)).mono ?_; rintro e w2 ⟨rfl, hw2⟩)
    | (go_at_call_of 23 (Value.string ⟨#[255]⟩); refine (ok_of v1 (by assumption)).mono ?_; rintro e w2 ⟨rfl, hw2⟩)
    | (go_at_call 23; refine (ok_of v2 (by assumption)).mono ?_; rintro e w2 ⟨rfl, hw2⟩))
  have L1 : Lies _ _ lb := lies_new w2 lb 3 _ rfl
  have hok1 : Ok w (w2.alloc (.cells (lb.map (Value.int .i64)).toArray 3)) := Ok.step (by assumption) ((Below.refl _ _).alloc (Nat.le_refl _) _)
  go_loopw [2] (fun i wr => ∃ k : Nat, i = .int .i64 ((2 * k : Nat) : Int) ∧ k ≤ 7 ∧ Ok w wr ∧ Lies wr w2.heap.size lb) (fun i _ => 14 - (RowKit.intOf i).toNat)
  case atStart => exact ⟨0, rfl, Nat.zero_le _, hok1, L1⟩
  case round =>
    obtain ⟨k, rfl, hk, hok, hL⟩ := hrel
    by_cases hk7 : k < 7
    · obtain ⟨a, b, ha, hb, hab⟩ := pair_b k hk7
      obtain ⟨i, hik⟩ : ∃ i, i = 2 * k := ⟨_, rfl⟩
      rw [← hik] at ha hb ⊢
      have j1 : (0 : Int) ≤ (i : Int) := by omega
      have j2 : (i : Int) < 14 := by omega
      have j3 : (0 : Int) ≤ (i : Int) + 1 := by omega
      have j4 : (i : Int) + 1 < 14 := by omega
      have j5 : IntKind.i64.wrap ((i : Int) + 1) = (i : Int) + 1 := IntWalk.i64_in _ (by omega)
      have j6 : ((i : Int) + 1).toNat = i + 1 := by omega
      have HIK := Lib.hid hik
      clear hik
      have ca := hL _ _ ha
      have cb := hL _ _ hb
      have cB : ∀ v, (Ok w v ∧ Lies v w2.heap.size lb) → Calls Tryd.prog 17 #[.string smileB, .int .i64 a] v fun e w' => e = .returned (.int .i64 b) ∧ (Ok w w' ∧ Lies w' w2.heap.size lb) := fun v hv => by
        have := utfByte_any smileB a v (by decide)
        rw [hab] at this
        refine this.mono ?_
        rintro e w' ⟨he, hb'⟩
        exact ⟨he, hv.1.step hb', hv.2.below hb'⟩
      have e1 : decide ((i : Int) < 14) = true := by simp; omega
      have keepS : ∀ {v : World}, (Ok w v ∧ Lies v w2.heap.size lb) → ((Ok w v ∧ Lies v w2.heap.size lb) ∧ v.cell? ⟨w2.heap.size, i, none⟩ = some (.int .i64 a) ∧ v.cell? ⟨w2.heap.size, i + 1, none⟩ = some (.int .i64 b)) := fun hv => ⟨hv, hv.2 _ _ ha, hv.2 _ _ hb⟩
      have h0 : Ok w wr ∧ Lies wr w2.heap.size lb := ⟨hok, hL⟩
      have h1 : Ok w wr.drew ∧ Lies wr.drew w2.heap.size lb := ⟨hok.step ((Below.refl _ _).drew), hL.below ((Below.refl _ _).drew)⟩
      go_wp2
      go_region_held3 (fun v => (Ok w v ∧ Lies v w2.heap.size lb) ∧ v.cell? ⟨w2.heap.size, i, none⟩ = some (.int .i64 a) ∧ v.cell? ⟨w2.heap.size, i + 1, none⟩ = some (.int .i64 b))
        (first | exact keepS h0 | exact keepS h1 | exact keepS (by assumption))
        (first
          | (go_at_call 27; refine (smile_any _).mono ?_; rintro e w' ⟨rfl, rfl⟩)
          | (go_at_call 17; refine (cB _ (by first | assumption | exact h1)).mono ?_; rintro e w5 ⟨rfl, hw5⟩))
      go_wp2
      have hik := HIK.out
      refine ⟨⟨k + 1, by rw [show ((2 * (k + 1) : Nat) : Int) = (i : Int) + 2 by omega], by omega, (by assumption : Ok w _ ∧ Lies _ _ lb).1, (by assumption : Ok w _ ∧ Lies _ _ lb).2⟩, ?_⟩
      simp [RowKit.intOf]; omega
    · obtain rfl : k = 7 := by omega
      rw [show ((2 * 7 : Nat) : Int) = 14 from rfl]
      go_wp2
      have L2 : Lies _ _ lu := lies_new wr lu 3 _ rfl
      have hok2 : Ok w (wr.alloc (.cells (lu.map (Value.int .i64)).toArray 3)) := hok.step ((Below.refl _ _).alloc (Nat.le_refl _) _)
      generalize wr.heap.size = g at L2 ⊢
      go_loopw [4] (fun i wr => ∃ k : Nat, i = .int .i64 ((2 * k : Nat) : Int) ∧ k ≤ 9 ∧ Ok w wr ∧ Lies wr g lu) (fun i _ => 18 - (RowKit.intOf i).toNat)
      case atStart => exact ⟨0, rfl, Nat.zero_le _, hok2, L2⟩
      case round =>
        obtain ⟨k, rfl, hk, hok, hL⟩ := hrel
        by_cases hk9 : k < 9
        · obtain ⟨a, b, ha, hb, hab⟩ := pair_u k hk9
          obtain ⟨i, hik⟩ : ∃ i, i = 2 * k := ⟨_, rfl⟩
          rw [← hik] at ha hb ⊢
          have j1 : (0 : Int) ≤ (i : Int) := by omega
          have j2 : (i : Int) < 18 := by omega
          have j3 : (0 : Int) ≤ (i : Int) + 1 := by omega
          have j4 : (i : Int) + 1 < 18 := by omega
          have j5 : IntKind.i64.wrap ((i : Int) + 1) = (i : Int) + 1 := IntWalk.i64_in _ (by omega)
          have j6 : ((i : Int) + 1).toNat = i + 1 := by omega
          have HIK := Lib.hid hik
          clear hik
          have ca := hL _ _ ha
          have cb := hL _ _ hb
          have cB : ∀ v, (Ok w v ∧ Lies v g lu) → Calls Tryd.prog 19 #[.string smileB, .int .i64 a] v fun e w' => e = .returned (.int .i64 b) ∧ (Ok w w' ∧ Lies w' g lu) := fun v hv => by
            have := utfUnitsAt_any smileB a v (by decide)
            rw [hab] at this
            refine this.mono ?_
            rintro e w' ⟨he, hb'⟩
            exact ⟨he, hv.1.step hb', hv.2.below hb'⟩
          have e1 : decide ((i : Int) < 18) = true := by simp; omega
          have keepS : ∀ {v : World}, (Ok w v ∧ Lies v g lu) → ((Ok w v ∧ Lies v g lu) ∧ v.cell? ⟨g, i, none⟩ = some (.int .i64 a) ∧ v.cell? ⟨g, i + 1, none⟩ = some (.int .i64 b)) := fun hv => ⟨hv, hv.2 _ _ ha, hv.2 _ _ hb⟩
          have h0 : Ok w wr ∧ Lies wr g lu := ⟨hok, hL⟩
          have h1 : Ok w wr.drew ∧ Lies wr.drew g lu := ⟨hok.step ((Below.refl _ _).drew), hL.below ((Below.refl _ _).drew)⟩
          go_wp2
          go_region_held3 (fun v => (Ok w v ∧ Lies v g lu) ∧ v.cell? ⟨g, i, none⟩ = some (.int .i64 a) ∧ v.cell? ⟨g, i + 1, none⟩ = some (.int .i64 b))
            (first | exact keepS h0 | exact keepS h1 | exact keepS (by assumption))
            (first
              | (go_at_call 27; refine (smile_any _).mono ?_; rintro e w' ⟨rfl, rfl⟩)
              | (go_at_call 19; refine (cB _ (by first | assumption | exact h1)).mono ?_; rintro e w5 ⟨rfl, hw5⟩))
          go_wp2
          have hik := HIK.out
          refine ⟨⟨k + 1, by rw [show ((2 * (k + 1) : Nat) : Int) = (i : Int) + 2 by omega], by omega, (by assumption : Ok w _ ∧ Lies _ _ lu).1, (by assumption : Ok w _ ∧ Lies _ _ lu).2⟩, ?_⟩
          simp [RowKit.intOf]; omega
        · obtain rfl : k = 9 := by omega
          go_wp2_with (first
            | (go_at_call 13; refine (works_any hok).mono ?_; rintro e w9 ⟨rfl, hw9⟩))
          go_ret
          exact ⟨rfl, hw9.1⟩
end Go.Proofs.YtipbojiialfmeaaDoor
