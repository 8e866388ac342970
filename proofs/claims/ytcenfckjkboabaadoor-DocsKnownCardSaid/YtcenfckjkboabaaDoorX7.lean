/- emend/lines.Offset, Full, Cut; emendlaw06.three, long. -/
import Derived.Test.YtcenfckjkboabaaDoorX5
import Derived.Deep.RegionHeld3
namespace Go.Proofs.YtcenfckjkboabaaDoor
open Go.RowKit Go.Proofs.Utf Go.Lib

attribute [local go_sem] Oper.semAt_some

/-- a block of two ints -/
def Two (W : World) (B : Nat) (t : TypeId) (a b : Int) : Prop := W.heap[B]? = some (.cells #[.int .i64 a, .int .i64 b] t (0, 0))
theorem Two.c0 {W : World} {B : Nat} {t : TypeId} {a b : Int} (h : Two W B t a b) : W.cell? ⟨B, 0, none⟩ = some (.int .i64 a) := by simp [World.cell?, show W.heap[B]? = _ from h]
theorem Two.c1 {W : World} {B : Nat} {t : TypeId} {a b : Int} (h : Two W B t a b) : W.cell? ⟨B, 1, none⟩ = some (.int .i64 b) := by simp [World.cell?, show W.heap[B]? = _ from h]
theorem Two.at {w : World} {B : Nat} (t : TypeId) (a b : Int) (h : B = w.heap.size) : Two (w.alloc (.cells #[.int .i64 a, .int .i64 b] t)) B t a b := by subst h; exact World.alloc_heap_new w _

theorem byteP_le : ∀ (t : List (Nat × Nat)) (pos acc : Nat) (want : Int), byteP t pos acc want ≤ pos + widthP t
  | [], pos, _, _ => by simp [byteP, widthP]
  | (w, r) :: t, pos, acc, want => by
    simp only [byteP, widthP]
    split
    · omega
    · have := byteP_le t (pos + w) (acc + wt r) want
      omega
/-- a line's text -/
def lineB (s : ByteArray) (x : Nat × Nat) : ByteArray := s.extract x.1 x.2
theorem lineB_size (s : ByteArray) (x : Nat × Nat) : (lineB s x).size = min x.2 s.size - x.1 := by simp [lineB]
theorem lineAt_in {s : ByteArray} {n : Int} {x : Nat × Nat} (h : lineAt (linesL s.data.toList) n = some x) : x.1 ≤ x.2 ∧ x.2 ≤ s.size := by
  unfold lineAt at h
  split at h
  · have := linesP_in s.data.toList false 0 0 (Nat.le_refl _) x (List.mem_of_getElem? h)
    rw [size_eq]
    omega
  · cases h
def offP (s : ByteArray) (a b : Int) : Int × Int :=
  if a < 0 ∨ b < 0 then (0, 2) else match lineAt (linesL s.data.toList) a with
  | none => ((s.size : Int), 0)
  | some x => ((x.1 : Int) + byteP (pieces (lineB s x).data.toList) 0 0 b, 0)

set_option maxRecDepth 100000 in
set_option maxHeartbeats 2000000 in
theorem offset_any (s : ByteArray) (a b : Int) (w : World) (hs : s.size < 4294967281) :
    Calls Tryd.prog 62 #[.string s, .agg #[.int .i64 a, .int .i64 b]] w fun e w' => e = .returned (.tuple #[.int .i64 (offP s a b).1, .int .i64 (offP s a b).2]) ∧ Below w.heap.size w w' := by
  by_cases ha : a < 0
  · have ho : offP s a b = (0, 2) := if_pos (.inl ha)
    rw [ho]
    go_enter Tryd.func62, Tryd.ntmps62
    go_wp2
    go_ret2
    exact ⟨rfl, (Below.refl _ _).alloc (Nat.le_refl _) _⟩
  by_cases hb : b < 0
  · have ho : offP s a b = (0, 2) := if_pos (.inr hb)
    rw [ho]
    go_enter Tryd.func62, Tryd.ntmps62
    go_wp2
    go_ret2
    exact ⟨rfl, (Below.refl _ _).alloc (Nat.le_refl _) _⟩
  have ho : offP s a b = match lineAt (linesL s.data.toList) a with
    | none => ((s.size : Int), 0)
    | some x => ((x.1 : Int) + byteP (pieces (lineB s x).data.toList) 0 0 b, 0) := if_neg (by omega)
  cases hl : lineAt (linesL s.data.toList) a with
  | none =>
    rw [hl] at ho
    dsimp only at ho
    rw [ho]
    go_enter Tryd.func62, Tryd.ntmps62
    go_wp2_with (go_at_call 71; refine (line_any _ _ _ hs).mono ?_; rintro e w1 ⟨rfl, hw1⟩; rw [hl]; simp only [lineV])
    go_ret2
    exact ⟨rfl, ((Below.refl _ w).alloc (Nat.le_refl _) _).trans (hw1.mono (by simp))⟩
  | some x =>
    rw [hl] at ho
    dsimp only at ho
    rw [ho]
    have hx := lineAt_in hl
    have hz := lineB_size s x
    have hby := byteP_le (pieces (lineB s x).data.toList) 0 0 b
    rw [widthP_pieces _ _ (Nat.le_refl _), ← size_eq, hz] at hby
    obtain ⟨y, hy⟩ : ∃ y, byteP (pieces (lineB s x).data.toList) 0 0 b = y := ⟨_, rfl⟩
    rw [hy] at hby ⊢
    have hwr : IntKind.i64.wrap ((x.1 : Int) + (y : Int)) = (x.1 : Int) + (y : Int) := IntWalk.i64_in _ (by omega)
    have hcell : ∀ w1, Below (w.alloc (.cells #[.int .i64 a, .int .i64 b] 50)).heap.size (w.alloc (.cells #[.int .i64 a, .int .i64 b] 50)) w1 → w1.cell? ⟨w.heap.size, 0, none⟩ = some (.int .i64 a) ∧ w1.cell? ⟨w.heap.size, 1, none⟩ = some (.int .i64 b) ∧ Below w.heap.size w w1 := fun w1 hw1 =>
      have t := (Two.at (w := w) 50 a b rfl)
      have t1 : Two w1 w.heap.size 50 a b := (hw1.block _ (by simp)).trans t
      ⟨t1.c0, t1.c1, ((Below.refl _ w).alloc (Nat.le_refl _) _).trans (hw1.mono (by simp))⟩
    go_enter Tryd.func62, Tryd.ntmps62
    go_wp2_with (go_at_call 71; refine (line_any _ _ _ hs).mono ?_; rintro e w1 ⟨rfl, hw1⟩; rw [hl]; simp only [lineV]; obtain ⟨c0, c1, hB1⟩ := hcell w1 hw1)
    go_region_held3 (fun w' => w'.cell? ⟨w.heap.size, 1, none⟩ = some (.int .i64 b)) (first | assumption | (simp; assumption)) ((go_at_call 72; refine (utfByte_any (lineB s x) b _ (by omega)).mono ?_; rintro e w2 ⟨rfl, hw2⟩; rw [hy]; have c2 := (hw2.cell (p := ⟨w.heap.size, 1, none⟩) (by have := hB1.size; have := hw1.size; simp at this ⊢; omega)).trans c1; have hB2 := hB1.drew.trans (hw2.mono hB1.size)))
    go_wp2
    go_ret2
    exact ⟨rfl, by assumption⟩
end Go.Proofs.YtcenfckjkboabaaDoor
