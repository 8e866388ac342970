/- Merged texts: E1, E2, E3, E4, E5, E6, E7, E8, E9. -/
import Derived.Test.YtcenfckjkboabaaGreatDoorGD
import Derived.Test.YtcenfckjkboabaaGreatDoorGB
import Derived.BigQuiet
import Derived.Laws.OwnMore
import Derived.Laws.AppendOwn
import Derived.Deep.Onto
import Derived.Test.YtcenfckjkboabaaGreatDoorGC
import Derived.Laws.AppendOwnNone
import Derived.Deep.CutBlock
import Derived.Deep.DeepCutAuto
/- E1: The reference's documents in memory; at, Get. -/
namespace Go.Proofs.Dc
open Go.RowKit Go.Proofs Go.Lib Go.Maps

/-- the reference's documents: a slice of its own behind a pointer -/
structure RV (w : World) (r base : Nat) (v : Value) (L : List Doc) : Prop where
  hd : w.heap[r]? = some (.cells #[v] 30 (0, 0))
  row : w.ownsRow base 53 3 v L.length (docCells L)
  lo : base ≤ r
theorem RV.lt {w : World} {r base : Nat} {v : Value} {L : List Doc} (h : RV w r base v L) : r < w.heap.size := (Array.getElem?_eq_some_iff.1 h.hd).1
theorem RV.cell {w : World} {r base : Nat} {v : Value} {L : List Doc} (h : RV w r base v L) : w.cell? ⟨r, 0, none⟩ = some v := by simp [World.cell?, h.hd]
theorem own_kept {w w' : World} {row : Option Nat} {base : Nat} {v : Value} {n : Nat} {xs : List Value} (h : w.ownsRow base 53 3 v n xs) (hg : w.grownBy w' row) (hne : v.ownBlock ≠ row ∨ v.ownBlock = none) : w'.ownsRow base 53 3 v n xs := by
  refine ⟨h.1, ?_⟩
  rcases h.2 with h2 | ⟨g, cap, cur, rfl, h2, h3, h4⟩
  · exact .inl h2
  · refine .inr ⟨g, cap, cur, rfl, h2, ?_, h4⟩
    rw [hg.block g (Array.getElem?_eq_some_iff.1 h3).1 (by rcases hne with hne | hne; exact hne; cases hne)]
    exact h3
theorem RV.kept {w w' : World} {r base : Nat} {v : Value} {L : List Doc} (h : RV w r base v L) {row : Option Nat} (hg : w.grownBy w' row) (h1 : some r ≠ row) (h2 : v.ownBlock ≠ row ∨ v.ownBlock = none) : RV w' r base v L :=
  ⟨(hg.block r h.lt h1).trans h.hd, own_kept h.row hg h2, h.lo⟩
theorem RV.below {w w' : World} {r base : Nat} {v : Value} {L : List Doc} (h : RV w r base v L) (hb : Below w.heap.size w w') : RV w' r base v L := by
  refine h.kept (row := none) (gb_below hb) (by simp) ?_
  cases hv : v.ownBlock with
  | none => exact .inr rfl
  | some k => exact .inl (by simp)
/-- the slice as a value, its documents as cells -/
theorem RV.docs {w : World} {r base : Nat} {v : Value} {L : List Doc} (h : RV w r base v L) :
    ∃ (p : Option Addr) (cap : Nat), v = .slice p L.length cap ∧ L.length ≤ cap ∧ ∀ q d, L[q]? = some d → ∃ a, p = some a ∧ DocA w (a.add (q * 3)) d := by
  obtain ⟨p, cap, h1, h2, _, h4⟩ := row_docs h.row
  exact ⟨p, cap, h1, h2, h4⟩
/-- where the document of a URI stands -/
def atI (L : List Doc) (u : List UInt8) : Int := match L.findIdx? (fun d : Doc => d.uri == u) with | some k => k | none => -1
theorem atI_none {L : List Doc} {u : List UInt8} (h : ∀ (j : Nat) (d : Doc), L[j]? = some d → d.uri ≠ u) : atI L u = -1 := by
  unfold atI
  rw [List.findIdx?_eq_none_iff.2 fun d hd => by
    obtain ⟨j, hj⟩ := List.getElem?_of_mem hd
    simpa using h j d hj]
theorem atI_some {L : List Doc} {u : List UInt8} {k : Nat} {d : Doc} (hk : L[k]? = some d) (hu : d.uri = u) (h : ∀ (j : Nat) (x : Doc), j < k → L[j]? = some x → x.uri ≠ u) : atI L u = k := by
  have hl := (List.getElem?_eq_some_iff.1 hk)
  have : L.findIdx? (fun d : Doc => d.uri == u) = some k := by
    rw [List.findIdx?_eq_some_iff_getElem]
    refine ⟨hl.1, by rw [hl.2, hu]; simp, fun j hj => ?_⟩
    have := h j _ hj (List.getElem?_eq_getElem (Nat.lt_trans hj hl.1))
    simpa using this
  unfold atI
  rw [this]
theorem at_get (L : List Doc) (u : List UInt8) : (getD? L u = none ∧ atI L u = -1) ∨ ∃ (k : Nat) (d : Doc), L[k]? = some d ∧ d.uri = u ∧ getD? L u = some d ∧ atI L u = k ∧ ∀ (j : Nat) (x : Doc), j < k → L[j]? = some x → x.uri ≠ u := by
  cases hf : L.findIdx? (fun d : Doc => d.uri == u) with
  | none =>
    refine .inl ⟨?_, by unfold atI; rw [hf]⟩
    rw [List.findIdx?_eq_none_iff] at hf
    unfold getD?
    rw [List.find?_eq_none]
    exact fun d hd => by simpa using hf d hd
  | some k =>
    rw [List.findIdx?_eq_some_iff_getElem] at hf
    obtain ⟨hk, h1, h2⟩ := hf
    have h2' : ∀ (j : Nat) (x : Doc), j < k → L[j]? = some x → x.uri ≠ u := fun j x hj hx => by
      obtain ⟨_, rfl⟩ := List.getElem?_eq_some_iff.1 hx
      simpa using h2 j hj
    have hu : (L[k]).uri = u := by simpa using h1
    refine .inr ⟨k, L[k], List.getElem?_eq_getElem hk, hu, ?_, atI_some (List.getElem?_eq_getElem hk) hu h2', h2'⟩
    unfold getD?
    rw [List.find?_eq_some_iff_getElem]
    exact ⟨by simpa using h1, k, hk, rfl, fun j hj => by simpa using h2 j hj⟩
set_option maxRecDepth 100000 in
set_option maxHeartbeats 2000000 in
theorem at_any (w : World) (r base : Nat) (v : Value) (L : List Doc) (h : RV w r base v L) (u : ByteArray) (hL : L.length ≤ 1000000) :
    Calls Tryz.prog 89 #[.pointer (some ⟨r, 0, none⟩), .string u] w fun e w' => e = .returned (.int .i64 (atI L u.data.toList)) ∧ w = w' := by
  obtain ⟨p, cap, rfl, hcap, hdocs⟩ := h.docs
  have hc := h.cell
  have HD := Lib.hid hdocs
  clear h hdocs
  go_enter Tryz.func89, Tryz.ntmps89
  go_wp2
  go_loop [5] (fun x => ∃ k : Nat, x = .int .i64 k ∧ k ≤ L.length ∧ ∀ (j : Nat) (d : Doc), j < k → L[j]? = some d → d.uri ≠ u.data.toList) (fun x => L.length - (RowKit.intOf x).toNat)
  case atStart => exact ⟨0, rfl, Nat.zero_le _, fun j d hj => by omega⟩
  case round =>
    obtain ⟨k, rfl, hk, hno⟩ := hrel
    have HN := Lib.hid hno
    clear hno
    by_cases hkn : (k : Int) < (L.length : Int)
    · obtain ⟨d, hd⟩ : ∃ d, L[k]? = some d := ⟨_, List.getElem?_eq_getElem (by omega)⟩
      obtain ⟨a, rfl, hA⟩ := HD.out k d hd
      have c0 := hA.c0
      have HK := Lib.hid hd
      clear hd hA
      have he : ((⟨d.uri.toArray⟩ : ByteArray).toList == u.toList) = decide (d.uri = u.data.toList) := by
        rw [ByteArray.toList_eq, ByteArray.toList_eq]
        by_cases h : d.uri = u.data.toList
        · rw [decide_eq_true h]; simpa using h
        · rw [decide_eq_false h]; simpa using h
      obtain ⟨U, hU⟩ : ∃ U : ByteArray, (⟨d.uri.toArray⟩ : ByteArray) = U := ⟨_, rfl⟩
      rw [hU] at c0 he
      clear hU
      by_cases hu : d.uri = u.data.toList
      · rw [decide_eq_true hu] at he
        have HR := Lib.hid (atI_some HK.out hu HN.out)
        clear hu
        go_wp2
        go_ret
        exact ⟨by rw [HR.out]; rfl, rfl⟩
      · rw [decide_eq_false hu] at he
        have HU := Lib.hid hu
        clear hu
        go_wp2
        go_round
        case rel => exact ⟨k + 1, by go_num, by omega, fun j x hj hx => by
          by_cases e : j = k
          · subst e; rw [HK.out] at hx; cases hx; exact HU.out
          · exact HN.out j x (by omega) hx⟩
        case measure => simp [RowKit.intOf]; omega
    · have HR := Lib.hid (atI_none fun j d hj => HN.out j d (by have := (List.getElem?_eq_some_iff.1 hj).1; omega) hj)
      go_wp2
      go_ret
      exact ⟨by rw [HR.out]; rfl, rfl⟩
end Go.Proofs.Dc
/- E2: The reference's Behind. -/
namespace Go.Proofs.Dc
open Go.RowKit Go.Proofs Go.Lib Go.Maps

theorem str_all (s : ByteArray) : s.extract 0 0 = ⟨#[]⟩ ∧ s.extract s.size s.size = ⟨#[]⟩ := by
  constructor <;> (apply ByteArray.ext; apply Array.toList_inj.1; rw [ext_list]; simp)
theorem step_whole {s : ByteArray} {x : Chg} (hx : validD x.text.data.toList = true) (hw : x.whole = true) : stepV s x = if 65536 < x.text.size then (⟨#[]⟩, 3) else (x.text, 0) := by
  have hp : x.places s = (0, (s.size : Int), 0) := by unfold Chg.places; rw [hw, if_pos rfl]
  unfold stepV
  rw [hp, hx, if_neg (by decide), if_neg (show ¬ ((0 : Int) ≠ 0) by decide)]
  obtain ⟨e1, e2⟩ := str_all s
  by_cases h : 65536 < x.text.size
  · rw [if_pos (by simp only; omega), if_pos h]
  · rw [if_neg (by simp only; omega), if_neg h]
    congr 1
    simp only [Int.toNat_natCast]
    rw [show (0 : Int).toNat = 0 from rfl, e1, e2]
    apply ByteArray.ext
    simp
open YtcenfckjkboabaaGreatDoor in
theorem step_range {s : ByteArray} {x : Chg} (hx : validD x.text.data.toList = true) (hw : x.whole = false) : stepV s x =
    if (cutP s x.a x.b x.c x.d).2.2 ≠ 0 then (⟨#[]⟩, (cutP s x.a x.b x.c x.d).2.2)
    else if 65536 < (s.extract 0 (cutP s x.a x.b x.c x.d).1.toNat ++ x.text ++ s.extract (cutP s x.a x.b x.c x.d).2.1.toNat s.size).size then (⟨#[]⟩, 3)
    else (s.extract 0 (cutP s x.a x.b x.c x.d).1.toNat ++ x.text ++ s.extract (cutP s x.a x.b x.c x.d).2.1.toNat s.size, 0) := by
  have hp : x.places s = cutP s x.a x.b x.c x.d := by unfold Chg.places; rw [hw]; rfl
  have hin := cutP_in s x.a x.b x.c x.d
  unfold stepV
  rw [hp, hx, if_neg (by decide)]
  generalize cutP s x.a x.b x.c x.d = C at hin ⊢
  obtain ⟨f, t, e⟩ := C
  simp only at hin ⊢
  by_cases he : e ≠ 0
  · rw [if_pos he, if_pos he]
  · rw [if_neg he, if_neg he]
    have hsz : (s.extract 0 f.toNat ++ x.text ++ s.extract t.toNat s.size).size = f.toNat + x.text.size + (s.size - t.toNat) := by
      simp [ByteArray.size_append]
      omega
    rw [hsz]
    by_cases hl : 65536 < f.toNat + x.text.size + (s.size - t.toNat)
    · rw [if_pos (by omega), if_pos hl]
    · rw [if_neg (by omega), if_neg hl]
set_option maxRecDepth 100000 in
set_option maxHeartbeats 2000000 in
theorem behind_any (s : ByteArray) (x : Chg) (w : World) (hs : s.size ≤ 70000) (hx : x.text.size ≤ 70000) :
    Calls Tryz.prog 91 #[.string s, .agg #[.bool x.whole, .int .i64 x.a, .int .i64 x.b, .int .i64 x.c, .int .i64 x.d, .string x.text]] w fun e w' => e = .returned (.tuple #[.string (stepV s x).1, .int .i64 (stepV s x).2]) ∧ Below w.heap.size w w' := by
  have hval := fun w => YtcenfckjkboabaaGreatDoor.refValid_any x.text w (by omega)
  rw [Utf.valid_eq _ _ 0 (Nat.le_refl _)] at hval
  have hcut := fun w => YtcenfckjkboabaaGreatDoor.refCut_any s x.a x.b x.c x.d w (by omega)
  have hin := cutP_in s x.a x.b x.c x.d
  have s1 := step_whole (s := s) (x := x)
  have s2 := step_range (s := s) (x := x)
  obtain ⟨R, hR⟩ : ∃ R, stepV s x = R := ⟨_, rfl⟩
  have hbad := fun h => (stepV_bad (s := s) (x := x) h).symm.trans hR
  rw [hR] at s1 s2 ⊢
  clear hR
  generalize YtcenfckjkboabaaGreatDoor.cutP s x.a x.b x.c x.d = C at hcut hin s2
  obtain ⟨f, t, e⟩ := C
  obtain ⟨wh, a, b, c, d, T⟩ := x
  simp only at *
  obtain ⟨V, hV⟩ : ∃ V, w.alloc (.cells #[.bool wh, .int .i64 a, .int .i64 b, .int .i64 c, .int .i64 d, .string T] 122) = V := ⟨_, rfl⟩
  have hVB : Below w.heap.size w V := by rw [← hV]; exact (Below.refl _ _).alloc (Nat.le_refl _) _
  have hVh : V.heap[w.heap.size]? = some (.cells #[.bool wh, .int .i64 a, .int .i64 b, .int .i64 c, .int .i64 d, .string T] 122) := by rw [← hV]; exact World.alloc_heap_new w _
  have HC : Hid (∀ w', Below V.heap.size V w' → w'.cell? ⟨w.heap.size, 0, none⟩ = some (.bool wh) ∧ w'.cell? ⟨w.heap.size, 1, none⟩ = some (.int .i64 a) ∧ w'.cell? ⟨w.heap.size, 2, none⟩ = some (.int .i64 b) ∧ w'.cell? ⟨w.heap.size, 3, none⟩ = some (.int .i64 c) ∧ w'.cell? ⟨w.heap.size, 4, none⟩ = some (.int .i64 d) ∧ w'.cell? ⟨w.heap.size, 5, none⟩ = some (.string T)) := Lib.hid fun w' hb => by
    have := (hb.block _ (Array.getElem?_eq_some_iff.1 hVh).1).trans hVh
    refine ⟨?_, ?_, ?_, ?_, ?_, ?_⟩ <;> simp [World.cell?, this]
  obtain ⟨v0, v1, v2, v3, v4, v5⟩ := HC.out V (Below.refl _ _)
  cases hv : validD T.data.toList with
  | false =>
    rw [hv] at hval
    have hb := hbad hv
    subst hb
    clear s1 s2 hbad hv hVh
    go_enter Tryz.func91, Tryz.ntmps91
    go_wp2_with (first | (go_at_call 90; refine (hval _).mono ?_; rintro e w1 ⟨rfl, hb1⟩))
    go_ret2
    exact ⟨rfl, hVB.trans (hb1.mono hVB.size)⟩
  | true =>
  rw [hv] at hval
  clear hbad hVh
  cases wh with
  | true =>
    have hs1 := s1 hv rfl
    clear s1 s2 hv
    by_cases hl : (65536 : Int) < (T.size : Int)
    · rw [if_pos (by omega)] at hs1
      subst hs1
      go_enter Tryz.func91, Tryz.ntmps91
      go_wp2_with (first | (go_at_call 90; refine (hval _).mono ?_; rintro e w1 ⟨rfl, hb1⟩; obtain ⟨q0, q1, q2, q3, q4, q5⟩ := HC.out w1 hb1))
      go_ret2
      exact ⟨rfl, hVB.trans (hb1.mono hVB.size)⟩
    · rw [if_neg (by omega)] at hs1
      subst hs1
      go_enter Tryz.func91, Tryz.ntmps91
      go_wp2_with (first | (go_at_call 90; refine (hval _).mono ?_; rintro e w1 ⟨rfl, hb1⟩; obtain ⟨q0, q1, q2, q3, q4, q5⟩ := HC.out w1 hb1))
      go_ret2
      exact ⟨rfl, hVB.trans (hb1.mono hVB.size)⟩
  | false =>
    have hs2 := s2 hv rfl
    clear s1 s2 hv
    by_cases he : e = 0
    · subst he
      rw [if_neg (by decide)] at hs2
      obtain ⟨fn, rfl⟩ : ∃ n : Nat, f = n := ⟨f.toNat, by omega⟩
      obtain ⟨tn, rfl⟩ : ∃ n : Nat, t = n := ⟨t.toNat, by omega⟩
      simp only [Int.toNat_natCast] at hs2
      have i1 : (fn : Int) ≤ (s.size : Int) := by omega
      have i2 : (tn : Int) ≤ (s.size : Int) := by omega
      obtain ⟨O, hO⟩ : ∃ O, s.extract 0 fn ++ T ++ s.extract tn s.size = O := ⟨_, rfl⟩
      rw [hO] at hs2
      by_cases hl : (65536 : Int) < (O.size : Int)
      · rw [if_pos (by omega)] at hs2
        subst hs2
        go_enter Tryz.func91, Tryz.ntmps91
        go_wp2_with (first
          | (go_at_call 90; refine (hval _).mono ?_; rintro e w1 ⟨rfl, hb1⟩; obtain ⟨q0, q1, q2, q3, q4, q5⟩ := HC.out w1 hb1)
          | (go_at_call 110; refine (hcut _).mono ?_; rintro e w2 ⟨rfl, hb2⟩; obtain ⟨p0, p1, p2, p3, p4, p5⟩ := HC.out w2 (hb1.trans (hb2.mono hb1.size)); have B2 := (hVB.trans (hb1.mono hVB.size)).trans (hb2.mono (Nat.le_trans hVB.size hb1.size))))
        go_quiet (fail)
        go_wp2
        go_ret2
        exact ⟨rfl, below_draws B2 _⟩
      · rw [if_neg (by omega)] at hs2
        subst hs2
        go_enter Tryz.func91, Tryz.ntmps91
        go_wp2_with (first
          | (go_at_call 90; refine (hval _).mono ?_; rintro e w1 ⟨rfl, hb1⟩; obtain ⟨q0, q1, q2, q3, q4, q5⟩ := HC.out w1 hb1)
          | (go_at_call 110; refine (hcut _).mono ?_; rintro e w2 ⟨rfl, hb2⟩; obtain ⟨p0, p1, p2, p3, p4, p5⟩ := HC.out w2 (hb1.trans (hb2.mono hb1.size)); have B2 := (hVB.trans (hb1.mono hVB.size)).trans (hb2.mono (Nat.le_trans hVB.size hb1.size))))
        go_quiet (fail)
        go_wp2
        go_ret2
        exact ⟨rfl, below_draws B2 _⟩
    · rw [if_pos he] at hs2
      subst hs2
      have he0 : (e == 0) = false := beq_eq_false_iff_ne.2 he
      clear he
      go_enter Tryz.func91, Tryz.ntmps91
      go_wp2_with (first
        | (go_at_call 90; refine (hval _).mono ?_; rintro e w1 ⟨rfl, hb1⟩; obtain ⟨q0, q1, q2, q3, q4, q5⟩ := HC.out w1 hb1)
        | (go_at_call 110; refine (hcut _).mono ?_; rintro e w2 ⟨rfl, hb2⟩))
      go_ret2
      exact ⟨rfl, (hVB.trans (hb1.mono hVB.size)).trans (hb2.mono (Nat.le_trans hVB.size hb1.size))⟩
end Go.Proofs.Dc
/- E3: The reference's Get, Same. -/
namespace Go.Proofs.Dc
open Go.RowKit Go.Proofs Go.Lib Go.Maps

set_option maxRecDepth 100000 in
set_option maxHeartbeats 1000000 in
theorem refGet_any (w : World) (r base : Nat) (v : Value) (L : List Doc) (h : RV w r base v L) (u : ByteArray) (hL : L.length ≤ 1000000) :
    Calls Tryz.prog 62 #[.pointer (some ⟨r, 0, none⟩), .string u] w fun e w' => e = .returned (.tuple #[docVal ((getD? L u.data.toList).getD doc0), .bool (getD? L u.data.toList).isSome]) ∧ Below w.heap.size w w' := by
  have bV : Below w.heap.size w (w.alloc (.cells #[.string ⟨#[]⟩, .string ⟨#[]⟩, .int .i64 0] 53)) := (Below.refl w.heap.size w).alloc (Nat.le_refl _) _
  have hV := h.below bV
  have hat := at_any _ r base v L hV u hL
  have hc := hV.cell
  rcases at_get L u.data.toList with ⟨h1, h2⟩ | ⟨k, d, h1, _, h3, h4, _⟩
  · rw [h1]
    rw [h2] at hat
    clear h hV hc h1 h2
    go_enter Tryz.func62, Tryz.ntmps62
    go_wp2_with (first | (go_at_call 89; refine hat.mono ?_; rintro e w1 ⟨rfl, hw⟩; subst w1))
    exact bodyPost_ret (v := .tuple #[.agg #[.string ⟨#[]⟩, .string ⟨#[]⟩, .int .i64 0], .bool false]) (by simp [results, Tryz.results62, go_sem]) rfl ⟨rfl, bV⟩
  · rw [h3]
    rw [h4] at hat
    obtain ⟨p, cap, rfl, hcap, hdocs⟩ := hV.docs
    obtain ⟨a, rfl, hA⟩ := hdocs k d h1
    have hk : (k : Int) < (L.length : Int) := by have := (List.getElem?_eq_some_iff.1 h1).1; omega
    obtain ⟨c0, c1, c2⟩ := hA
    have hbs : a.block ≠ w.heap.size := by
      have hr := hV.row
      rcases hr.2 with ⟨h5, _⟩ | ⟨g, cp, cur, h5, h6, h7, _⟩
      · cases h5
      · intro e
        have h8 : g = w.heap.size := by rw [← e]; cases h5; rfl
        have hr2 := h.row
        rcases hr2.2 with ⟨h9, _⟩ | ⟨g2, _, _, h9, _, h10, _⟩
        · cases h9
        · cases h9; cases h5
          have := (Array.getElem?_eq_some_iff.1 h10).1
          omega
    clear h hV h1 h3 h4 hdocs
    obtain ⟨A, hA⟩ : ∃ A : ByteArray, (⟨d.uri.toArray⟩ : ByteArray) = A := ⟨_, rfl⟩
    obtain ⟨E, hE⟩ : ∃ A : ByteArray, (⟨d.text.toArray⟩ : ByteArray) = A := ⟨_, rfl⟩
    unfold docVal
    simp only [Option.getD_some, Option.isSome_some]
    rw [hA] at c0 ⊢
    rw [hE] at c1 ⊢
    clear hA hE
    go_enter Tryz.func62, Tryz.ntmps62
    go_wp2_with (first | (go_at_call 89; refine hat.mono ?_; rintro e w1 ⟨rfl, hw⟩; subst w1))
    exact bodyPost_ret (v := .tuple #[.agg #[.string A, .string E, .int .i64 d.ver], .bool true]) (by simp [results, Tryz.results62, go_sem]) rfl ⟨rfl, (Below.refl _ _).alloc (Nat.le_refl _) _⟩
end Go.Proofs.Dc
/- E4: The reference's Same. -/
namespace Go.Proofs.Dc
open Go.RowKit Go.Proofs Go.Lib Go.Maps

/-- documents as a slice's cells -/
def SliceD (w : World) (v : Value) (L : List Doc) : Prop := ∃ (p : Option Addr) (cap : Nat), v = .slice p L.length cap ∧ L.length ≤ cap ∧ ∀ q d, L[q]? = some d → ∃ a, p = some a ∧ DocA w (a.add (q * 3)) d
theorem SliceD.below {w w' : World} {v : Value} {L : List Doc} (h : SliceD w v L) (hb : Below w.heap.size w w') : SliceD w' v L := by
  obtain ⟨p, cap, h1, h2, h3⟩ := h
  exact ⟨p, cap, h1, h2, fun q d hd => by obtain ⟨a, ha, hA⟩ := h3 q d hd; exact ⟨a, ha, hA.below hb⟩⟩
theorem RV.slice {w : World} {r base : Nat} {v : Value} {L : List Doc} (h : RV w r base v L) : SliceD w v L := h.docs
theorem own_slice {w : World} {B : Nat} {v : Value} {L : List Doc} (h : w.ownsRow B 53 3 v L.length (docCells L)) : SliceD w v L := by
  obtain ⟨p, cap, h1, h2, _, h4⟩ := row_docs h
  exact ⟨p, cap, h1, h2, h4⟩
theorem list_ne {a b : List UInt8} (h : a ≠ b) : ¬ (⟨a.toArray⟩ : ByteArray).toList = (⟨b.toArray⟩ : ByteArray).toList := by
  rw [ByteArray.toList_eq, ByteArray.toList_eq]
  exact h
set_option maxRecDepth 100000 in
set_option maxHeartbeats 4000000 in
theorem same_any (w : World) (v1 v2 : Value) (L1 L2 : List Doc) (h1 : SliceD w v1 L1) (h2 : SliceD w v2 L2) (hz : L1.length ≤ 1000000) (_hz2 : L2.length ≤ 1000000) :
    Calls Tryz.prog 60 #[v1, v2] w fun e w' => e = .returned (.bool (decide (L1 = L2))) ∧ Below w.heap.size w w' := by
  obtain ⟨p, cp, rfl, hcp, hd1⟩ := h1
  obtain ⟨q, cq, rfl, hcq, hd2⟩ := h2
  obtain ⟨R, hR⟩ : ∃ R, decide (L1 = L2) = R := ⟨_, rfl⟩
  rw [hR]
  have HR := Lib.hid hR
  clear hR
  by_cases hl : L1.length = L2.length
  · have hl0 : ((L1.length : Int) == (L2.length : Int)) = true := by rw [hl]; simp
    have H1 : Hid (∀ wr, Below w.heap.size w wr → ∀ k d, L1[k]? = some d → ∃ a, p = some a ∧ DocA wr (a.add (k * 3)) d) := Lib.hid fun wr hb k d hk => by
      obtain ⟨a, ha, hA⟩ := hd1 k d hk; exact ⟨a, ha, hA.below hb⟩
    have H2 : Hid (∀ wr, Below w.heap.size w wr → ∀ k d, L2[k]? = some d → ∃ a, q = some a ∧ DocA wr (a.add (k * 3)) d) := Lib.hid fun wr hb k d hk => by
      obtain ⟨a, ha, hA⟩ := hd2 k d hk; exact ⟨a, ha, hA.below hb⟩
    have HL := Lib.hid hl
    obtain ⟨n, hn⟩ : ∃ n, L1.length = n := ⟨_, rfl⟩
    have hn2 : L2.length = n := by omega
    simp only [hn, hn2] at hcp hcq hz ⊢
    have HN1 := Lib.hid hn
    have HN2 := Lib.hid hn2
    clear hd1 hd2 hl hn hn2 hl0
    have hl0 : ((n : Int) == (n : Int)) = true := by simp
    go_enter Tryz.func60, Tryz.ntmps60
    go_wp2
    go_loopw [5] (fun v wr => ∃ k : Nat, v = .int .i64 k ∧ k ≤ n ∧ (∀ j, j < k → L1[j]? = L2[j]?) ∧ Below w.heap.size w wr) (fun v _ => n - (RowKit.intOf v).toNat)
    case atStart => exact ⟨0, rfl, Nat.zero_le _, fun j hj => by omega, Below.refl _ _⟩
    case round =>
      obtain ⟨k, rfl, hk, hs, hB⟩ := hrel
      have HS := Lib.hid hs
      clear hs
      by_cases hkn : (k : Int) < (n : Int)
      · obtain ⟨d, hd⟩ : ∃ d, L1[k]? = some d := ⟨_, List.getElem?_eq_getElem (by have := HN1.out; omega)⟩
        obtain ⟨d', hd'⟩ : ∃ d, L2[k]? = some d := ⟨_, List.getElem?_eq_getElem (by have := HN2.out; omega)⟩
        have hBd := hB.drew
        obtain ⟨a, rfl, hA⟩ := H1.out wr hB k d hd
        obtain ⟨b, rfl, hA'⟩ := H2.out wr hB k d' hd'
        obtain ⟨c0, c1, c2⟩ := hA
        obtain ⟨e0, e1, e2⟩ := hA'
        have HD := Lib.hid hd
        have HD' := Lib.hid hd'
        clear hd hd'
        by_cases hdd : d = d'
        · subst hdd
          obtain ⟨U, hU⟩ : ∃ U : ByteArray, (⟨d.uri.toArray⟩ : ByteArray) = U := ⟨_, rfl⟩
          obtain ⟨T, hT⟩ : ∃ U : ByteArray, (⟨d.text.toArray⟩ : ByteArray) = U := ⟨_, rfl⟩
          rw [hU] at c0 e0
          rw [hT] at c1 e1
          clear hU hT
          go_wp2
          go_quiet (fail)
          go_wp2
          go_roundw
          case rel => exact ⟨k + 1, by go_num, by omega, fun j hj => by
            by_cases e : j = k
            · subst e; rw [HD.out, HD'.out]
            · exact HS.out j (by omega), below_draws hB _⟩
          case measure => simp [RowKit.intOf]; omega
        · have hfin : decide (L1 = L2) = false := decide_eq_false fun e => hdd (Option.some.inj (HD.out.symm.trans (by rw [e]; exact HD'.out)))
          obtain rfl : R = false := HR.out.symm.trans hfin
          clear hfin
          by_cases n0 : d.uri = d'.uri
          · obtain ⟨U, hU⟩ : ∃ U : ByteArray, (⟨d.uri.toArray⟩ : ByteArray) = U := ⟨_, rfl⟩
            rw [← n0, hU] at e0
            rw [hU] at c0
            clear hU
            by_cases n1 : d.text = d'.text
            · obtain ⟨T, hT⟩ : ∃ U : ByteArray, (⟨d.text.toArray⟩ : ByteArray) = U := ⟨_, rfl⟩
              rw [← n1, hT] at e1
              rw [hT] at c1
              clear hT
              have n2 : ¬ d.ver = d'.ver := fun e => hdd (by cases d; cases d'; simp_all)
              clear hdd n0 n1
              go_wp2
              go_quiet (fail)
              go_wp2
              go_ret
              exact ⟨rfl, below_draws hB _⟩
            · have n1' := list_ne n1
              obtain ⟨T, hT⟩ : ∃ U : ByteArray, (⟨d.text.toArray⟩ : ByteArray) = U := ⟨_, rfl⟩
              obtain ⟨T', hT'⟩ : ∃ U : ByteArray, (⟨d'.text.toArray⟩ : ByteArray) = U := ⟨_, rfl⟩
              rw [hT] at c1 n1'
              rw [hT'] at e1 n1'
              clear hT hT' hdd n0 n1
              go_wp2
              go_quiet (fail)
              go_wp2
              go_ret
              exact ⟨rfl, below_draws hB _⟩
          · have n0' := list_ne n0
            obtain ⟨U, hU⟩ : ∃ U : ByteArray, (⟨d.uri.toArray⟩ : ByteArray) = U := ⟨_, rfl⟩
            obtain ⟨U', hU'⟩ : ∃ U : ByteArray, (⟨d'.uri.toArray⟩ : ByteArray) = U := ⟨_, rfl⟩
            rw [hU] at c0 n0'
            rw [hU'] at e0 n0'
            clear hU hU' hdd n0
            go_wp2
            go_quiet (fail)
            go_wp2
            go_ret
            exact ⟨rfl, below_draws hB _⟩
      · have hfin : decide (L1 = L2) = true := decide_eq_true (List.ext_getElem? fun j => by
          by_cases hj : j < k
          · exact HS.out j hj
          · rw [List.getElem?_eq_none (by have := HN1.out; omega), List.getElem?_eq_none (by have := HN2.out; omega)])
        obtain rfl : R = true := HR.out.symm.trans hfin
        go_wp2
        go_ret
        exact ⟨rfl, hB⟩
  · have hfin : decide (L1 = L2) = false := decide_eq_false fun e => hl (by rw [e])
    have hl0 : ((L1.length : Int) == (L2.length : Int)) = false := beq_eq_false_iff_ne.2 (by omega)
    obtain rfl : R = false := HR.out.symm.trans hfin
    clear hd1 hd2
    go_enter Tryz.func60, Tryz.ntmps60
    go_wp2
    go_ret
    exact ⟨rfl, Below.refl _ _⟩
end Go.Proofs.Dc
/- E5: The reference's Close. -/
namespace Go.Proofs.Dc
open Go.RowKit Go.Proofs Go.Lib Go.Maps

theorem set_box {w : World} {r : Nat} {t : TypeId} {v : Value} (v2 : Value) (h : w.heap[r]? = some (.cells #[v] t (0, 0))) : (w.setCell ⟨r, 0, none⟩ v2).heap[r]? = some (.cells #[v2] t (0, 0)) := by
  rw [setCell_eq_setRow w r 0 #[v] t (0, 0) v2 h, setRow_heap w r #[v] _ t (0, 0) h]
  rfl
theorem grown_box {w : World} {r : Nat} {t : TypeId} {v : Value} (v2 : Value) (h : w.heap[r]? = some (.cells #[v] t (0, 0))) : w.grownBy (w.setCell ⟨r, 0, none⟩ v2) (some r) := by
  rw [setCell_eq_setRow w r 0 #[v] t (0, 0) v2 h]
  exact ⟨rfl, rfl, rfl, by simp, fun k _ hk => setRow_other w r k _ (fun e => hk (by rw [e]))⟩
theorem docCells_app (A B : List Doc) : docCells (A ++ B) = docCells A ++ docCells B := by simp [docCells]
theorem docCells_ones (L : List Doc) : ∀ u ∈ docCells L, u.oneCell' = true := fun u hu => by
  unfold docCells at hu
  obtain ⟨d, _, hd⟩ := List.mem_flatMap.1 hu
  exact docCell_ones d u hd
/-- a part of the row, from a document on -/
theorem src_docs {w : World} {base g n cap : Nat} {L : List Doc} (h : w.ownsRow base 53 3 (.slice (some ⟨g, 0, none⟩) n cap) n (docCells L)) (hn : n = L.length) (k : Nat) (hk : k ≤ n) : ∀ j u, (docCells (L.drop k))[j]? = some u → w.cell? ⟨g, k * 3 + j, none⟩ = some u := fun j u hu => by
  have hl : j < (L.drop k).length * 3 := by
    have := (List.getElem?_eq_some_iff.1 hu).1
    rw [docCells_length] at this
    exact this
  rw [List.length_drop] at hl
  rw [h.cellAt (k * 3 + j) (by omega)]
  conv => lhs; rw [← List.take_append_drop k L, docCells_app]
  have ht : (docCells (L.take k)).length = k * 3 := by rw [docCells_length, List.length_take, Nat.min_eq_left (by omega)]
  rw [List.getElem?_append_right (by omega), ht, show k * 3 + j - k * 3 = j by omega]
  exact hu
theorem src_take {w : World} {base g n cap : Nat} {L : List Doc} (h : w.ownsRow base 53 3 (.slice (some ⟨g, 0, none⟩) n cap) n (docCells L)) (hn : n = L.length) (k : Nat) (hk : k ≤ n) : ∀ j u, (docCells (L.take k))[j]? = some u → w.cell? ⟨g, j, none⟩ = some u := fun j u hu => by
  have hl : j < (L.take k).length * 3 := by
    have := (List.getElem?_eq_some_iff.1 hu).1
    rw [docCells_length] at this
    exact this
  rw [List.length_take] at hl
  rw [h.cellAt j (by omega)]
  conv => lhs; rw [← List.take_append_drop k L, docCells_app]
  rw [List.getElem?_append_left (by rw [docCells_length, List.length_take]; omega)]
  exact hu
theorem add_off (g o j : Nat) : (⟨g, o, none⟩ : Addr).add j = ⟨g, o + j, none⟩ := by unfold Addr.add; split <;> simp_all
theorem run_tail (g n cap l : Nat) (h1 : l ≤ n) (h2 : n ≤ cap) :
    ∃ o c, (o = l * 3 ∨ n - l = 0) ∧ ∀ W, (Instr.slice 28 (.slice (some ⟨g, 0, none⟩) n cap) (some (.int .i64 (l : Int))) none none).run Tryz.prog W = .ok (.slice (some ⟨g, o, none⟩) (n - l) c) W := by
  have he : Tryz.prog.elem 28 = 53 := by simp [Program.elem, Tryz.underlying28]
  have ht : Tryz.prog.underlying 28 = some (.slice (Tryz.prog.elem 28)) := by rw [he]; exact Tryz.underlying28
  by_cases h0 : cap = l
  · refine ⟨0, cap - l, .inr (by omega), fun W => ?_⟩
    rw [run_slice_l W 28 _ _ _ ht .i64 _ (by omega) (by omega), he, size38]
    simp [Result.andThen, sliced, h0]
  · refine ⟨l * 3, cap - l, .inl rfl, fun W => ?_⟩
    rw [run_slice_l W 28 _ _ _ ht .i64 _ (by omega) (by omega), he, size38]
    by_cases h1 : l = 0
    · subst h1; simp [Result.andThen, sliced, Addr.add, h0]
    · have h4 : ¬ l * 3 = 0 := by omega
      simp [Result.andThen, sliced, Addr.add, h0, h4]
/-- one document less, in an ordered list -/
theorem without_at {u : List UInt8} : ∀ {L : List Doc} {k : Nat} {d : Doc}, Ord L → L[k]? = some d → d.uri = u → without u L = L.take k ++ L.drop (k + 1)
  | [], _, _, _, h, _ => by cases h
  | y :: r, 0, d, ho, h, hu => by
    obtain rfl := Option.some.inj h
    obtain ⟨h1, _⟩ := List.pairwise_cons.1 ho
    have hr : without u r = r := by
      unfold without
      refine List.filter_eq_self.2 fun z hz => ?_
      have := h1 z hz
      simp only [Bool.not_eq_eq_eq_not, Bool.not_true, beq_eq_false_iff_ne]
      intro e
      rw [e, ← hu, bb_irrefl] at this
      cases this
    show List.filter _ (y :: r) = _
    rw [List.filter_cons, if_neg (by simp [hu])]
    exact hr
  | y :: r, k + 1, d, ho, h, hu => by
    obtain ⟨h1, h2⟩ := List.pairwise_cons.1 ho
    have h3 : r[k]? = some d := h
    have hy : y.uri ≠ u := fun e => by
      have := h1 d (List.mem_of_getElem? h3)
      rw [e, ← hu, bb_irrefl] at this
      cases this
    show List.filter _ (y :: r) = _
    rw [List.filter_cons, if_pos (by simpa using hy)]
    exact congrArg (y :: ·) (without_at h2 h3 hu)
/-- what a call leaves of the reference's slice -/
def NewOr (w : World) (v v' : Value) : Prop := v' = v ∨ ∀ k, v'.ownBlock = some k → w.heap.size ≤ k
end Go.Proofs.Dc
/- E6: The reference's Close: the walk. -/
namespace Go.Proofs.Dc
open Go.RowKit Go.Proofs Go.Lib Go.Maps

theorem own_shape {w : World} {base e size n : Nat} {v : Value} {xs : List Value} (h : w.ownsRow base e size v n xs) : ∃ (p : Option Addr) (cap : Nat), v = .slice p n cap := by
  rcases h.2 with ⟨rfl, h0⟩ | ⟨g, cap, cur, h1, _⟩
  · exact ⟨none, 0, by rw [h0]⟩
  · exact ⟨_, _, h1⟩
set_option maxRecDepth 100000 in
set_option maxHeartbeats 4000000 in
theorem refClose_any (w : World) (r base : Nat) (v : Value) (L : List Doc) (h : RV w r base v L) (hO : Ord L) (u : ByteArray) (hL : L.length ≤ 1000000) :
    Calls Tryz.prog 56 #[.pointer (some ⟨r, 0, none⟩), .string u] w fun e w' => e = .returned (.int .i64 (closeE L u.data.toList)) ∧ ∃ v', RV w' r base v' (without u.data.toList L) ∧ w.grownBy w' (some r) ∧ NewOr w v v' := by
  have hat := at_any w r base v L h u hL
  have hc := h.cell
  unfold closeE
  rcases at_get L u.data.toList with ⟨h1, h2⟩ | ⟨k, d, h1, hu, h3, h4, _⟩
  · rw [h1, without_none h1]
    rw [h2] at hat
    have H := Lib.hid h
    clear h h1 h2 hO
    go_enter Tryz.func56, Tryz.ntmps56
    go_wp2_with (first | (go_at_call 89; refine hat.mono ?_; rintro e w1 ⟨rfl, hw⟩; subst w1))
    go_ret
    exact ⟨rfl, v, H.out, World.grownBy.refl _ _, .inl rfl⟩
  · rw [h3, without_at hO h1 hu]
    rw [h4] at hat
    simp only [Option.isSome_some, if_pos]
    have hk : k < L.length := (List.getElem?_eq_some_iff.1 h1).1
    have hrow := h.row
    rcases hrow.2 with ⟨_, h5⟩ | ⟨g, cap, cur, rfl, hbg, hg, hlc, hcm, _⟩
    · omega
    obtain ⟨n, hn⟩ : ∃ n, L.length = n := ⟨_, rfl⟩
    rw [hn] at hrow hk hL hlc hc ⊢
    have s1 := src_take hrow hn.symm k (by omega)
    have s2 := src_docs hrow hn.symm (k + 1) (by omega)
    have r1 : (docCells (L.take k)).length = k * 3 := by rw [docCells_length, List.length_take]; congr 1; omega
    have r2 : (docCells (L.drop (k + 1))).length = (n - (k + 1)) * 3 := by rw [docCells_length, List.length_drop, hn]
    obtain ⟨o, c, ho, hsl⟩ := run_tail g n cap (k + 1) (by omega) hlc
    simp only [Int.natCast_add, Int.natCast_one] at hsl
    obtain ⟨i0, hi, hz0, hz1, hz2⟩ := infoP info38
    have hlt := h.lt
    have hglt := (Array.getElem?_eq_some_iff.1 hg).1
    have hbr := h.lo
    have hrg : r ≠ g := by
      rintro rfl
      have := h.hd.symm.trans hg
      cases this
    have hfin : k + (n - (k + 1)) = (L.take k ++ L.drop (k + 1)).length := by rw [List.length_append, List.length_take, List.length_drop]; omega
    have hap : docCells (L.take k ++ L.drop (k + 1)) = docCells (L.take k) ++ docCells (L.drop (k + 1)) := docCells_app _ _
    have hki : (k : Int) < (n : Int) := by omega
    have hk2 : (k : Int) ≤ (cap : Int) := by omega
    have q1 : IntKind.i64.wrap ((k : Int) + 1) = (k : Int) + 1 := IntWalk.i64_in _ (by omega)
    have hlo1 : ¬ (k : Int) < 0 := by omega
    have hnews1 : ∀ w1, Below w.heap.size w w1 → ∀ j x, (docCells (L.take k))[j]? = some x → w1.cell? ((⟨g, 0, none⟩ : Addr).add j) = some x := fun w1 hb j x hx => by
      rw [add_off, Nat.zero_add]
      exact (hb.cell (p := ⟨g, j, none⟩) hglt).trans (s1 j x hx)
    have hnews2 : ∀ w1, Below w.heap.size w w1 → ∀ j x, (docCells (L.drop (k + 1)))[j]? = some x → w1.cell? ((⟨g, o, none⟩ : Addr).add j) = some x := fun w1 hb j x hx => by
      rw [add_off]
      rcases ho with ho | ho
      · rw [ho]
        exact (hb.cell (p := ⟨g, (k + 1) * 3 + j, none⟩) hglt).trans (s2 j x hx)
      · have := (List.getElem?_eq_some_iff.1 hx).1
        rw [r2, ho] at this
        omega
    have o1 := docCells_ones (L.take k)
    have o2 := docCells_ones (L.drop (k + 1))
    have HH := Lib.hid h.hd
    have HF := Lib.hid hfin
    have HAP := Lib.hid hap
    have HN2 := Lib.hid hnews2
    have HN1 := Lib.hid hnews1
    have HR1 := Lib.hid r1
    have HR2 := Lib.hid r2
    have HHG := Lib.hid hg
    clear h hO h1 hu h3 h4 hrow hn s1 s2 r1 r2 ho hfin hap hnews1 hnews2 hg
    generalize docCells (L.take k) = C1 at *
    generalize docCells (L.drop (k + 1)) = C2 at *
    go_enter Tryz.func56, Tryz.ntmps56
    go_wp2_with (first
      | (go_at_call 89; refine hat.mono ?_; rintro e w' ⟨rfl, hw⟩; subst hw)
      | (at_builtin; refine wpList_append_own _ rfl (.tmp 12) (.tmp 18) 28 rfl w.heap.size 53 i0 _ 3 40 Tryz.underlying28 hi hz0 hz1 hz2 rfl (by decide) _ _ _ rfl (World.ownsRow_nil _ _ _ _) ⟨g, 0, none⟩ k _ C1 rfl HR1.out (HN1.out _ (Below.refl _ _)) o1 (by unfold maxLen; omega) (by omega) (Nat.le_refl _) ?_; intro v1 w1 hown1 hg1 hnil1
         have hb1 : Below w.heap.size w w1 := (Below.refl _ _).grown hg1 (Nat.le_refl _) (fun q hq => by cases hq)
         have c1 := (hb1.cell (p := ⟨r, 0, none⟩) hlt).trans hc
         simp only [Nat.zero_add, List.nil_append] at hown1
         obtain ⟨p1, cp1, rfl⟩ := own_shape hown1
         clear hnil1)
      | (at_builtin; refine wpList_append_own _ rfl (.tmp 21) (.tmp 28) 28 rfl w.heap.size 53 i0 _ 3 40 Tryz.underlying28 hi hz0 hz1 hz2 rfl (by decide) _ _ _ rfl hown1 ⟨g, o, none⟩ (n - (k + 1)) c C2 rfl HR2.out (HN2.out _ hb1) o2 (by unfold maxLen; omega) (by omega) hb1.size ?_; intro v2 w2 hown2 hg2 hnil2
         have hb2 := hb1.grown hg2 hb1.size (fun q hq => (hown1.lt q hq).1)
         have c2 := (hb2.cell (p := ⟨r, 0, none⟩) hlt).trans hc
         have hh2 := (hb2.block r hlt).trans HH.out
         have HH2 := Lib.hid hh2
         have f2 : w2.frozen? ⟨r, 0, none⟩ = false := (by simp [World.frozen?, hh2])
         obtain ⟨p2, cp2, rfl⟩ := own_shape hown2
         clear hnil2 hh2))
    go_ret
    have g2 : w.grownBy w2 (some r) := gb_below hb2
    have hlt2 := hown2.lt
    rw [HF.out] at hown2 hlt2 ⊢
    refine ⟨rfl, _, ⟨set_box _ HH2.out, ?_, hbr⟩, g2.trans (grown_box _ HH2.out), .inr fun q hq => (hown2.lt q hq).1⟩
    rw [HAP.out]
    exact own_kept (hown2.mono (by omega)) (grown_box _ HH2.out) (.inl fun e => by have := (hlt2 r e).1; omega)
end Go.Proofs.Dc
/- E7: The reference's Open. -/
namespace Go.Proofs.Dc
open Go.RowKit Go.Proofs Go.Lib Go.Maps

/-- where a new document goes -/
theorem ins_at {x : Doc} : ∀ {L : List Doc} {k : Nat}, (∀ j d, j < k → L[j]? = some d → bytesBefore d.uri x.uri = true) → (∀ d, L[k]? = some d → bytesBefore d.uri x.uri = false) → (∀ d ∈ L, d.uri ≠ x.uri) → k ≤ L.length → insD x L = L.take k ++ x :: L.drop k
  | [], k, _, _, _, hk => by
    obtain rfl : k = 0 := by simpa using hk
    rfl
  | y :: r, 0, _, h2, h3, _ => by
    have h := h2 y rfl
    have hne := h3 y List.mem_cons_self
    have : bytesBefore x.uri y.uri = true := by
      cases hb : bytesBefore x.uri y.uri with
      | true => rfl
      | false => exact absurd (bb_total h hb) hne
    rw [insD, if_pos this]
    rfl
  | y :: r, k + 1, h1, h2, h3, hk => by
    have h := h1 0 y (by omega) rfl
    rw [insD, if_neg (by rw [bb_asymm h]; decide)]
    show y :: insD x r = y :: (r.take k ++ x :: r.drop k)
    rw [ins_at (fun j d hj hd => h1 (j + 1) d (by omega) hd) h2 (fun d hd => h3 d (List.mem_cons_of_mem _ hd)) (by simpa using hk)]
theorem get_none_all {L : List Doc} {u : List UInt8} (h : getD? L u = none) : ∀ d ∈ L, d.uri ≠ u := fun d hd e => by
  unfold getD? at h
  rw [List.find?_eq_none] at h
  have := h d hd
  simp [e] at this
set_option maxRecDepth 100000 in
set_option maxHeartbeats 4000000 in
theorem refOpen_any (w : World) (r base : Nat) (v : Value) (L : List Doc) (h : RV w r base v L) (hO : Ord L) (u t : ByteArray) (ver : Int) (hL : L.length ≤ 32) (hu : u.size ≤ 1000000) (ht : t.size ≤ 1000000) :
    Calls Tryz.prog 53 #[.pointer (some ⟨r, 0, none⟩), .string u, .string t, .int .i64 ver] w fun e w' => e = .returned (.int .i64 (openE L u.data.toList t.data.toList)) ∧ ∃ v', RV w' r base v' (openL L u.data.toList t.data.toList ver) ∧ w.grownBy w' (some r) ∧ NewOr w v v' := by
  have hdir := fun w => rdir_any u w hu
  have hat := fun w1 hb => at_any w1 r base v L (h.below hb) u (by omega)
  have hval := fun w => YtcenfckjkboabaaGreatDoor.refValid_any t w (by omega)
  rw [Utf.valid_eq _ _ 0 (Nat.le_refl _)] at hval
  obtain ⟨dn, hdn⟩ := dirVal_ok (dirV u.data.toList)
  rw [hdn] at hdir
  obtain ⟨E, hE⟩ : ∃ E, openE L u.data.toList t.data.toList = E := ⟨_, rfl⟩
  have hno : E ≠ 0 → openL L u.data.toList t.data.toList ver = L := fun e => by unfold openL; rw [hE]; exact if_neg e
  have hyes : E = 0 → openL L u.data.toList t.data.toList ver = putD ⟨u.data.toList, t.data.toList, ver⟩ L := fun e => by unfold openL; rw [hE]; exact if_pos e
  rw [hE]
  unfold openE mayE at hE
  rw [← Lib.size_eq] at hE
  generalize openL L u.data.toList t.data.toList ver = LL at hno hyes ⊢
  have HNO : Hid (E ≠ 0 → LL = L) := Lib.hid hno
  have HYES := Lib.hid hyes
  have H := Lib.hid h
  have HB : Hid (∀ w1, Below w.heap.size w w1 → ∃ v', RV w1 r base v' L ∧ w.grownBy w1 (some r) ∧ NewOr w v v') := Lib.hid fun w1 hb => ⟨v, h.below hb, gb_below hb, .inl rfl⟩
  clear hno hyes hdn
  cases hd : (dirV u.data.toList).isSome with
  | false =>
    rw [hd] at hE hdir
    rw [if_pos rfl] at hE
    subst hE
    obtain rfl := HNO.out (by decide)
    clear h hat hval hd
    go_enter Tryz.func53, Tryz.ntmps53
    go_wp2_with (first | (go_at_call 13; refine (hdir _).mono ?_; rintro e w1 ⟨rfl, hb1⟩))
    go_ret
    exact ⟨rfl, HB.out _ hb1⟩
  | true =>
  rw [hd] at hE hdir
  rw [if_neg (by decide)] at hE
  clear hd
  rcases at_get L u.data.toList with ⟨g1, g2⟩ | ⟨k, d, g1, _, g3, g4, _⟩
  · rw [g1, if_neg (by simp)] at hE
    rw [g2] at hat
    have hc := fun w1 (hb : Below w.heap.size w w1) => (h.below hb).cell
    obtain ⟨p0, cap0, hv0, hcap0, hdocs⟩ := h.docs
    by_cases h32 : (L.length : Int) = 32
    · rw [if_pos (by omega)] at hE
      subst hE
      obtain rfl := HNO.out (by decide)
      subst hv0
      have hc1 := fun w1 hb => hc w1 hb
      have hl : ((LL.length : Int) == 32) = true := by rw [h32]; rfl
      clear h hval g1 g2 hdocs hc
      go_enter Tryz.func53, Tryz.ntmps53
      go_wp2_with (first
        | (go_at_call 13; refine (hdir _).mono ?_; rintro e w1 ⟨rfl, hb1⟩; have cc := hc1 _ hb1)
        | (go_at_call 89; refine (hat _ hb1).mono ?_; rintro e w2 ⟨rfl, hw⟩; subst w2))
      go_ret
      exact ⟨rfl, HB.out _ hb1⟩
    rw [if_neg (by omega)] at hE
    cases hvv : validD t.data.toList with
    | false =>
      rw [hvv] at hE hval
      rw [if_pos rfl] at hE
      subst hE
      obtain rfl := HNO.out (by decide)
      subst hv0
      have hl : ((LL.length : Int) == 32) = false := beq_eq_false_iff_ne.2 h32
      clear h g1 g2 hdocs hvv
      go_enter Tryz.func53, Tryz.ntmps53
      go_wp2_with (first
        | (go_at_call 13; refine (hdir _).mono ?_; rintro e w1 ⟨rfl, hb1⟩; have cc := hc _ hb1)
        | (go_at_call 89; refine (hat _ hb1).mono ?_; rintro e w2 ⟨rfl, hw⟩; subst w2)
        | (go_at_call 90; refine (hval _).mono ?_; rintro e w3 ⟨rfl, hb3⟩))
      go_ret
      exact ⟨rfl, HB.out _ (hb1.trans (hb3.mono hb1.size))⟩
    | true =>
    rw [hvv] at hE hval
    rw [if_neg (by decide)] at hE
    have hl : ((L.length : Int) == 32) = false := beq_eq_false_iff_ne.2 h32
    by_cases hts : (65536 : Int) < (t.size : Int)
    · rw [if_pos (by omega)] at hE
      subst hE
      obtain rfl := HNO.out (by decide)
      subst hv0
      clear h g1 g2 hdocs hvv
      go_enter Tryz.func53, Tryz.ntmps53
      go_wp2_with (first
        | (go_at_call 13; refine (hdir _).mono ?_; rintro e w1 ⟨rfl, hb1⟩; have cc := hc _ hb1)
        | (go_at_call 89; refine (hat _ hb1).mono ?_; rintro e w2 ⟨rfl, hw⟩; subst w2)
        | (go_at_call 90; refine (hval _).mono ?_; rintro e w3 ⟨rfl, hb3⟩))
      go_ret
      exact ⟨rfl, HB.out _ (hb1.trans (hb3.mono hb1.size))⟩
    rw [if_neg (by omega)] at hE
    subst hE
    obtain rfl := HYES.out rfl
    have hall := get_none_all g1
    rw [put_new (d := ⟨u.data.toList, t.data.toList, ver⟩) g1]
    have HALL := Lib.hid hall
    have HDO : Hid (∀ w1, Below w.heap.size w w1 → ∀ q d, L[q]? = some d → ∃ a, p0 = some a ∧ DocA w1 (a.add (q * 3)) d) := Lib.hid fun w1 hb q d hq => by
      obtain ⟨a, ha, hA⟩ := hdocs q d hq
      exact ⟨a, ha, hA.below hb⟩
    obtain ⟨n, hn⟩ : ∃ n, L.length = n := ⟨_, rfl⟩
    have HN := Lib.hid hn
    have hc1 : ∀ w1, Below w.heap.size w w1 → w1.cell? ⟨r, 0, none⟩ = some (.slice p0 n cap0) := fun w1 hb => by rw [hc w1 hb, hv0, hn]
    have HC := Lib.hid hc1
    rw [hn] at hl hL h32 hcap0
    obtain ⟨i0, hi, hz0, hz1, hz2⟩ := infoP info38
    have hlt := h.lt
    clear h g1 g2 hdocs hvv hall hn hc
    go_enter Tryz.func53, Tryz.ntmps53
    go_upto_block 0 with (first
      | (go_at_call 13; refine (hdir _).mono ?_; rintro e w1 ⟨rfl, hb1⟩; have cc := hc1 _ hb1)
      | (go_at_call 89; refine (hat _ hb1).mono ?_; rintro e w2 ⟨rfl, hw⟩; subst w2)
      | (go_at_call 90; refine (hval _).mono ?_; rintro e w3 ⟨rfl, hb3⟩; have B3 := hb1.trans (hb3.mono hb1.size)))
    go_cut [11, 12] (fun lv iv wx => ∃ k : Nat, k ≤ n ∧ wx.ownsRow w3.heap.size 53 3 lv k (docCells (L.take k)) ∧ (∀ j d, j < k → L[j]? = some d → bytesBefore d.uri u.data.toList = true) ∧ (∀ d, L[k]? = some d → bytesBefore d.uri u.data.toList = false) ∧ Below w3.heap.size w3 wx)
    case first =>
      go_wp2_with fail
      go_loopw [11, 12] (fun lv iv wr => ∃ k : Nat, iv = .int .i64 k ∧ k ≤ n ∧ wr.ownsRow w3.heap.size 53 3 lv k (docCells (L.take k)) ∧ (∀ j d, j < k → L[j]? = some d → bytesBefore d.uri u.data.toList = true) ∧ Below w3.heap.size w3 wr) (fun _ iv _ => n - (RowKit.intOf iv).toNat)
      case atStart => exact ⟨0, rfl, Nat.zero_le _, World.ownsRow_nil _ _ _ _, fun j d hj => by omega, Below.refl _ _⟩
      case round =>
        obtain ⟨k, rfl, hk, hown, hbe, hB⟩ := hrel
        have HBE := Lib.hid hbe
        have Bw := B3.trans (hB.mono B3.size)
        have ccr := HC.out wr Bw
        obtain ⟨pl, cl, rfl⟩ := own_shape hown
        clear hbe
        by_cases hkn : (k : Int) < (n : Int)
        · obtain ⟨d, hd⟩ : ∃ d, L[k]? = some d := ⟨_, List.getElem?_eq_getElem (by have := HN.out; omega)⟩
          obtain ⟨a, rfl, hA⟩ := HDO.out wr Bw k d hd
          obtain ⟨c0, c1, c2⟩ := hA
          have hcmp : Op.bytesLess (⟨d.uri.toArray⟩ : ByteArray).toList u.toList = bytesBefore d.uri u.data.toList := by
            rw [less_before, ByteArray.toList_eq, ByteArray.toList_eq]
          have hcells : docCells (L.take (k + 1)) = docCells (L.take k) ++ [.string ⟨d.uri.toArray⟩, .string ⟨d.text.toArray⟩, .int .i64 d.ver] := by
            rw [List.take_add_one, hd]
            exact docCells_snoc _ d
          have HD := Lib.hid hd
          have HCE := Lib.hid hcells
          clear hd hcells
          obtain ⟨U, hU⟩ : ∃ U : ByteArray, (⟨d.uri.toArray⟩ : ByteArray) = U := ⟨_, rfl⟩
          obtain ⟨T, hT⟩ : ∃ U : ByteArray, (⟨d.text.toArray⟩ : ByteArray) = U := ⟨_, rfl⟩
          rw [hU] at c0 hcmp HCE
          rw [hT] at c1 HCE
          clear hU hT
          cases hbb : bytesBefore d.uri u.data.toList with
          | true =>
            rw [hbb] at hcmp
            go_wp2_with (first
              | (at_builtin; refine wpList_append_own _ rfl (.tmp 58) (.tmp 66) 28 rfl w3.heap.size 53 i0 _ 3 40 Tryz.underlying28 hi hz0 hz1 hz2 rfl (by decide) _ _ _ rfl (hown.alloc _) ⟨wr.heap.size, 0, none⟩ 1 1 [.string U, .string T, .int .i64 d.ver] rfl rfl (YtcenfckjkboabaaGreatDoor.cells_at_new _ _ _ _ rfl) (by intro x hx; simp at hx; rcases hx with rfl | rfl | rfl <;> rfl) (by unfold maxLen; omega) (by omega) (by have := hB.size; simp; omega) ?_; intro v' w4 hown' hgrow' _))
            go_roundw
            case rel => exact ⟨k + 1, by go_num, by omega, by rw [HCE.out]; exact hown', fun j x hj hx => by
              by_cases e : j = k
              · subst e; rw [HD.out] at hx; cases hx; exact hbb
              · exact HBE.out j x (by omega) hx, (hB.alloc hB.size _).grown hgrow' (by have := hB.size; simp; omega) (fun q hq => (hown.lt q hq).1)⟩
            case measure => simp [RowKit.intOf]; omega
          | false =>
            rw [hbb] at hcmp
            go_wp2_with fail
            go_meet
            exact ⟨k, hk, hown, HBE.out, fun x hx => by rw [HD.out] at hx; cases hx; exact hbb, hB⟩
        · go_wp2_with fail
          go_meet
          exact ⟨k, hk, hown, HBE.out, fun x hx => by have := (List.getElem?_eq_some_iff.1 hx).1; have := HN.out; omega, hB⟩
    case rest =>
    obtain ⟨k, hk, hown, hbe, hbn, hB⟩ := hcut
    obtain ⟨pl, cl, rfl⟩ := own_shape hown
    have Bw := B3.trans (hB.mono B3.size)
    have hins := ins_at (x := ⟨u.data.toList, t.data.toList, ver⟩) hbe hbn (HALL.out) (by have := HN.out; omega)
    have hcells : docCells (insD ⟨u.data.toList, t.data.toList, ver⟩ L) = (docCells (L.take k) ++ [.string u, .string t, .int .i64 ver]) ++ docCells (L.drop k) := by
      rw [hins, docCells_app]
      show docCells (L.take k) ++ (docCell ⟨u.data.toList, t.data.toList, ver⟩ ++ docCells (L.drop k)) = _
      rw [← List.append_assoc]
      rfl
    have hlen : (insD (⟨u.data.toList, t.data.toList, ver⟩ : Doc) L).length = k + 1 + (n - k) := by rw [length_ins, HN.out]; omega
    have HCE := Lib.hid hcells
    have HLE := Lib.hid hlen
    clear hins hcells hlen hbe hbn
    have hbk := HC.out wc Bw
    have hz1' : (0 : Int) ≤ (k : Int) := by omega
    have hz2' : (k : Int) ≤ (n : Int) := by omega
    have hz3' : (k : Int) ≤ (cap0 : Int) := by omega
    go_upto_region 19 with (first
      | (at_builtin; refine wpList_append_own _ rfl (.tmp 70) (.tmp 75) 28 rfl w3.heap.size 53 i0 _ 3 40 Tryz.underlying28 hi hz0 hz1 hz2 rfl (by decide) _ _ _ rfl (hown.alloc _) ⟨wc.heap.size, 0, none⟩ 1 1 [.string u, .string t, .int .i64 ver] rfl rfl (YtcenfckjkboabaaGreatDoor.cells_at_new _ _ _ _ rfl) (by intro x hx; simp at hx; rcases hx with rfl | rfl | rfl <;> rfl) (by unfold maxLen; omega) (by omega) (by have := hB.size; simp; omega) ?_; intro v4 w4 hown4 hg4 _
         obtain ⟨p4, cp4, rfl⟩ := own_shape hown4
         have B4 : Below w3.heap.size w3 w4 := (hB.alloc hB.size _).grown hg4 (by have := hB.size; simp; omega) (fun q hq => (hown.lt q hq).1)))
    have B4w := B3.trans (B4.mono B3.size)
    have c4 := HC.out w4 B4w
    have hlo := H.out.lo
    have hlt3 := B3.size
    rcases H.out.row.2 with ⟨hvn, hn0⟩ | ⟨g, cap, cur, hvg, hbg, hg, hlc, hcm, _⟩
    · have hvv2 := hv0.symm.trans hvn
      obtain ⟨rfl, rfl⟩ : p0 = none ∧ cap0 = 0 := by rw [Value.slice.injEq] at hvv2; exact ⟨hvv2.1, hvv2.2.2⟩
      obtain rfl : n = 0 := by have := HN.out; omega
      obtain rfl : k = 0 := by omega
      have hdr : docCells (L.drop 0) = [] := by
        have : L = [] := List.eq_nil_of_length_eq_zero hn0
        rw [this]; rfl
      rw [hdr, List.append_nil] at HCE
      clear hdr
      go_wp2_with (first
        | (at_builtin; refine wpList_append_own_none rfl (.tmp 78) (.tmp 84) 28 rfl w3.heap.size 53 i0 3 Tryz.underlying28 hi _ _ _ rfl hown4 rfl ?_
           have hh5 := (B4w.block r hlt).trans H.out.hd
           have HH5 := Lib.hid hh5
           have f5 : w4.frozen? ⟨r, 0, none⟩ = false := (by simp [World.frozen?, hh5])
           clear hh5))
      go_ret
      have g2 : w.grownBy w4 (some r) := gb_below B4w
      have hlt5 := hown4.lt
      have hl1 := HLE.out
      rw [show 0 + 1 + (0 - 0) = 0 + 1 from rfl] at hl1
      refine ⟨rfl, _, ⟨set_box _ HH5.out, ?_, hlo⟩, g2.trans (grown_box _ HH5.out), .inr fun q hq => by have := (hlt5 q hq).1; omega⟩
      rw [HCE.out, hl1]
      exact own_kept (hown4.mono (by omega)) (grown_box _ HH5.out) (.inl fun e => by have := (hlt5 r e).1; omega)
    · have hvv2 := hv0.symm.trans hvg
      obtain ⟨rfl, rfl⟩ : p0 = some ⟨g, 0, none⟩ ∧ cap0 = cap := by cases hvv2; exact ⟨rfl, rfl⟩
      have hrow : w.ownsRow base 53 3 (.slice (some ⟨g, 0, none⟩) n cap0) n (docCells L) := by
        have := H.out.row
        rw [hvg, HN.out] at this
        exact this
      have s2 := src_docs hrow HN.out.symm k hk
      have r2 : (docCells (L.drop k)).length = (n - k) * 3 := by rw [docCells_length, List.length_drop, HN.out]
      obtain ⟨o, c, ho, hsl⟩ := run_tail g n cap0 k hk hcap0
      have hglt := (Array.getElem?_eq_some_iff.1 hg).1
      have hnews2 : ∀ w1, Below w.heap.size w w1 → ∀ j x, (docCells (L.drop k))[j]? = some x → w1.cell? ((⟨g, o, none⟩ : Addr).add j) = some x := fun w1 hb j x hx => by
        rw [add_off]
        rcases ho with ho | ho
        · rw [ho]
          exact (hb.cell (p := ⟨g, k * 3 + j, none⟩) hglt).trans (s2 j x hx)
        · have := (List.getElem?_eq_some_iff.1 hx).1
          rw [r2, ho] at this
          omega
      have o2 := docCells_ones (L.drop k)
      have HN2 := Lib.hid hnews2
      have HR2 := Lib.hid r2
      clear s2 r2 ho hnews2 hrow hg
      generalize docCells (L.drop k) = C2 at *
      go_wp2_with (first
        | (at_builtin; refine wpList_append_own _ rfl (.tmp 78) (.tmp 84) 28 rfl w3.heap.size 53 i0 _ 3 40 Tryz.underlying28 hi hz0 hz1 hz2 rfl (by decide) _ _ _ rfl hown4 ⟨g, o, none⟩ (n - k) c C2 rfl HR2.out (HN2.out _ B4w) o2 (by unfold maxLen; omega) (by omega) B4.size ?_; intro v5 w5 hown5 hg5 _
           obtain ⟨p5, cp5, rfl⟩ := own_shape hown5
           have hb5 := B3.trans ((B4.grown hg5 B4.size (fun q hq => (hown4.lt q hq).1)).mono B3.size)
           have c5 := HC.out w5 hb5
           have hh5 := (hb5.block r hlt).trans H.out.hd
           have HH5 := Lib.hid hh5
           have f5 : w5.frozen? ⟨r, 0, none⟩ = false := (by simp [World.frozen?, hh5])
           clear hh5))
      go_ret
      have g2 : w.grownBy w5 (some r) := gb_below hb5
      have hlt5 := hown5.lt
      rw [← HLE.out] at hown5 hlt5 ⊢
      refine ⟨rfl, _, ⟨set_box _ HH5.out, ?_, hlo⟩, g2.trans (grown_box _ HH5.out), .inr fun q hq => by have := (hlt5 q hq).1; omega⟩
      rw [HCE.out]
      exact own_kept (hown5.mono (by omega)) (grown_box _ HH5.out) (.inl fun e => by have := (hlt5 r e).1; omega)
  · rw [g3, if_pos (by simp)] at hE
    subst hE
    obtain rfl := HNO.out (by decide)
    simp only [g4] at hat
    have hk0 : (0 : Int) ≤ (k : Int) := by omega
    clear h hval g1 g3 g4
    go_enter Tryz.func53, Tryz.ntmps53
    go_wp2_with (first
      | (go_at_call 13; refine (hdir _).mono ?_; rintro e w1 ⟨rfl, hb1⟩)
      | (go_at_call 89; refine (hat _ hb1).mono ?_; rintro e w2 ⟨rfl, hw⟩; subst w2))
    go_ret
    exact ⟨rfl, HB.out _ hb1⟩
end Go.Proofs.Dc
/- E8: The reference's Change. -/
namespace Go.Proofs.Dc
open Go.RowKit Go.Proofs Go.Lib Go.Maps

theorem set_parts {L : List Doc} {k : Nat} {d : Doc} (x : Doc) (h : L[k]? = some d) : L.set k x = L.take k ++ x :: L.drop (k + 1) := by
  obtain ⟨hk, _⟩ := List.getElem?_eq_some_iff.1 h
  rw [List.set_eq_take_append_cons_drop, if_pos hk]
/-- a document that is changed where it stands -/
theorem set_put {L : List Doc} (hO : Ord L) {k : Nat} {d : Doc} {x : Doc} (h : L[k]? = some d) (hu : d.uri = x.uri) : putD x L = L.set k x := by
  obtain ⟨hk, hd⟩ := List.getElem?_eq_some_iff.1 h
  have hp := List.pairwise_iff_getElem.1 hO
  have hw := without_at hO h hu
  have hlen : (L.take k).length = k := by rw [List.length_take]; omega
  unfold putD
  rw [hw, set_parts x h]
  have hi := ins_at (x := x) (L := L.take k ++ L.drop (k + 1)) (k := k) (fun j y hj hy => by
      rw [List.getElem?_append_left (by rw [hlen]; exact hj), List.getElem?_take_of_lt hj] at hy
      obtain ⟨hjl, rfl⟩ := List.getElem?_eq_some_iff.1 hy
      have := hp j k hjl hk hj
      rw [hd, hu] at this
      exact this) (fun y hy => by
      rw [List.getElem?_append_right (by rw [hlen]; exact Nat.le_refl _), hlen, Nat.sub_self, List.getElem?_drop] at hy
      obtain ⟨hjl, rfl⟩ := List.getElem?_eq_some_iff.1 hy
      have := hp k (k + 1 + 0) hk hjl (by omega)
      rw [hd, hu] at this
      exact bb_asymm this) (fun y hy => by
      rw [← hw] at hy
      simpa using (List.mem_filter.1 hy).2) (by rw [List.length_append, hlen]; omega)
  rw [hi]
  have e1 : (L.take k ++ L.drop (k + 1)).take k = L.take k := by
    rw [List.take_append_of_le_length (by rw [hlen]; exact Nat.le_refl _), List.take_take, Nat.min_self]
  have e2 : (L.take k ++ L.drop (k + 1)).drop k = L.drop (k + 1) := by
    rw [List.drop_append_of_le_length (by rw [hlen]; exact Nat.le_refl _), List.drop_eq_nil_of_le (by rw [hlen]; exact Nat.le_refl _)]
    rfl
  rw [e1, e2]
/-- its cells -/
theorem cells_set {L : List Doc} {k : Nat} {d : Doc} (t : List UInt8) (v : Int) (h : L[k]? = some d) : docCells (L.set k ⟨d.uri, t, v⟩) = ((docCells L).set (k * 3 + 1) (.string ⟨t.toArray⟩)).set (k * 3 + 2) (.int .i64 v) := by
  obtain ⟨hk, hd⟩ := List.getElem?_eq_some_iff.1 h
  have hlen : (docCells (L.take k)).length = k * 3 := by rw [docCells_length, List.length_take]; congr 1; omega
  have hL : L = L.take k ++ d :: L.drop (k + 1) := by
    conv => lhs; rw [← List.take_append_drop k L, List.drop_eq_getElem_cons hk, hd]
  rw [set_parts _ h]
  conv => rhs; rw [hL]
  rw [docCells_app, docCells_app]
  show docCells (L.take k) ++ (docCell ⟨d.uri, t, v⟩ ++ docCells (L.drop (k + 1))) = ((docCells (L.take k) ++ (docCell d ++ docCells (L.drop (k + 1)))).set (k * 3 + 1) _).set (k * 3 + 2) _
  rw [List.set_append_right _ _ (by omega), List.set_append_right _ _ (by omega), hlen, show k * 3 + 1 - k * 3 = 1 by omega, show k * 3 + 2 - k * 3 = 2 by omega]
  rfl
end Go.Proofs.Dc
/- E9: The reference's Change: the walk. -/
namespace Go.Proofs.Dc
open Go.RowKit Go.Proofs Go.Lib Go.Maps

set_option maxRecDepth 100000 in
set_option maxHeartbeats 4000000 in
theorem refChange_any (w : World) (r base : Nat) (v : Value) (L : List Doc) (h : RV w r base v L) (hO : Ord L) (u : ByteArray) (ver : Int) (p : Option Addr) (n c : Nat) (cs : List Chg) (hn : n = cs.length) (hn2 : n ≤ 1000) (hI : ChgsAt w p cs) (hL : L.length ≤ 1000000) (hS : ∀ d ∈ L, d.text.length ≤ 65536) (hXs : ∀ x ∈ cs, x.text.size ≤ 70000) :
    Calls Tryz.prog 57 #[.pointer (some ⟨r, 0, none⟩), .string u, .int .i64 ver, .slice p n c] w fun e w' => e = .returned (.int .i64 (chgE L u.data.toList ver cs)) ∧ RV w' r base v (chgL L u.data.toList ver cs) ∧ w.grownBy w' v.ownBlock := by
  have hat := at_any w r base v L h u hL
  have hc := h.cell
  have H := Lib.hid h
  unfold chgE chgL
  rcases at_get L u.data.toList with ⟨h1, h2⟩ | ⟨k, d, h1, hu, h3, h4, _⟩
  · rw [h1]
    rw [h2] at hat
    simp only
    clear h h1 h2 hO hI hn
    go_enter Tryz.func57, Tryz.ntmps57
    go_wp2_with (first | (go_at_call 89; refine hat.mono ?_; rintro e w1 ⟨rfl, hw⟩; subst w1))
    go_ret
    exact ⟨rfl, H.out, World.grownBy.refl _ _⟩
  rw [h3]
  rw [h4] at hat
  simp only
  obtain ⟨p0, cap0, rfl, hcap0, hdocs⟩ := h.docs
  obtain ⟨a, rfl, hA⟩ := hdocs k d h1
  have hk : (k : Int) < (L.length : Int) := by have := (List.getElem?_eq_some_iff.1 h1).1; omega
  have hk0 : (0 : Int) ≤ (k : Int) := by omega
  obtain ⟨c0, c1, c2⟩ := hA
  by_cases hver : ver ≤ d.ver
  · rw [if_pos hver, if_pos hver]
    clear h h1 h3 h4 hdocs hO hI hn
    go_enter Tryz.func57, Tryz.ntmps57
    go_wp2_with (first | (go_at_call 89; refine hat.mono ?_; rintro e w1 ⟨rfl, hw⟩; subst w1))
    go_ret
    exact ⟨rfl, H.out, World.grownBy.refl _ _⟩
  rw [if_neg hver, if_neg hver]
  have hts : (textB d).size ≤ 65536 := by
    have := hS d (List.mem_of_getElem? h1)
    rw [Lib.size_eq]
    exact this
  have hset := fun t v2 => set_put (x := ⟨u.data.toList, t, v2⟩) hO h1 hu
  have hcs := fun t v2 => cells_set t v2 h1
  rw [hu] at hcs
  simp only [hset]
  obtain ⟨R, hR⟩ : ∃ R, afterV (textB d) cs = R := ⟨_, rfl⟩
  rw [hR]
  obtain ⟨LL, hLL⟩ : ∃ LL, (if R.2 = 0 then L.set k ⟨u.data.toList, R.1.data.toList, ver⟩ else L) = LL := ⟨_, rfl⟩
  obtain ⟨E, hE⟩ : ∃ E, R.2 = E := ⟨_, rfl⟩
  rw [hLL, hE]
  have HLL := Lib.hid hLL
  have HE2 := Lib.hid hE
  clear hLL hE
  have HR := Lib.hid hR
  have HN := Lib.hid hn
  have HI := Lib.hid hI
  have HX := Lib.hid hXs
  have HCS := Lib.hid hcs
  have hc1 : w.cell? ⟨(a.add (k * 3)).block, (a.add (k * 3)).off + 1, none⟩ = some (.string (textB d)) := c1
  clear h h1 h3 h4 hdocs hO hI hn hR hset hcs hXs hS hu c1
  generalize textB d = S0 at *
  go_enter Tryz.func57, Tryz.ntmps57
  go_wp2_with (first | (go_at_call 89; refine hat.mono ?_; rintro e w1 ⟨rfl, hw⟩; subst w1))
  go_loopw [10, 11] (fun sv iv wr => ∃ (j : Nat) (S : ByteArray), sv = .string S ∧ iv = .int .i64 j ∧ j ≤ n ∧ S.size ≤ 65536 ∧ afterV S (cs.drop j) = R ∧ Below w.heap.size w wr) (fun _ iv _ => n - (RowKit.intOf iv).toNat)
  case atStart => exact ⟨0, S0, rfl, rfl, Nat.zero_le _, hts, HR.out, Below.refl _ _⟩
  case round =>
    obtain ⟨j, S, rfl, rfl, hj, hSs, haf, hB⟩ := hrel
    have HAF := Lib.hid haf
    clear haf
    by_cases hjn : (j : Int) < (n : Int)
    · obtain ⟨x, hx⟩ : ∃ x, cs[j]? = some x := ⟨_, List.getElem?_eq_getElem (by have := HN.out; omega)⟩
      obtain ⟨b, rfl, hxa⟩ := HI.out j x hx
      have hxb := hxa.below hB
      have x0 := hxb.c0
      have x1 := hxb.c1
      have x2 := hxb.c2
      have x3 := hxb.c3
      have x4 := hxb.c4
      have x5 := hxb.c5
      have hbh := fun w => behind_any S x w (by omega) (HX.out x (List.mem_of_getElem? hx))
      have hdr : cs.drop j = x :: cs.drop (j + 1) := by
        obtain ⟨q1, q2⟩ := List.getElem?_eq_some_iff.1 hx
        rw [List.drop_eq_getElem_cons q1, q2]
      have haf := HAF.out
      rw [hdr] at haf
      have hsz := afterV_size S [x]
      obtain ⟨S2, e2, hst⟩ : ∃ S2 e2, stepV S x = (S2, e2) := ⟨_, _, rfl⟩
      rw [hst] at hbh
      simp only at hbh
      by_cases he : e2 = 0
      · subst he
        rw [afterV_cons_ok hst] at haf
        rw [afterV_cons_ok hst] at hsz
        have HAF2 := Lib.hid haf
        have hsz2 : S2.size ≤ 65536 := by
          have : (afterV S2 []).1 = S2 := rfl
          rw [this] at hsz
          omega
        clear haf hdr hst hx hxa hxb hsz
        go_wp2_with (first | (go_at_call 91; refine (hbh _).mono ?_; rintro e w2 ⟨rfl, hb2⟩))
        go_roundw
        case rel => exact ⟨j + 1, S2, rfl, by go_num, by omega, hsz2, HAF2.out, hB.trans (hb2.mono hB.size)⟩
        case measure => simp [RowKit.intOf]; omega
      · rw [afterV_cons_err hst he] at haf
        have he0 : (e2 == 0) = false := beq_eq_false_iff_ne.2 he
        have HE := Lib.hid he
        have HAF2 := Lib.hid haf
        clear haf hdr hst hx hxa hxb hsz he
        go_wp2_with (first | (go_at_call 91; refine (hbh _).mono ?_; rintro e w2 ⟨rfl, hb2⟩))
        go_ret
        have e9 := HAF2.out
        subst e9
        have hLE : L = LL := by have := HLL.out; rw [if_neg HE.out] at this; exact this
        subst hLE
        have hEE : e2 = E := HE2.out
        subst hEE
        have Bf := hB.trans (hb2.mono hB.size)
        exact ⟨rfl, H.out.below Bf, gb_below Bf⟩
    · have hd0 : cs.drop j = [] := List.drop_eq_nil_of_le (by have := HN.out; omega)
      have haf := HAF.out
      rw [hd0] at haf
      have hRe : R = (S, 0) := haf.symm
      subst hRe
      clear haf hd0 HAF
      have hE0 : E = 0 := HE2.out.symm
      subst hE0
      have hLL : LL = L.set k ⟨u.data.toList, S.data.toList, ver⟩ := by have := HLL.out; rw [if_pos rfl] at this; exact this.symm
      subst hLL
      have hRW := H.out.below hB
      have hcr := hRW.cell
      rcases hRW.row.2 with ⟨hv1, _⟩ | ⟨g, cap, cur, hvg, hbg, hg, hlc, hcm, _⟩
      · cases hv1
      obtain ⟨rfl, rfl⟩ : a = ⟨g, 0, none⟩ ∧ cap0 = cap := by cases hvg; exact ⟨rfl, rfl⟩
      have rowW := hRW.row
      have st1 := rowW.stored (k * 3 + 1) (.string S)
      have st2 := st1.1.stored (k * 3 + 2) (.int .i64 ver)
      have f1 := rowW.frozenAt (k * 3 + 1)
      have f2 := st1.1.frozenAt (k * 3 + 2)
      have e1 : wr.cell? ⟨g, k * 3 + 1, none⟩ = some (.string S0) := by
        rw [show (⟨g, k * 3 + 1, none⟩ : Addr) = ⟨((⟨g, 0, none⟩ : Addr).add (k * 3)).block, ((⟨g, 0, none⟩ : Addr).add (k * 3)).off + 1, none⟩ by rw [add_off, Nat.zero_add]]
        exact (hB.cell (by rw [add_off]; exact World.block_lt_of_cell? w _ (by rw [add_off] at hc1; exact hc1))).trans hc1
      have e2 : wr.cell? ⟨g, k * 3 + 2, none⟩ = some (.int .i64 d.ver) := by
        rw [show (⟨g, k * 3 + 2, none⟩ : Addr) = ⟨((⟨g, 0, none⟩ : Addr).add (k * 3)).block, ((⟨g, 0, none⟩ : Addr).add (k * 3)).off + 2, none⟩ by rw [add_off, Nat.zero_add]]
        exact (hB.cell (by rw [add_off]; exact World.block_lt_of_cell? w _ (by rw [add_off] at c2; exact c2))).trans c2
      have ST := Lib.hid (And.intro st1 st2)
      clear st1 st2 hvg
      simp only [add_off, Nat.zero_add] at *
      have hrg : r ≠ g := by
        rintro rfl
        have := hRW.hd.symm.trans hg
        cases this
      have HHD := Lib.hid hRW.hd
      have hrz := hRW.lt
      clear hRW hg rowW
      go_wp2
      go_ret
      obtain ⟨t1, t2⟩ := ST.out
      have g0 : w.grownBy wr (some g) := gb_below hB
      have gs := t1.2.trans t2.2
      have hcs := HCS.out S.data.toList ver
      refine ⟨rfl, ⟨(gs.block r hrz (by intro e; exact hrg (Option.some.inj e))).trans HHD.out, ?_, H.out.lo⟩, g0.trans gs⟩
      rw [List.length_set, hcs]
      exact t2.1
end Go.Proofs.Dc
