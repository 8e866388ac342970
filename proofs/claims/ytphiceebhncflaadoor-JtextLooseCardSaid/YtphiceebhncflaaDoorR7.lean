/- The walk of the reference's escape. Printed by gen_r7.py. -/
import Derived.Test.YtphiceebhncflaaDoorR6
import Derived.Test.YtphiceebhncflaaDoorJ11
namespace Go.Proofs.Jt
open Go.RowKit Go.Proofs Go.Lib Go.Proofs.Utf

/-- what escape answers at a place -/
def escB (l : List UInt8) (i : Nat) : ByteArray := if (escR (l.drop i)).2 = 0 then ⟨#[]⟩ else ⟨(encodeRune (escR (l.drop i)).1).toArray⟩
def escE (l : List UInt8) (i : Nat) : Nat := if (escR (l.drop i)).2 = 0 then 0 else i + (escR (l.drop i)).2
def escV (l : List UInt8) (i : Nat) : Value := .tuple #[.string (escB l i), .int .i64 (escE l i : Nat)]
theorem escV_none {l : List UInt8} {i : Nat} (h : (escR (l.drop i)).2 = 0) : escV l i = .tuple #[.string ⟨#[]⟩, .int .i64 0] := by
  unfold escV escB escE; rw [if_pos h, if_pos h]; rfl
theorem escV_some {l : List UInt8} {i : Nat} {x : Int} {m : Nat} (h : escR (l.drop i) = (x, m)) (hm : m ≠ 0) : escV l i = .tuple #[.string ⟨(encodeRune x).toArray⟩, .int .i64 ((i + m : Nat) : Int)] := by
  unfold escV escB escE; rw [h, if_neg hm, if_neg hm]
theorem drop_cons (s : ByteArray) (i : Nat) (hi : i < s.size) : s.data.toList.drop i = s[i] :: s.data.toList.drop (i + 1) := by
  rw [List.drop_eq_getElem_cons (by rw [← Lib.size_eq]; exact hi)]
  rfl
theorem esc_spec (s : ByteArray) (i : Nat) (hi : i < s.size) (v x : Nat) (h : s[i].toNat = v) (hs : simple s[i] = some x) : escR (s.data.toList.drop i) = ((x : Int), 1) := by
  rw [drop_cons s i hi, esc_simple _ _ x hs]
theorem ret_val {a b : Value} (h : a = b) : Ending.returned a = .returned b := by rw [h]
theorem enc_low (n : Nat) (h : n < 128) : encodeRune (n : Int) = [n.toUInt8] := by
  rw [enc1 _ ⟨by omega, by omega⟩]; rfl
set_option maxRecDepth 100000 in
set_option maxHeartbeats 2000000 in
theorem escape_simple (s : ByteArray) (i : Nat) (w : World) (hs : s.size ≤ 16777216) (hi : i < s.size) (x : Nat) (hx : simple s[i] = some x) : Calls Tryd.prog 80 #[.string s, .int .i64 i] w fun e w' => e = .returned (escV s.data.toList i) ∧ w' = w := by
  have hi' : (i : Int) < (s.size : Int) := by omega
  have hcut : s.extract i (i + 1) = ⟨#[s[i]]⟩ := by
    apply ByteArray.ext
    apply Array.toList_inj.1
    rw [Lib.extract_data, drop_cons s i hi]
    simp
  have he := escV_some (esc_spec s i hi s[i].toNat x rfl hx) (by decide)
  rw [he, enc_low x (simple_val _ _ hx)]
  clear he
  unfold simple at hx
  by_cases h : s[i] = 34
  · rw [if_pos h] at hx
    obtain rfl : x = 34 := (Option.some.inj hx).symm
    have t0 : ((s[i].toNat : Int) == 34) = true := by rw [h]; rfl
    have hcut2 : s.extract i (i + 1) = ⟨#[34]⟩ := by rw [hcut, h]
    clear h hx hcut
    go_enter Tryd.func80, Tryd.ntmps80
    go_wp2
    go_ret2
    exact ⟨rfl, rfl⟩
  rw [if_neg h] at hx
  by_cases h : s[i] = 92
  · rw [if_pos h] at hx
    obtain rfl : x = 92 := (Option.some.inj hx).symm
    have t0 : ((s[i].toNat : Int) == 34) = false := by rw [h]; rfl
    have t1 : ((s[i].toNat : Int) == 92) = true := by rw [h]; rfl
    have hcut2 : s.extract i (i + 1) = ⟨#[92]⟩ := by rw [hcut, h]
    clear h hx hcut
    go_enter Tryd.func80, Tryd.ntmps80
    go_wp2
    go_ret2
    exact ⟨rfl, rfl⟩
  rw [if_neg h] at hx
  by_cases h : s[i] = 47
  · rw [if_pos h] at hx
    obtain rfl : x = 47 := (Option.some.inj hx).symm
    have t0 : ((s[i].toNat : Int) == 34) = false := by rw [h]; rfl
    have t1 : ((s[i].toNat : Int) == 92) = false := by rw [h]; rfl
    have t2 : ((s[i].toNat : Int) == 47) = true := by rw [h]; rfl
    have hcut2 : s.extract i (i + 1) = ⟨#[47]⟩ := by rw [hcut, h]
    clear h hx hcut
    go_enter Tryd.func80, Tryd.ntmps80
    go_wp2
    go_ret2
    exact ⟨rfl, rfl⟩
  rw [if_neg h] at hx
  by_cases h : s[i] = 98
  · rw [if_pos h] at hx
    obtain rfl : x = 8 := (Option.some.inj hx).symm
    have t0 : ((s[i].toNat : Int) == 34) = false := by rw [h]; rfl
    have t1 : ((s[i].toNat : Int) == 92) = false := by rw [h]; rfl
    have t2 : ((s[i].toNat : Int) == 47) = false := by rw [h]; rfl
    have t3 : ((s[i].toNat : Int) == 98) = true := by rw [h]; rfl
    clear h hx hcut
    go_enter Tryd.func80, Tryd.ntmps80
    go_wp2
    go_ret2
    exact ⟨rfl, rfl⟩
  rw [if_neg h] at hx
  by_cases h : s[i] = 102
  · rw [if_pos h] at hx
    obtain rfl : x = 12 := (Option.some.inj hx).symm
    have t0 : ((s[i].toNat : Int) == 34) = false := by rw [h]; rfl
    have t1 : ((s[i].toNat : Int) == 92) = false := by rw [h]; rfl
    have t2 : ((s[i].toNat : Int) == 47) = false := by rw [h]; rfl
    have t3 : ((s[i].toNat : Int) == 98) = false := by rw [h]; rfl
    have t4 : ((s[i].toNat : Int) == 102) = true := by rw [h]; rfl
    clear h hx hcut
    go_enter Tryd.func80, Tryd.ntmps80
    go_wp2
    go_ret2
    exact ⟨rfl, rfl⟩
  rw [if_neg h] at hx
  by_cases h : s[i] = 110
  · rw [if_pos h] at hx
    obtain rfl : x = 10 := (Option.some.inj hx).symm
    have t0 : ((s[i].toNat : Int) == 34) = false := by rw [h]; rfl
    have t1 : ((s[i].toNat : Int) == 92) = false := by rw [h]; rfl
    have t2 : ((s[i].toNat : Int) == 47) = false := by rw [h]; rfl
    have t3 : ((s[i].toNat : Int) == 98) = false := by rw [h]; rfl
    have t4 : ((s[i].toNat : Int) == 102) = false := by rw [h]; rfl
    have t5 : ((s[i].toNat : Int) == 110) = true := by rw [h]; rfl
    clear h hx hcut
    go_enter Tryd.func80, Tryd.ntmps80
    go_wp2
    go_ret2
    exact ⟨rfl, rfl⟩
  rw [if_neg h] at hx
  by_cases h : s[i] = 114
  · rw [if_pos h] at hx
    obtain rfl : x = 13 := (Option.some.inj hx).symm
    have t0 : ((s[i].toNat : Int) == 34) = false := by rw [h]; rfl
    have t1 : ((s[i].toNat : Int) == 92) = false := by rw [h]; rfl
    have t2 : ((s[i].toNat : Int) == 47) = false := by rw [h]; rfl
    have t3 : ((s[i].toNat : Int) == 98) = false := by rw [h]; rfl
    have t4 : ((s[i].toNat : Int) == 102) = false := by rw [h]; rfl
    have t5 : ((s[i].toNat : Int) == 110) = false := by rw [h]; rfl
    have t6 : ((s[i].toNat : Int) == 114) = true := by rw [h]; rfl
    clear h hx hcut
    go_enter Tryd.func80, Tryd.ntmps80
    go_wp2
    go_ret2
    exact ⟨rfl, rfl⟩
  rw [if_neg h] at hx
  by_cases h : s[i] = 116
  · rw [if_pos h] at hx
    obtain rfl : x = 9 := (Option.some.inj hx).symm
    have t0 : ((s[i].toNat : Int) == 34) = false := by rw [h]; rfl
    have t1 : ((s[i].toNat : Int) == 92) = false := by rw [h]; rfl
    have t2 : ((s[i].toNat : Int) == 47) = false := by rw [h]; rfl
    have t3 : ((s[i].toNat : Int) == 98) = false := by rw [h]; rfl
    have t4 : ((s[i].toNat : Int) == 102) = false := by rw [h]; rfl
    have t5 : ((s[i].toNat : Int) == 110) = false := by rw [h]; rfl
    have t6 : ((s[i].toNat : Int) == 114) = false := by rw [h]; rfl
    have t7 : ((s[i].toNat : Int) == 116) = true := by rw [h]; rfl
    clear h hx hcut
    go_enter Tryd.func80, Tryd.ntmps80
    go_wp2
    go_ret2
    exact ⟨rfl, rfl⟩
  rw [if_neg h] at hx
  cases hx
end Go.Proofs.Jt
