/- rpc's objects: a key and a value more (the closure of object). Printed by gen_p3.py. -/
import Derived.Test.YtaiaiiepbpbmmaaGreatDoorP1
import Derived.Test.YtaiaiiepbpbmmaaGreatDoorI7
import Derived.Test.YtaiaiiepbpbmmaaGreatDoorVL
namespace Go.Proofs.Rp
open Go.RowKit Go.Maps Go.Lib Go.Proofs.Utf Go.Proofs.Jt Go.Proofs

theorem row_news {w : World} {g : Nat} {xs : List Value} {t : TypeId} (h : w.heap[g]? = some (.cells xs.toArray t (0, 0))) : ∀ j u, xs[j]? = some u → w.cell? ((⟨g, 0, none⟩ : Addr).add j) = some u := fun j u hu => by
 rw [add0]
 simp [World.cell?, h, hu]
abbrev op0 : Oper := { dst := some 5, op := Op.load 155 (Operand.tmp 2), type := 155, pos := "rpc.go:138", after := #[], guard := none }
abbrev op1 : Oper := { dst := some 6, op := Op.load 155 (Operand.tmp 2), type := 155, pos := "rpc.go:138", after := #[], guard := none }
abbrev op2 : Oper := { dst := some 7, op := Op.load 155 (Operand.tmp 2), type := 155, pos := "rpc.go:138", after := #[], guard := none }
abbrev op3 : Oper := { dst := some 8, op := Op.nilCheck (Operand.tmp 7), type := 0, pos := "rpc.go:138", after := #[eDa 2], guard := none }
abbrev op4 : Oper := { dst := some 9, op := Op.fieldAddr 25 (Operand.tmp 8) 2, type := 0, pos := "rpc.go:138", after := #[eDa 3], guard := none }
abbrev op5 : Oper := { dst := some 10, op := Op.load 22 (Operand.tmp 9), type := 22, pos := "rpc.go:138", after := #[eDa 4], guard := none }
abbrev op6 : Oper := { dst := some 11, op := Op.move (Operand.tmp 0), type := 9, pos := "rpc.go:138", after := #[], guard := none }
abbrev op7 : Oper := { dst := some 12, op := Op.buildSlice 22 1 #[(0, Operand.tmp 11)], type := 22, pos := "rpc.go:138", after := #[eDa 6], guard := none }
abbrev op8 : Oper := { dst := some 13, op := Op.call { callee := Callee.builtin Builtin.append, args := #[Operand.tmp 10, Operand.tmp 12], argTypes := #[22, 22] }, type := 22, pos := "rpc.go:138", after := #[eDa 5, eDa 7], guard := none }
abbrev op9 : Oper := { dst := some 14, op := Op.load 155 (Operand.tmp 2), type := 155, pos := "rpc.go:138", after := #[], guard := none }
abbrev op10 : Oper := { dst := some 15, op := Op.nilCheck (Operand.tmp 14), type := 0, pos := "rpc.go:138", after := #[eDa 9], guard := none }
abbrev op11 : Oper := { dst := some 16, op := Op.fieldAddr 25 (Operand.tmp 15) 3, type := 0, pos := "rpc.go:138", after := #[eDa 10], guard := none }
abbrev op12 : Oper := { dst := some 17, op := Op.load 23 (Operand.tmp 16), type := 23, pos := "rpc.go:138", after := #[eDa 11], guard := none }
abbrev op13 : Oper := { dst := some 18, op := Op.load 25 (Operand.tmp 4), type := 25, pos := "rpc.go:138", after := #[], guard := none }
abbrev op14 : Oper := { dst := some 19, op := Op.buildSlice 23 1 #[(0, Operand.tmp 18)], type := 23, pos := "rpc.go:138", after := #[eDa 13], guard := none }
abbrev op15 : Oper := { dst := some 20, op := Op.call { callee := Callee.builtin Builtin.append, args := #[Operand.tmp 17, Operand.tmp 19], argTypes := #[23, 23] }, type := 23, pos := "rpc.go:138", after := #[eDa 12, eDa 14, eCh 8], guard := none }
abbrev op16 : Oper := { dst := some 21, op := Op.nilCheck (Operand.tmp 5), type := 0, pos := "rpc.go:138", after := #[eDa 0, ePh 0, { on := 1, ground := Ground.textOnly Departure.inlinedCapture }, ePh 2, ePh 3, ePh 4, ePh 5, ePh 6, ePh 7, ePh 8, { on := 9, ground := Ground.textOnly Departure.inlinedCapture }, { on := 10, ground := Ground.textOnly Departure.lateStoresUnsure }, { on := 11, ground := Ground.textOnly Departure.lateStoresUnsure }, ePh 12, { on := 13, ground := Ground.textOnly Departure.lateStores }, { on := 14, ground := Ground.textOnly Departure.lateStoresUnsure }, ePh 15], guard := none }
abbrev op17 : Oper := { dst := some 22, op := Op.fieldAddr 25 (Operand.tmp 21) 2, type := 0, pos := "rpc.go:138", after := #[eDa 16, ePh 0, { on := 1, ground := Ground.textOnly Departure.inlinedCapture }, ePh 2, ePh 3, ePh 4, ePh 5, ePh 6, ePh 7, ePh 8, { on := 9, ground := Ground.textOnly Departure.inlinedCapture }, { on := 10, ground := Ground.textOnly Departure.lateStoresUnsure }, { on := 11, ground := Ground.textOnly Departure.lateStoresUnsure }, ePh 12, { on := 13, ground := Ground.textOnly Departure.lateStores }, { on := 14, ground := Ground.textOnly Departure.lateStoresUnsure }, ePh 15], guard := none }
abbrev op18 : Oper := { dst := none, op := Op.store 22 (Operand.tmp 22) (Operand.tmp 13), type := 0, pos := "rpc.go:138", after := #[eDa 17, eDa 8, eCh 15, ePh 0, { on := 1, ground := Ground.textOnly Departure.inlinedCapture }, ePh 2, ePh 3, ePh 4, ePh 5, ePh 6, ePh 7, ePh 8, { on := 9, ground := Ground.textOnly Departure.inlinedCapture }, { on := 10, ground := Ground.textOnly Departure.lateStoresUnsure }, { on := 11, ground := Ground.textOnly Departure.lateStoresUnsure }, ePh 12, { on := 13, ground := Ground.textOnly Departure.lateStores }, { on := 14, ground := Ground.textOnly Departure.lateStoresUnsure }, ePh 15], guard := none }
abbrev op19 : Oper := { dst := some 23, op := Op.nilCheck (Operand.tmp 6), type := 0, pos := "rpc.go:138", after := #[eDa 1, ePh 0, ePh 1, ePh 2, ePh 3, ePh 4, ePh 5, ePh 6, ePh 7, ePh 8, ePh 9, ePh 10, ePh 11, ePh 12, ePh 13, ePh 14, ePh 15, ePh 16, ePh 17, ePh 18], guard := none }
abbrev op20 : Oper := { dst := some 24, op := Op.fieldAddr 25 (Operand.tmp 23) 3, type := 0, pos := "rpc.go:138", after := #[eDa 19, ePh 0, ePh 1, ePh 2, ePh 3, ePh 4, ePh 5, ePh 6, ePh 7, ePh 8, ePh 9, ePh 10, ePh 11, ePh 12, ePh 13, ePh 14, ePh 15, ePh 16, ePh 17, ePh 18], guard := none }
abbrev op21 : Oper := { dst := none, op := Op.store 23 (Operand.tmp 24) (Operand.tmp 20), type := 0, pos := "rpc.go:138", after := #[eDa 20, eDa 15, eCh 18, ePh 0, ePh 1, ePh 2, ePh 3, ePh 4, ePh 5, ePh 6, ePh 7, ePh 8, ePh 9, ePh 10, ePh 11, ePh 12, ePh 13, ePh 14, ePh 15, ePh 16, ePh 17, ePh 18], guard := none }
abbrev pO (ob : Nat) : Value := .pointer (some ⟨ob, 0, none⟩)
abbrev pO2 (ob : Nat) : Value := .pointer (some ⟨ob, 2, none⟩)
abbrev pO3 (ob : Nat) : Value := .pointer (some ⟨ob, 3, none⟩)
abbrev yA (c : IC) (Y : ByteArray) : Value := .agg #[.int .i64 c.y.kind, .string Y, .slice c.kp c.y.keys.length c.kc, .slice c.ip c.y.items.length c.ic]
abbrev T3 (K : ByteArray) (c : IC) (Y : ByteArray) (tb pb : Nat) (x3 x5 x6 x7 x8 x9 x10 x11 x12 x13 x14 x15 x16 x17 x18 x19 x20 x21 x22 x23 x24 : Value) : Array Value := #[.string K, .agg #[.int .i64 c.y.kind, .string Y, .slice c.kp c.y.keys.length c.kc, .slice c.ip c.y.items.length c.ic], .pointer (some ⟨tb, 0, none⟩), x3, .pointer (some ⟨pb, 0, none⟩), x5, x6, x7, x8, x9, x10, x11, x12, x13, x14, x15, x16, x17, x18, x19, x20, x21, x22, x23, x24]
abbrev SA3 (c : IC) (Y : ByteArray) (tb ob pb n m : Nat) (kp ip : Option Addr) (kc ic : Nat) : World → Prop := fun v => v.heap[tb]? = some (.cells #[.pointer (some ⟨ob, 0, none⟩)] 155 (0, 0)) ∧ v.heap[ob]? = some (.cells #[.int .i64 6, .string ⟨#[]⟩, .slice kp n kc, .slice ip m ic] 25 (0, 0)) ∧ v.heap[pb]? = some (.cells #[.int .i64 c.y.kind, .string Y, .slice c.kp c.y.keys.length c.kc, .slice c.ip c.y.items.length c.ic] 25 (0, 0))
abbrev addOps : Array Oper := #[op0, op1, op2, op3, op4, op5, op6, op7, op8, op9, op10, op11, op12, op13, op14, op15, op16, op17, op18, op19, op20, op21]
def A3 (n0 : Nat) (wz : World) (K : ByteArray) (c : IC) (Y : ByteArray) (tb ob pb lo n m : Nat) (xs ys : List Value) (kp0 : Option Addr) (kc0 : Nat) (ip0 : Option Addr) (ic0 : Nat) (u3 _u5 _u6 _u7 _u8 _u9 _u10 _u11 _u12 _u13 _u14 _u15 _u16 _u17 _u18 _u19 _u20 _u21 _u22 _u23 _u24 : Value) : Exit → Act → World → Prop
 | .normal, a', v => ∃ (g7 g14 : Nat) (kp2 : Option Addr) (kc2 : Nat) (ip2 : Option Addr) (ic2 : Nat), v.heap[tb]? = some (.cells #[.pointer (some ⟨ob, 0, none⟩)] 155 (0, 0)) ∧ v.heap[ob]? = some (.cells #[.int .i64 6, .string ⟨#[]⟩, .slice kp2 (n + 1) kc2, .slice ip2 (m + 1) ic2] 25 (0, 0)) ∧ Below n0 wz v ∧ wz.heap.size ≤ v.heap.size ∧
  v.ownsRow lo 9 1 (.slice kp2 (n + 1) kc2) (n + 1) (xs ++ [.string K]) ∧ v.ownsRow lo 25 4 (.slice ip2 (m + 1) ic2) (m + 1) (ys ++ [.int .i64 c.y.kind, .string Y, .slice c.kp c.y.keys.length c.kc, .slice c.ip c.y.items.length c.ic]) ∧ a' = { tmps := #[.string K, .agg #[.int .i64 c.y.kind, .string Y, .slice c.kp c.y.keys.length c.kc, .slice c.ip c.y.items.length c.ic], .pointer (some ⟨tb, 0, none⟩), u3, .pointer (some ⟨pb, 0, none⟩), .pointer (some ⟨ob, 0, none⟩), .pointer (some ⟨ob, 0, none⟩), .pointer (some ⟨ob, 0, none⟩), .pointer (some ⟨ob, 0, none⟩), .pointer (some ⟨ob, 2, none⟩), .slice kp0 n kc0, .string K, .slice (some ⟨g7, 0, none⟩) 1 1, .slice kp2 (n + 1) kc2, .pointer (some ⟨ob, 0, none⟩), .pointer (some ⟨ob, 0, none⟩), .pointer (some ⟨ob, 3, none⟩), .slice ip0 m ic0, .agg #[.int .i64 c.y.kind, .string Y, .slice c.kp c.y.keys.length c.kc, .slice c.ip c.y.items.length c.ic], .slice (some ⟨g14, 0, none⟩) 1 1, .slice ip2 (m + 1) ic2, .pointer (some ⟨ob, 0, none⟩), .pointer (some ⟨ob, 2, none⟩), .pointer (some ⟨ob, 0, none⟩), .pointer (some ⟨ob, 3, none⟩)], defers := [] }
 | _, _, _ => False
set_option maxRecDepth 100000 in
set_option maxHeartbeats 40000000 in
theorem add_r1 (K : ByteArray) (c : IC) (Y : ByteArray) (n0 tb ob pb lo n m : Nat) (xs ys : List Value) (kp : Option Addr) (kc : Nat) (ip : Option Addr) (ic : Nat) (wz : World) (u3 u5 u6 u7 u8 u9 u10 u11 u12 u13 u14 u15 u16 u17 u18 u19 u20 u21 u22 u23 u24 : Value)
 (hS0 : (SA3 c Y tb ob pb n m kp ip kc ic) wz) (hrk : wz.ownsRow lo 9 1 (.slice kp n kc) n xs) (hri : wz.ownsRow lo 25 4 (.slice ip m ic) m ys)
 (hkb : ∀ b, (Value.slice kp n kc).ownBlock = some b → b < pb) (hib : ∀ b, (Value.slice ip m ic).ownBlock = some b → b < pb) (hn : n ≤ 1000000) (hm : m ≤ 1000000) (hpz : pb < wz.heap.size) (hlp : lo ≤ pb) (htl : tb < lo) (hol : ob < lo) (hno : n0 ≤ ob) (hnt : n0 ≤ tb) (hto : ob ≠ tb) :
 Code.wp Tryz.prog (Code.region 1 addOps true) (A3 n0 wz K c Y tb ob pb lo n m xs ys kp kc ip ic u3 u5 u6 u7 u8 u9 u10 u11 u12 u13 u14 u15 u16 u17 u18 u19 u20 u21 u22 u23 u24) { tmps := #[.string K, .agg #[.int .i64 c.y.kind, .string Y, .slice c.kp c.y.keys.length c.kc, .slice c.ip c.y.items.length c.ic], .pointer (some ⟨tb, 0, none⟩), u3, .pointer (some ⟨pb, 0, none⟩), u5, u6, u7, u8, u9, u10, u11, u12, u13, u14, u15, u16, u17, u18, u19, u20, u21, u22, u23, u24], defers := [] } wz := by
 obtain ⟨i9_, hi9, hz90, hz91, hz92⟩ := info_parts info9
 obtain ⟨i45_, hi45, hz450, hz451, hz452⟩ := info_parts info45
 have hnz : n0 ≤ wz.heap.size := by omega
 have St1_7_8_14_15_16_17_18_19_20_21x : ∀ (listed : Array Bool), listed = #[true, true, true, true, true, true, true, true, true, true, true, true, true, true, true, true, true, true, true, true, true, true] → ∀ (v : World) (g7 g14 : Nat) (kp2 : Option Addr) (kc2 : Nat) (ip2 : Option Addr) (ic2 : Nat) (hT : v.heap[tb]? = some (.cells #[.pointer (some ⟨ob, 0, none⟩)] 155 (0, 0))) (hO : v.heap[ob]? = some (.cells #[.int .i64 6, .string ⟨#[]⟩, .slice kp2 (n + 1) kc2, .slice ip2 (m + 1) ic2] 25 (0, 0))) (hB : Below n0 wz v) (hz : wz.heap.size ≤ v.heap.size) (rk : v.ownsRow lo 9 1 (.slice kp2 (n + 1) kc2) (n + 1) (xs ++ [.string K])) (ri : v.ownsRow lo 25 4 (.slice ip2 (m + 1) ic2) (m + 1) (ys ++ [.int .i64 c.y.kind, .string Y, .slice c.kp c.y.keys.length c.kc, .slice c.ip c.y.items.length c.ic])), wpAnyU Tryz.prog .any addOps (A3 n0 wz K c Y tb ob pb lo n m xs ys kp kc ip ic u3 u5 u6 u7 u8 u9 u10 u11 u12 u13 u14 u15 u16 u17 u18 u19 u20 u21 u22 u23 u24) (SA3 c Y tb ob pb n m kp ip kc ic) 18 0 listed { tmps := (T3 K c Y tb pb u3 (pO ob) (pO ob) (pO ob) (pO ob) (pO2 ob) (.slice kp n kc) (.string K) (.slice (some ⟨g7, 0, none⟩) 1 1) (.slice kp2 (n + 1) kc2) (pO ob) (pO ob) (pO3 ob) (.slice ip m ic) (yA c Y) (.slice (some ⟨g14, 0, none⟩) 1 1) (.slice ip2 (m + 1) ic2) (pO ob) (pO2 ob) (pO ob) (pO3 ob)), defers := [] } v := by
  intro listed hl v g7 g14 kp2 kc2 ip2 ic2 hT hO hB hz rk ri
  subst hl
  unfold T3
  try unfold pO
  try unfold pO2
  try unfold pO3
  try unfold yA
  refine wpAnyU_done (by kernel_rfl) ?_ _
  exact ⟨g7, g14, kp2, kc2, ip2, ic2, hT, hO, hB, hz, rk, ri, rfl⟩
 have St1_7_8_14_15_16_17_18_19_20x : ∀ (listed : Array Bool), listed = #[true, true, true, true, true, true, true, true, true, true, true, true, true, true, true, true, true, true, true, true, true, false] → ∀ (v : World) (g7 g14 : Nat) (kp2 : Option Addr) (kc2 : Nat) (ip2 : Option Addr) (ic2 : Nat) (hT : v.heap[tb]? = some (.cells #[.pointer (some ⟨ob, 0, none⟩)] 155 (0, 0))) (hO : v.heap[ob]? = some (.cells #[.int .i64 6, .string ⟨#[]⟩, .slice kp2 (n + 1) kc2, .slice ip m ic] 25 (0, 0))) (hB : Below n0 wz v) (hz : wz.heap.size ≤ v.heap.size) (rk : v.ownsRow lo 9 1 (.slice kp2 (n + 1) kc2) (n + 1) (xs ++ [.string K])) (ri : v.ownsRow lo 25 4 (.slice ip2 (m + 1) ic2) (m + 1) (ys ++ [.int .i64 c.y.kind, .string Y, .slice c.kp c.y.keys.length c.kc, .slice c.ip c.y.items.length c.ic])), wpAnyU Tryz.prog .any addOps (A3 n0 wz K c Y tb ob pb lo n m xs ys kp kc ip ic u3 u5 u6 u7 u8 u9 u10 u11 u12 u13 u14 u15 u16 u17 u18 u19 u20 u21 u22 u23 u24) (SA3 c Y tb ob pb n m kp ip kc ic) 18 1 listed { tmps := (T3 K c Y tb pb u3 (pO ob) (pO ob) (pO ob) (pO ob) (pO2 ob) (.slice kp n kc) (.string K) (.slice (some ⟨g7, 0, none⟩) 1 1) (.slice kp2 (n + 1) kc2) (pO ob) (pO ob) (pO3 ob) (.slice ip m ic) (yA c Y) (.slice (some ⟨g14, 0, none⟩) 1 1) (.slice ip2 (m + 1) ic2) (pO ob) (pO2 ob) (pO ob) (pO3 ob)), defers := [] } v := by
  intro listed hl v g7 g14 kp2 kc2 ip2 ic2 hT hO hB hz rk ri
  subst hl
  unfold T3
  try unfold pO
  try unfold pO2
  try unfold pO3
  try unfold yA
  refine wpAnyU_ready (rs := [21]) (by kernel_rfl) (by simp) (AllReadyU.cons (o := op21) rfl (fun K' hK => ?_) AllReadyU.nil)
  · unfold op21
    rw [if_pos (by rfl)]
    have hh := hO
    have cc := cells4 hh
    obtain ⟨k0, k1, k2, k3⟩ := cc
    have fz : v.frozen? ⟨ob, 3, none⟩ = false := by simp [World.frozen?, hh]
    go_simp
    refine hK.out _ _ (fun h => absurd h (by decide)) (fun _ => ?_)
    clear hK K'
    try simp only [aSA, aSZ, aSS]
    have hh2 := heap_setCell_self hh 3 (.slice ip2 (m + 1) ic2)
    have gs := gb_set v ob 3 (.slice ip2 (m + 1) ic2)
    exact St1_7_8_14_15_16_17_18_19_20_21x _ (by kernel_rfl) (v.setCell ⟨ob, 3, none⟩ (.slice ip2 (m + 1) ic2)) (g7) (g14) (kp2) (kc2) (ip2) (ic2) ((gs.block tb (ltS hT) (fun e => hto (Option.some.inj e).symm)).trans hT) (hh2) (hB.grown gs (Nat.le_trans hnz hz) (fun b e => by have := Option.some.inj e; omega)) (Nat.le_trans hz gs.size) (row_fr rk (FrP.of (P := fun k => k = ob) gs rfl) (fun k hk e => by have := (rk.lt k hk).1; omega)) (row_fr ri (FrP.of (P := fun k => k = ob) gs rfl) (fun k hk e => by have := (ri.lt k hk).1; omega))
 have St1_7_8_14_15_16_17_18_19x : ∀ (listed : Array Bool), listed = #[true, true, true, true, true, true, true, true, true, true, true, true, true, true, true, true, true, true, true, true, false, false] → ∀ (v : World) (g7 g14 : Nat) (kp2 : Option Addr) (kc2 : Nat) (ip2 : Option Addr) (ic2 : Nat) (hT : v.heap[tb]? = some (.cells #[.pointer (some ⟨ob, 0, none⟩)] 155 (0, 0))) (hO : v.heap[ob]? = some (.cells #[.int .i64 6, .string ⟨#[]⟩, .slice kp2 (n + 1) kc2, .slice ip m ic] 25 (0, 0))) (hB : Below n0 wz v) (hz : wz.heap.size ≤ v.heap.size) (rk : v.ownsRow lo 9 1 (.slice kp2 (n + 1) kc2) (n + 1) (xs ++ [.string K])) (ri : v.ownsRow lo 25 4 (.slice ip2 (m + 1) ic2) (m + 1) (ys ++ [.int .i64 c.y.kind, .string Y, .slice c.kp c.y.keys.length c.kc, .slice c.ip c.y.items.length c.ic])), wpAnyU Tryz.prog .any addOps (A3 n0 wz K c Y tb ob pb lo n m xs ys kp kc ip ic u3 u5 u6 u7 u8 u9 u10 u11 u12 u13 u14 u15 u16 u17 u18 u19 u20 u21 u22 u23 u24) (SA3 c Y tb ob pb n m kp ip kc ic) 18 2 listed { tmps := (T3 K c Y tb pb u3 (pO ob) (pO ob) (pO ob) (pO ob) (pO2 ob) (.slice kp n kc) (.string K) (.slice (some ⟨g7, 0, none⟩) 1 1) (.slice kp2 (n + 1) kc2) (pO ob) (pO ob) (pO3 ob) (.slice ip m ic) (yA c Y) (.slice (some ⟨g14, 0, none⟩) 1 1) (.slice ip2 (m + 1) ic2) (pO ob) (pO2 ob) (pO ob) u24), defers := [] } v := by
  intro listed hl v g7 g14 kp2 kc2 ip2 ic2 hT hO hB hz rk ri
  subst hl
  unfold T3
  try unfold pO
  try unfold pO2
  try unfold pO3
  try unfold yA
  refine wpAnyU_ready (rs := [20]) (by kernel_rfl) (by simp) (AllReadyU.cons (o := op20) rfl (fun K' hK => ?_) AllReadyU.nil)
  · unfold op20
    rw [if_pos (by rfl)]
    go_simp
    refine hK.out _ _ (fun h => absurd h (by decide)) (fun _ => ?_)
    clear hK K'
    try simp only [aSA, aSZ, aSS]
    exact St1_7_8_14_15_16_17_18_19_20x _ (by kernel_rfl) (v) (g7) (g14) (kp2) (kc2) (ip2) (ic2) (hT) (hO) (hB) (hz) (rk) (ri)
 have St1_7_8_14_15_16_17_18x : ∀ (listed : Array Bool), listed = #[true, true, true, true, true, true, true, true, true, true, true, true, true, true, true, true, true, true, true, false, false, false] → ∀ (v : World) (g7 g14 : Nat) (kp2 : Option Addr) (kc2 : Nat) (ip2 : Option Addr) (ic2 : Nat) (hT : v.heap[tb]? = some (.cells #[.pointer (some ⟨ob, 0, none⟩)] 155 (0, 0))) (hO : v.heap[ob]? = some (.cells #[.int .i64 6, .string ⟨#[]⟩, .slice kp2 (n + 1) kc2, .slice ip m ic] 25 (0, 0))) (hB : Below n0 wz v) (hz : wz.heap.size ≤ v.heap.size) (rk : v.ownsRow lo 9 1 (.slice kp2 (n + 1) kc2) (n + 1) (xs ++ [.string K])) (ri : v.ownsRow lo 25 4 (.slice ip2 (m + 1) ic2) (m + 1) (ys ++ [.int .i64 c.y.kind, .string Y, .slice c.kp c.y.keys.length c.kc, .slice c.ip c.y.items.length c.ic])), wpAnyU Tryz.prog .any addOps (A3 n0 wz K c Y tb ob pb lo n m xs ys kp kc ip ic u3 u5 u6 u7 u8 u9 u10 u11 u12 u13 u14 u15 u16 u17 u18 u19 u20 u21 u22 u23 u24) (SA3 c Y tb ob pb n m kp ip kc ic) 18 3 listed { tmps := (T3 K c Y tb pb u3 (pO ob) (pO ob) (pO ob) (pO ob) (pO2 ob) (.slice kp n kc) (.string K) (.slice (some ⟨g7, 0, none⟩) 1 1) (.slice kp2 (n + 1) kc2) (pO ob) (pO ob) (pO3 ob) (.slice ip m ic) (yA c Y) (.slice (some ⟨g14, 0, none⟩) 1 1) (.slice ip2 (m + 1) ic2) (pO ob) (pO2 ob) u23 u24), defers := [] } v := by
  intro listed hl v g7 g14 kp2 kc2 ip2 ic2 hT hO hB hz rk ri
  subst hl
  unfold T3
  try unfold pO
  try unfold pO2
  try unfold pO3
  try unfold yA
  refine wpAnyU_ready (rs := [19]) (by kernel_rfl) (by simp) (AllReadyU.cons (o := op19) rfl (fun K' hK => ?_) AllReadyU.nil)
  · unfold op19
    rw [if_pos (by rfl)]
    go_simp
    refine hK.out _ _ (fun h => absurd h (by decide)) (fun _ => ?_)
    clear hK K'
    try simp only [aSA, aSZ, aSS]
    exact St1_7_8_14_15_16_17_18_19x _ (by kernel_rfl) (v) (g7) (g14) (kp2) (kc2) (ip2) (ic2) (hT) (hO) (hB) (hz) (rk) (ri)
 have St7_8_14_15_16_17_18x : ∀ (listed : Array Bool), listed = #[true, false, true, true, true, true, true, true, true, true, true, true, true, true, true, true, true, true, true, false, false, false] → ∀ (v : World) (g7 g14 : Nat) (kp2 : Option Addr) (kc2 : Nat) (ip2 : Option Addr) (ic2 : Nat) (hT : v.heap[tb]? = some (.cells #[.pointer (some ⟨ob, 0, none⟩)] 155 (0, 0))) (hO : v.heap[ob]? = some (.cells #[.int .i64 6, .string ⟨#[]⟩, .slice kp2 (n + 1) kc2, .slice ip m ic] 25 (0, 0))) (hB : Below n0 wz v) (hz : wz.heap.size ≤ v.heap.size) (rk : v.ownsRow lo 9 1 (.slice kp2 (n + 1) kc2) (n + 1) (xs ++ [.string K])) (ri : v.ownsRow lo 25 4 (.slice ip2 (m + 1) ic2) (m + 1) (ys ++ [.int .i64 c.y.kind, .string Y, .slice c.kp c.y.keys.length c.kc, .slice c.ip c.y.items.length c.ic])), wpAnyU Tryz.prog .any addOps (A3 n0 wz K c Y tb ob pb lo n m xs ys kp kc ip ic u3 u5 u6 u7 u8 u9 u10 u11 u12 u13 u14 u15 u16 u17 u18 u19 u20 u21 u22 u23 u24) (SA3 c Y tb ob pb n m kp ip kc ic) 18 4 listed { tmps := (T3 K c Y tb pb u3 (pO ob) u6 (pO ob) (pO ob) (pO2 ob) (.slice kp n kc) (.string K) (.slice (some ⟨g7, 0, none⟩) 1 1) (.slice kp2 (n + 1) kc2) (pO ob) (pO ob) (pO3 ob) (.slice ip m ic) (yA c Y) (.slice (some ⟨g14, 0, none⟩) 1 1) (.slice ip2 (m + 1) ic2) (pO ob) (pO2 ob) u23 u24), defers := [] } v := by
  intro listed hl v g7 g14 kp2 kc2 ip2 ic2 hT hO hB hz rk ri
  subst hl
  unfold T3
  try unfold pO
  try unfold pO2
  try unfold pO3
  try unfold yA
  refine wpAnyU_ready (rs := [1]) (by kernel_rfl) (by simp) (AllReadyU.cons (o := op1) rfl (fun K' hK => ?_) AllReadyU.nil)
  · unfold op1
    rw [if_pos (by rfl)]
    have q1 := box_cell hT
    go_simp
    refine hK.out _ _ (fun h => absurd h (by decide)) (fun _ => ?_)
    clear hK K'
    try simp only [aSA, aSZ, aSS]
    exact St1_7_8_14_15_16_17_18x _ (by kernel_rfl) (v) (g7) (g14) (kp2) (kc2) (ip2) (ic2) (hT) (hO) (hB) (hz) (rk) (ri)
 have St1_7_8_14_15_16_17x : ∀ (listed : Array Bool), listed = #[true, true, true, true, true, true, true, true, true, true, true, true, true, true, true, true, true, true, false, false, false, false] → ∀ (v : World) (g7 g14 : Nat) (kp2 : Option Addr) (kc2 : Nat) (ip2 : Option Addr) (ic2 : Nat) (hS : (SA3 c Y tb ob pb n m kp ip kc ic) v) (hB : Below n0 wz v) (hz : wz.heap.size ≤ v.heap.size) (rk : v.ownsRow lo 9 1 (.slice kp2 (n + 1) kc2) (n + 1) (xs ++ [.string K])) (ri : v.ownsRow lo 25 4 (.slice ip2 (m + 1) ic2) (m + 1) (ys ++ [.int .i64 c.y.kind, .string Y, .slice c.kp c.y.keys.length c.kc, .slice c.ip c.y.items.length c.ic])), wpAnyU Tryz.prog .any addOps (A3 n0 wz K c Y tb ob pb lo n m xs ys kp kc ip ic u3 u5 u6 u7 u8 u9 u10 u11 u12 u13 u14 u15 u16 u17 u18 u19 u20 u21 u22 u23 u24) (SA3 c Y tb ob pb n m kp ip kc ic) 18 4 listed { tmps := (T3 K c Y tb pb u3 (pO ob) (pO ob) (pO ob) (pO ob) (pO2 ob) (.slice kp n kc) (.string K) (.slice (some ⟨g7, 0, none⟩) 1 1) (.slice kp2 (n + 1) kc2) (pO ob) (pO ob) (pO3 ob) (.slice ip m ic) (yA c Y) (.slice (some ⟨g14, 0, none⟩) 1 1) (.slice ip2 (m + 1) ic2) (pO ob) (pO2 ob) u23 u24), defers := [] } v := by
  intro listed hl v g7 g14 kp2 kc2 ip2 ic2 hS hB hz rk ri
  subst hl
  unfold T3
  try unfold pO
  try unfold pO2
  try unfold pO3
  try unfold yA
  refine wpAnyU_ready (rs := [18]) (by kernel_rfl) (by simp) (AllReadyU.cons (o := op18) rfl (fun K' hK => ?_) AllReadyU.nil)
  · unfold op18
    rw [if_pos (by rfl)]
    have hh := hS.2.1
    have cc := cells4 hh
    obtain ⟨k0, k1, k2, k3⟩ := cc
    have fz : v.frozen? ⟨ob, 2, none⟩ = false := by simp [World.frozen?, hh]
    go_simp
    refine hK.out _ _ (fun h => absurd h (by decide)) (fun _ => ?_)
    clear hK K'
    try simp only [aSA, aSZ, aSS]
    have hh2 := heap_setCell_self hh 2 (.slice kp2 (n + 1) kc2)
    have gs := gb_set v ob 2 (.slice kp2 (n + 1) kc2)
    exact St1_7_8_14_15_16_17_18x _ (by kernel_rfl) (v.setCell ⟨ob, 2, none⟩ (.slice kp2 (n + 1) kc2)) (g7) (g14) (kp2) (kc2) (ip2) (ic2) ((gs.block tb (ltS hS.1) (fun e => hto (Option.some.inj e).symm)).trans hS.1) (hh2) (hB.grown gs (Nat.le_trans hnz hz) (fun b e => by have := Option.some.inj e; omega)) (Nat.le_trans hz gs.size) (row_fr rk (FrP.of (P := fun k => k = ob) gs rfl) (fun k hk e => by have := (rk.lt k hk).1; omega)) (row_fr ri (FrP.of (P := fun k => k = ob) gs rfl) (fun k hk e => by have := (ri.lt k hk).1; omega))
 have St1_7_8_14_15_16x : ∀ (listed : Array Bool), listed = #[true, true, true, true, true, true, true, true, true, true, true, true, true, true, true, true, true, false, false, false, false, false] → ∀ (v : World) (g7 g14 : Nat) (kp2 : Option Addr) (kc2 : Nat) (ip2 : Option Addr) (ic2 : Nat) (hS : (SA3 c Y tb ob pb n m kp ip kc ic) v) (hB : Below n0 wz v) (hz : wz.heap.size ≤ v.heap.size) (rk : v.ownsRow lo 9 1 (.slice kp2 (n + 1) kc2) (n + 1) (xs ++ [.string K])) (ri : v.ownsRow lo 25 4 (.slice ip2 (m + 1) ic2) (m + 1) (ys ++ [.int .i64 c.y.kind, .string Y, .slice c.kp c.y.keys.length c.kc, .slice c.ip c.y.items.length c.ic])), wpAnyU Tryz.prog .any addOps (A3 n0 wz K c Y tb ob pb lo n m xs ys kp kc ip ic u3 u5 u6 u7 u8 u9 u10 u11 u12 u13 u14 u15 u16 u17 u18 u19 u20 u21 u22 u23 u24) (SA3 c Y tb ob pb n m kp ip kc ic) 18 5 listed { tmps := (T3 K c Y tb pb u3 (pO ob) (pO ob) (pO ob) (pO ob) (pO2 ob) (.slice kp n kc) (.string K) (.slice (some ⟨g7, 0, none⟩) 1 1) (.slice kp2 (n + 1) kc2) (pO ob) (pO ob) (pO3 ob) (.slice ip m ic) (yA c Y) (.slice (some ⟨g14, 0, none⟩) 1 1) (.slice ip2 (m + 1) ic2) (pO ob) u22 u23 u24), defers := [] } v := by
  intro listed hl v g7 g14 kp2 kc2 ip2 ic2 hS hB hz rk ri
  subst hl
  unfold T3
  try unfold pO
  try unfold pO2
  try unfold pO3
  try unfold yA
  refine wpAnyU_ready (rs := [17]) (by kernel_rfl) (by simp) (AllReadyU.cons (o := op17) rfl (fun K' hK => ?_) AllReadyU.nil)
  · unfold op17
    rw [if_pos (by rfl)]
    go_simp
    refine hK.out _ _ (fun _ => hS) (fun hS2 => ?_)
    clear hK K'
    try simp only [aSA, aSZ, aSS]
    exact St1_7_8_14_15_16_17x _ (by kernel_rfl) (v) (g7) (g14) (kp2) (kc2) (ip2) (ic2) (hS) (hB) (hz) (rk) (ri)
 have St7_8_14_15_16_17x : ∀ (listed : Array Bool), listed = #[true, false, true, true, true, true, true, true, true, true, true, true, true, true, true, true, true, true, false, false, false, false] → ∀ (v : World) (g7 g14 : Nat) (kp2 : Option Addr) (kc2 : Nat) (ip2 : Option Addr) (ic2 : Nat) (hS : (SA3 c Y tb ob pb n m kp ip kc ic) v) (hB : Below n0 wz v) (hz : wz.heap.size ≤ v.heap.size) (rk : v.ownsRow lo 9 1 (.slice kp2 (n + 1) kc2) (n + 1) (xs ++ [.string K])) (ri : v.ownsRow lo 25 4 (.slice ip2 (m + 1) ic2) (m + 1) (ys ++ [.int .i64 c.y.kind, .string Y, .slice c.kp c.y.keys.length c.kc, .slice c.ip c.y.items.length c.ic])), wpAnyU Tryz.prog .any addOps (A3 n0 wz K c Y tb ob pb lo n m xs ys kp kc ip ic u3 u5 u6 u7 u8 u9 u10 u11 u12 u13 u14 u15 u16 u17 u18 u19 u20 u21 u22 u23 u24) (SA3 c Y tb ob pb n m kp ip kc ic) 18 5 listed { tmps := (T3 K c Y tb pb u3 (pO ob) u6 (pO ob) (pO ob) (pO2 ob) (.slice kp n kc) (.string K) (.slice (some ⟨g7, 0, none⟩) 1 1) (.slice kp2 (n + 1) kc2) (pO ob) (pO ob) (pO3 ob) (.slice ip m ic) (yA c Y) (.slice (some ⟨g14, 0, none⟩) 1 1) (.slice ip2 (m + 1) ic2) (pO ob) (pO2 ob) u23 u24), defers := [] } v := by
  intro listed hl v g7 g14 kp2 kc2 ip2 ic2 hS hB hz rk ri
  subst hl
  unfold T3
  try unfold pO
  try unfold pO2
  try unfold pO3
  try unfold yA
  refine wpAnyU_ready (rs := [1, 18]) (by kernel_rfl) (by simp) (AllReadyU.cons (o := op1) rfl (fun K' hK => ?_) (AllReadyU.cons (o := op18) rfl (fun K' hK => ?_) AllReadyU.nil))
  · unfold op1
    rw [if_pos (by rfl)]
    have q1 := box_cell hS.1
    go_simp
    refine hK.out _ _ (fun _ => hS) (fun hS2 => ?_)
    clear hK K'
    try simp only [aSA, aSZ, aSS]
    exact St1_7_8_14_15_16_17x _ (by kernel_rfl) (v) (g7) (g14) (kp2) (kc2) (ip2) (ic2) (hS) (hB) (hz) (rk) (ri)
  · unfold op18
    rw [if_pos (by rfl)]
    have hh := hS.2.1
    have cc := cells4 hh
    obtain ⟨k0, k1, k2, k3⟩ := cc
    have fz : v.frozen? ⟨ob, 2, none⟩ = false := by simp [World.frozen?, hh]
    go_simp
    refine hK.out _ _ (fun h => absurd h (by decide)) (fun _ => ?_)
    clear hK K'
    try simp only [aSA, aSZ, aSS]
    have hh2 := heap_setCell_self hh 2 (.slice kp2 (n + 1) kc2)
    have gs := gb_set v ob 2 (.slice kp2 (n + 1) kc2)
    exact St7_8_14_15_16_17_18x _ (by kernel_rfl) (v.setCell ⟨ob, 2, none⟩ (.slice kp2 (n + 1) kc2)) (g7) (g14) (kp2) (kc2) (ip2) (ic2) ((gs.block tb (ltS hS.1) (fun e => hto (Option.some.inj e).symm)).trans hS.1) (hh2) (hB.grown gs (Nat.le_trans hnz hz) (fun b e => by have := Option.some.inj e; omega)) (Nat.le_trans hz gs.size) (row_fr rk (FrP.of (P := fun k => k = ob) gs rfl) (fun k hk e => by have := (rk.lt k hk).1; omega)) (row_fr ri (FrP.of (P := fun k => k = ob) gs rfl) (fun k hk e => by have := (ri.lt k hk).1; omega))
 have St7_8_14_15_16x : ∀ (listed : Array Bool), listed = #[true, false, true, true, true, true, true, true, true, true, true, true, true, true, true, true, true, false, false, false, false, false] → ∀ (v : World) (g7 g14 : Nat) (kp2 : Option Addr) (kc2 : Nat) (ip2 : Option Addr) (ic2 : Nat) (hS : (SA3 c Y tb ob pb n m kp ip kc ic) v) (hB : Below n0 wz v) (hz : wz.heap.size ≤ v.heap.size) (rk : v.ownsRow lo 9 1 (.slice kp2 (n + 1) kc2) (n + 1) (xs ++ [.string K])) (ri : v.ownsRow lo 25 4 (.slice ip2 (m + 1) ic2) (m + 1) (ys ++ [.int .i64 c.y.kind, .string Y, .slice c.kp c.y.keys.length c.kc, .slice c.ip c.y.items.length c.ic])), wpAnyU Tryz.prog .any addOps (A3 n0 wz K c Y tb ob pb lo n m xs ys kp kc ip ic u3 u5 u6 u7 u8 u9 u10 u11 u12 u13 u14 u15 u16 u17 u18 u19 u20 u21 u22 u23 u24) (SA3 c Y tb ob pb n m kp ip kc ic) 18 6 listed { tmps := (T3 K c Y tb pb u3 (pO ob) u6 (pO ob) (pO ob) (pO2 ob) (.slice kp n kc) (.string K) (.slice (some ⟨g7, 0, none⟩) 1 1) (.slice kp2 (n + 1) kc2) (pO ob) (pO ob) (pO3 ob) (.slice ip m ic) (yA c Y) (.slice (some ⟨g14, 0, none⟩) 1 1) (.slice ip2 (m + 1) ic2) (pO ob) u22 u23 u24), defers := [] } v := by
  intro listed hl v g7 g14 kp2 kc2 ip2 ic2 hS hB hz rk ri
  subst hl
  unfold T3
  try unfold pO
  try unfold pO2
  try unfold pO3
  try unfold yA
  refine wpAnyU_ready (rs := [1, 17]) (by kernel_rfl) (by simp) (AllReadyU.cons (o := op1) rfl (fun K' hK => ?_) (AllReadyU.cons (o := op17) rfl (fun K' hK => ?_) AllReadyU.nil))
  · unfold op1
    rw [if_pos (by rfl)]
    have q1 := box_cell hS.1
    go_simp
    refine hK.out _ _ (fun _ => hS) (fun hS2 => ?_)
    clear hK K'
    try simp only [aSA, aSZ, aSS]
    exact St1_7_8_14_15_16x _ (by kernel_rfl) (v) (g7) (g14) (kp2) (kc2) (ip2) (ic2) (hS) (hB) (hz) (rk) (ri)
  · unfold op17
    rw [if_pos (by rfl)]
    go_simp
    refine hK.out _ _ (fun _ => hS) (fun hS2 => ?_)
    clear hK K'
    try simp only [aSA, aSZ, aSS]
    exact St7_8_14_15_16_17x _ (by kernel_rfl) (v) (g7) (g14) (kp2) (kc2) (ip2) (ic2) (hS) (hB) (hz) (rk) (ri)
 have St1_7_8_14_15x : ∀ (listed : Array Bool), listed = #[true, true, true, true, true, true, true, true, true, true, true, true, true, true, true, true, false, false, false, false, false, false] → ∀ (v : World) (g7 g14 : Nat) (kp2 : Option Addr) (kc2 : Nat) (ip2 : Option Addr) (ic2 : Nat) (hS : (SA3 c Y tb ob pb n m kp ip kc ic) v) (hB : Below n0 wz v) (hz : wz.heap.size ≤ v.heap.size) (rk : v.ownsRow lo 9 1 (.slice kp2 (n + 1) kc2) (n + 1) (xs ++ [.string K])) (ri : v.ownsRow lo 25 4 (.slice ip2 (m + 1) ic2) (m + 1) (ys ++ [.int .i64 c.y.kind, .string Y, .slice c.kp c.y.keys.length c.kc, .slice c.ip c.y.items.length c.ic])), wpAnyU Tryz.prog .any addOps (A3 n0 wz K c Y tb ob pb lo n m xs ys kp kc ip ic u3 u5 u6 u7 u8 u9 u10 u11 u12 u13 u14 u15 u16 u17 u18 u19 u20 u21 u22 u23 u24) (SA3 c Y tb ob pb n m kp ip kc ic) 18 6 listed { tmps := (T3 K c Y tb pb u3 (pO ob) (pO ob) (pO ob) (pO ob) (pO2 ob) (.slice kp n kc) (.string K) (.slice (some ⟨g7, 0, none⟩) 1 1) (.slice kp2 (n + 1) kc2) (pO ob) (pO ob) (pO3 ob) (.slice ip m ic) (yA c Y) (.slice (some ⟨g14, 0, none⟩) 1 1) (.slice ip2 (m + 1) ic2) u21 u22 u23 u24), defers := [] } v := by
  intro listed hl v g7 g14 kp2 kc2 ip2 ic2 hS hB hz rk ri
  subst hl
  unfold T3
  try unfold pO
  try unfold pO2
  try unfold pO3
  try unfold yA
  refine wpAnyU_ready (rs := [16]) (by kernel_rfl) (by simp) (AllReadyU.cons (o := op16) rfl (fun K' hK => ?_) AllReadyU.nil)
  · unfold op16
    rw [if_pos (by rfl)]
    go_simp
    refine hK.out _ _ (fun _ => hS) (fun hS2 => ?_)
    clear hK K'
    try simp only [aSA, aSZ, aSS]
    exact St1_7_8_14_15_16x _ (by kernel_rfl) (v) (g7) (g14) (kp2) (kc2) (ip2) (ic2) (hS) (hB) (hz) (rk) (ri)
 have St7_8_14_15x : ∀ (listed : Array Bool), listed = #[true, false, true, true, true, true, true, true, true, true, true, true, true, true, true, true, false, false, false, false, false, false] → ∀ (v : World) (g7 g14 : Nat) (kp2 : Option Addr) (kc2 : Nat) (ip2 : Option Addr) (ic2 : Nat) (hS : (SA3 c Y tb ob pb n m kp ip kc ic) v) (hB : Below n0 wz v) (hz : wz.heap.size ≤ v.heap.size) (rk : v.ownsRow lo 9 1 (.slice kp2 (n + 1) kc2) (n + 1) (xs ++ [.string K])) (ri : v.ownsRow lo 25 4 (.slice ip2 (m + 1) ic2) (m + 1) (ys ++ [.int .i64 c.y.kind, .string Y, .slice c.kp c.y.keys.length c.kc, .slice c.ip c.y.items.length c.ic])), wpAnyU Tryz.prog .any addOps (A3 n0 wz K c Y tb ob pb lo n m xs ys kp kc ip ic u3 u5 u6 u7 u8 u9 u10 u11 u12 u13 u14 u15 u16 u17 u18 u19 u20 u21 u22 u23 u24) (SA3 c Y tb ob pb n m kp ip kc ic) 18 7 listed { tmps := (T3 K c Y tb pb u3 (pO ob) u6 (pO ob) (pO ob) (pO2 ob) (.slice kp n kc) (.string K) (.slice (some ⟨g7, 0, none⟩) 1 1) (.slice kp2 (n + 1) kc2) (pO ob) (pO ob) (pO3 ob) (.slice ip m ic) (yA c Y) (.slice (some ⟨g14, 0, none⟩) 1 1) (.slice ip2 (m + 1) ic2) u21 u22 u23 u24), defers := [] } v := by
  intro listed hl v g7 g14 kp2 kc2 ip2 ic2 hS hB hz rk ri
  subst hl
  unfold T3
  try unfold pO
  try unfold pO2
  try unfold pO3
  try unfold yA
  refine wpAnyU_ready (rs := [1, 16]) (by kernel_rfl) (by simp) (AllReadyU.cons (o := op1) rfl (fun K' hK => ?_) (AllReadyU.cons (o := op16) rfl (fun K' hK => ?_) AllReadyU.nil))
  · unfold op1
    rw [if_pos (by rfl)]
    have q1 := box_cell hS.1
    go_simp
    refine hK.out _ _ (fun _ => hS) (fun hS2 => ?_)
    clear hK K'
    try simp only [aSA, aSZ, aSS]
    exact St1_7_8_14_15x _ (by kernel_rfl) (v) (g7) (g14) (kp2) (kc2) (ip2) (ic2) (hS) (hB) (hz) (rk) (ri)
  · unfold op16
    rw [if_pos (by rfl)]
    go_simp
    refine hK.out _ _ (fun _ => hS) (fun hS2 => ?_)
    clear hK K'
    try simp only [aSA, aSZ, aSS]
    exact St7_8_14_15_16x _ (by kernel_rfl) (v) (g7) (g14) (kp2) (kc2) (ip2) (ic2) (hS) (hB) (hz) (rk) (ri)
 have St1_7_8_14x : ∀ (listed : Array Bool), listed = #[true, true, true, true, true, true, true, true, true, true, true, true, true, true, true, false, false, false, false, false, false, false] → ∀ (v : World) (g7 g14 : Nat) (kp2 : Option Addr) (kc2 : Nat) (ip2 : Option Addr) (ic2 : Nat) (hS : (SA3 c Y tb ob pb n m kp ip kc ic) v) (hB : Below n0 wz v) (hz : wz.heap.size ≤ v.heap.size) (rk : v.ownsRow lo 9 1 (.slice kp2 (n + 1) kc2) (n + 1) (xs ++ [.string K])) (ri : v.ownsRow lo 25 4 (.slice ip m ic) m ys) (t14 : v.heap[g14]? = some (.cells #[.int .i64 c.y.kind, .string Y, .slice c.kp c.y.keys.length c.kc, .slice c.ip c.y.items.length c.ic] 25 (0, 0)) ∧ wz.heap.size ≤ g14), wpAnyU Tryz.prog .any addOps (A3 n0 wz K c Y tb ob pb lo n m xs ys kp kc ip ic u3 u5 u6 u7 u8 u9 u10 u11 u12 u13 u14 u15 u16 u17 u18 u19 u20 u21 u22 u23 u24) (SA3 c Y tb ob pb n m kp ip kc ic) 18 7 listed { tmps := (T3 K c Y tb pb u3 (pO ob) (pO ob) (pO ob) (pO ob) (pO2 ob) (.slice kp n kc) (.string K) (.slice (some ⟨g7, 0, none⟩) 1 1) (.slice kp2 (n + 1) kc2) (pO ob) (pO ob) (pO3 ob) (.slice ip m ic) (yA c Y) (.slice (some ⟨g14, 0, none⟩) 1 1) u20 u21 u22 u23 u24), defers := [] } v := by
  intro listed hl v g7 g14 kp2 kc2 ip2 ic2 hS hB hz rk ri t14
  subst hl
  unfold T3
  try unfold pO
  try unfold pO2
  try unfold pO3
  try unfold yA
  refine wpAnyU_ready (rs := [15]) (by kernel_rfl) (by simp) (AllReadyU.cons (o := op15) rfl (fun K' hK => ?_) AllReadyU.nil)
  · unfold op15
    rw [if_pos (by rfl)]
    refine wp_append_own_at (.tmp 17) (.tmp 19) 23 rfl lo 25 i45_ _ 4 72 Tryz.underlying23 hi45 hz450 hz451 hz452 rfl (by decide) _ _ _ rfl ri ⟨g14, 0, none⟩ 1 1 [.int .i64 c.y.kind, .string Y, .slice c.kp c.y.keys.length c.kc, .slice c.ip c.y.items.length c.ic] rfl rfl (row_news t14.1) (fun u hu => by simp only [List.mem_cons, List.not_mem_nil, or_false] at hu; rcases hu with rfl | rfl | rfl | rfl <;> rfl) (by unfold maxLen; omega) (by omega) (by omega) ?_
    intro kv2 w5 hk2 hgk hat
    obtain ⟨p2, q2, rfl⟩ := row_form hk2
    have hne : ∀ b, (Value.slice ip m ic).ownBlock = some b → b < pb ∧ lo ≤ b := fun b hb => ⟨hib b hb, (ri.lt b hb).1⟩
    have bl : ∀ b, b < v.heap.size → (b < lo ∨ pb ≤ b) → w5.heap[b]? = v.heap[b]? := fun b hb hh => hgk.block b hb (fun e => by have := hne b e.symm; omega)
    have s1 : (SA3 c Y tb ob pb n m kp ip kc ic) w5 := ⟨(bl _ (ltS hS.1) (.inl htl)).trans hS.1, (bl _ (ltS hS.2.1) (.inl hol)).trans hS.2.1, (bl _ (ltS hS.2.2) (.inr (Nat.le_refl _))).trans hS.2.2⟩
    refine hK.out _ _ (fun _ => s1) (fun hS2 => ?_)
    clear hK K'
    try simp only [Act.put, aSA, aSZ, aSS]
    exact St1_7_8_14_15x _ (by kernel_rfl) (w5) (g7) (g14) (kp2) (kc2) (p2) (q2) (s1) (hB.grown hgk (Nat.le_trans hnz hz) (fun b e => by have := hne b e; omega)) (Nat.le_trans hz hgk.size) (row_fr rk (FrP.of_row (P := fun k => (Value.slice ip m ic).ownBlock = some k) hgk (fun k hk => hk)) (fun k hk e => LV.apart rk ri k hk e)) (hk2)
 have St1_7_8x : ∀ (listed : Array Bool), listed = #[true, true, true, true, true, true, true, true, true, true, true, true, true, true, false, false, false, false, false, false, false, false] → ∀ (v : World) (g7 g14 : Nat) (kp2 : Option Addr) (kc2 : Nat) (ip2 : Option Addr) (ic2 : Nat) (hS : (SA3 c Y tb ob pb n m kp ip kc ic) v) (hB : Below n0 wz v) (hz : wz.heap.size ≤ v.heap.size) (rk : v.ownsRow lo 9 1 (.slice kp2 (n + 1) kc2) (n + 1) (xs ++ [.string K])) (ri : v.ownsRow lo 25 4 (.slice ip m ic) m ys), wpAnyU Tryz.prog .any addOps (A3 n0 wz K c Y tb ob pb lo n m xs ys kp kc ip ic u3 u5 u6 u7 u8 u9 u10 u11 u12 u13 u14 u15 u16 u17 u18 u19 u20 u21 u22 u23 u24) (SA3 c Y tb ob pb n m kp ip kc ic) 18 8 listed { tmps := (T3 K c Y tb pb u3 (pO ob) (pO ob) (pO ob) (pO ob) (pO2 ob) (.slice kp n kc) (.string K) (.slice (some ⟨g7, 0, none⟩) 1 1) (.slice kp2 (n + 1) kc2) (pO ob) (pO ob) (pO3 ob) (.slice ip m ic) (yA c Y) u19 u20 u21 u22 u23 u24), defers := [] } v := by
  intro listed hl v g7 g14 kp2 kc2 ip2 ic2 hS hB hz rk ri
  subst hl
  unfold T3
  try unfold pO
  try unfold pO2
  try unfold pO3
  try unfold yA
  refine wpAnyU_ready (rs := [14]) (by kernel_rfl) (by simp) (AllReadyU.cons (o := op14) rfl (fun K' hK => ?_) AllReadyU.nil)
  · unfold op14
    rw [if_pos (by rfl)]
    go_simp
    have ab := (Below.refl v.heap.size v).alloc (Nat.le_refl _) (.cells #[.int .i64 c.y.kind, .string Y, .slice c.kp c.y.keys.length c.kc, .slice c.ip c.y.items.length c.ic] 25)
    have s1 : (SA3 c Y tb ob pb n m kp ip kc ic) (v.alloc (.cells #[.int .i64 c.y.kind, .string Y, .slice c.kp c.y.keys.length c.kc, .slice c.ip c.y.items.length c.ic] 25)) := ⟨(ab.block _ (ltS hS.1)).trans hS.1, (ab.block _ (ltS hS.2.1)).trans hS.2.1, (ab.block _ (ltS hS.2.2)).trans hS.2.2⟩
    refine hK.out _ _ (fun _ => s1) (fun hS2 => ?_)
    clear hK K'
    try simp only [aSA, aSZ, aSS]
    exact St1_7_8_14x _ (by kernel_rfl) (v.alloc (.cells #[.int .i64 c.y.kind, .string Y, .slice c.kp c.y.keys.length c.kc, .slice c.ip c.y.items.length c.ic] 25)) (g7) (v.heap.size) (kp2) (kc2) (ip2) (ic2) (s1) (hB.alloc (Nat.le_trans hnz hz) _) (Nat.le_trans hz ab.size) (row_fr rk (FrP.of_none (P := fun _ => False) (World.grownBy_alloc v (.cells #[.int .i64 c.y.kind, .string Y, .slice c.kp c.y.keys.length c.kc, .slice c.ip c.y.items.length c.ic] 25) none)) (fun _ _ h => h)) (row_fr ri (FrP.of_none (P := fun _ => False) (World.grownBy_alloc v (.cells #[.int .i64 c.y.kind, .string Y, .slice c.kp c.y.keys.length c.kc, .slice c.ip c.y.items.length c.ic] 25) none)) (fun _ _ h => h)) (⟨alloc_at v _, hz⟩)
 have St1_7_14x : ∀ (listed : Array Bool), listed = #[true, true, true, true, true, true, true, true, false, true, true, true, true, true, true, false, false, false, false, false, false, false] → ∀ (v : World) (g7 g14 : Nat) (kp2 : Option Addr) (kc2 : Nat) (ip2 : Option Addr) (ic2 : Nat) (hS : (SA3 c Y tb ob pb n m kp ip kc ic) v) (hB : Below n0 wz v) (hz : wz.heap.size ≤ v.heap.size) (rk : v.ownsRow lo 9 1 (.slice kp n kc) n xs) (ri : v.ownsRow lo 25 4 (.slice ip m ic) m ys) (t7 : v.heap[g7]? = some (.cells #[.string K] 9 (0, 0)) ∧ wz.heap.size ≤ g7) (t14 : v.heap[g14]? = some (.cells #[.int .i64 c.y.kind, .string Y, .slice c.kp c.y.keys.length c.kc, .slice c.ip c.y.items.length c.ic] 25 (0, 0)) ∧ wz.heap.size ≤ g14), wpAnyU Tryz.prog .any addOps (A3 n0 wz K c Y tb ob pb lo n m xs ys kp kc ip ic u3 u5 u6 u7 u8 u9 u10 u11 u12 u13 u14 u15 u16 u17 u18 u19 u20 u21 u22 u23 u24) (SA3 c Y tb ob pb n m kp ip kc ic) 18 8 listed { tmps := (T3 K c Y tb pb u3 (pO ob) (pO ob) (pO ob) (pO ob) (pO2 ob) (.slice kp n kc) (.string K) (.slice (some ⟨g7, 0, none⟩) 1 1) u13 (pO ob) (pO ob) (pO3 ob) (.slice ip m ic) (yA c Y) (.slice (some ⟨g14, 0, none⟩) 1 1) u20 u21 u22 u23 u24), defers := [] } v := by
  intro listed hl v g7 g14 kp2 kc2 ip2 ic2 hS hB hz rk ri t7 t14
  subst hl
  unfold T3
  try unfold pO
  try unfold pO2
  try unfold pO3
  try unfold yA
  refine wpAnyU_ready (rs := [8]) (by kernel_rfl) (by simp) (AllReadyU.cons (o := op8) rfl (fun K' hK => ?_) AllReadyU.nil)
  · unfold op8
    rw [if_pos (by rfl)]
    refine wp_append_own_at (.tmp 10) (.tmp 12) 22 rfl lo 9 i9_ _ 1 16 Tryz.underlying22 hi9 hz90 hz91 hz92 rfl (by decide) _ _ _ rfl rk ⟨g7, 0, none⟩ 1 1 [.string K] rfl rfl (row_news t7.1) (fun u hu => by rw [List.mem_singleton.1 hu]; rfl) (by unfold maxLen; omega) (by omega) (by omega) ?_
    intro kv2 w5 hk2 hgk hat
    obtain ⟨p2, q2, rfl⟩ := row_form hk2
    have hne : ∀ b, (Value.slice kp n kc).ownBlock = some b → b < pb ∧ lo ≤ b := fun b hb => ⟨hkb b hb, (rk.lt b hb).1⟩
    have bl : ∀ b, b < v.heap.size → (b < lo ∨ pb ≤ b) → w5.heap[b]? = v.heap[b]? := fun b hb hh => hgk.block b hb (fun e => by have := hne b e.symm; omega)
    have s1 : (SA3 c Y tb ob pb n m kp ip kc ic) w5 := ⟨(bl _ (ltS hS.1) (.inl htl)).trans hS.1, (bl _ (ltS hS.2.1) (.inl hol)).trans hS.2.1, (bl _ (ltS hS.2.2) (.inr (Nat.le_refl _))).trans hS.2.2⟩
    refine hK.out _ _ (fun _ => s1) (fun hS2 => ?_)
    clear hK K'
    try simp only [Act.put, aSA, aSZ, aSS]
    exact St1_7_8_14x _ (by kernel_rfl) (w5) (g7) (g14) (p2) (q2) (ip2) (ic2) (s1) (hB.grown hgk (Nat.le_trans hnz hz) (fun b e => by have := hne b e; omega)) (Nat.le_trans hz hgk.size) (hk2) (row_fr ri (FrP.of_row (P := fun k => (Value.slice kp n kc).ownBlock = some k) hgk (fun k hk => hk)) (fun k hk e => LV.apart rk ri k e hk)) (⟨(bl _ (ltS t14.1) (.inr (by omega))).trans t14.1, t14.2⟩)
 have St7_8_14x : ∀ (listed : Array Bool), listed = #[true, false, true, true, true, true, true, true, true, true, true, true, true, true, true, false, false, false, false, false, false, false] → ∀ (v : World) (g7 g14 : Nat) (kp2 : Option Addr) (kc2 : Nat) (ip2 : Option Addr) (ic2 : Nat) (hS : (SA3 c Y tb ob pb n m kp ip kc ic) v) (hB : Below n0 wz v) (hz : wz.heap.size ≤ v.heap.size) (rk : v.ownsRow lo 9 1 (.slice kp2 (n + 1) kc2) (n + 1) (xs ++ [.string K])) (ri : v.ownsRow lo 25 4 (.slice ip m ic) m ys) (t14 : v.heap[g14]? = some (.cells #[.int .i64 c.y.kind, .string Y, .slice c.kp c.y.keys.length c.kc, .slice c.ip c.y.items.length c.ic] 25 (0, 0)) ∧ wz.heap.size ≤ g14), wpAnyU Tryz.prog .any addOps (A3 n0 wz K c Y tb ob pb lo n m xs ys kp kc ip ic u3 u5 u6 u7 u8 u9 u10 u11 u12 u13 u14 u15 u16 u17 u18 u19 u20 u21 u22 u23 u24) (SA3 c Y tb ob pb n m kp ip kc ic) 18 8 listed { tmps := (T3 K c Y tb pb u3 (pO ob) u6 (pO ob) (pO ob) (pO2 ob) (.slice kp n kc) (.string K) (.slice (some ⟨g7, 0, none⟩) 1 1) (.slice kp2 (n + 1) kc2) (pO ob) (pO ob) (pO3 ob) (.slice ip m ic) (yA c Y) (.slice (some ⟨g14, 0, none⟩) 1 1) u20 u21 u22 u23 u24), defers := [] } v := by
  intro listed hl v g7 g14 kp2 kc2 ip2 ic2 hS hB hz rk ri t14
  subst hl
  unfold T3
  try unfold pO
  try unfold pO2
  try unfold pO3
  try unfold yA
  refine wpAnyU_ready (rs := [1, 15]) (by kernel_rfl) (by simp) (AllReadyU.cons (o := op1) rfl (fun K' hK => ?_) (AllReadyU.cons (o := op15) rfl (fun K' hK => ?_) AllReadyU.nil))
  · unfold op1
    rw [if_pos (by rfl)]
    have q1 := box_cell hS.1
    go_simp
    refine hK.out _ _ (fun _ => hS) (fun hS2 => ?_)
    clear hK K'
    try simp only [aSA, aSZ, aSS]
    exact St1_7_8_14x _ (by kernel_rfl) (v) (g7) (g14) (kp2) (kc2) (ip2) (ic2) (hS) (hB) (hz) (rk) (ri) (t14)
  · unfold op15
    rw [if_pos (by rfl)]
    refine wp_append_own_at (.tmp 17) (.tmp 19) 23 rfl lo 25 i45_ _ 4 72 Tryz.underlying23 hi45 hz450 hz451 hz452 rfl (by decide) _ _ _ rfl ri ⟨g14, 0, none⟩ 1 1 [.int .i64 c.y.kind, .string Y, .slice c.kp c.y.keys.length c.kc, .slice c.ip c.y.items.length c.ic] rfl rfl (row_news t14.1) (fun u hu => by simp only [List.mem_cons, List.not_mem_nil, or_false] at hu; rcases hu with rfl | rfl | rfl | rfl <;> rfl) (by unfold maxLen; omega) (by omega) (by omega) ?_
    intro kv2 w5 hk2 hgk hat
    obtain ⟨p2, q2, rfl⟩ := row_form hk2
    have hne : ∀ b, (Value.slice ip m ic).ownBlock = some b → b < pb ∧ lo ≤ b := fun b hb => ⟨hib b hb, (ri.lt b hb).1⟩
    have bl : ∀ b, b < v.heap.size → (b < lo ∨ pb ≤ b) → w5.heap[b]? = v.heap[b]? := fun b hb hh => hgk.block b hb (fun e => by have := hne b e.symm; omega)
    have s1 : (SA3 c Y tb ob pb n m kp ip kc ic) w5 := ⟨(bl _ (ltS hS.1) (.inl htl)).trans hS.1, (bl _ (ltS hS.2.1) (.inl hol)).trans hS.2.1, (bl _ (ltS hS.2.2) (.inr (Nat.le_refl _))).trans hS.2.2⟩
    refine hK.out _ _ (fun _ => s1) (fun hS2 => ?_)
    clear hK K'
    try simp only [Act.put, aSA, aSZ, aSS]
    exact St7_8_14_15x _ (by kernel_rfl) (w5) (g7) (g14) (kp2) (kc2) (p2) (q2) (s1) (hB.grown hgk (Nat.le_trans hnz hz) (fun b e => by have := hne b e; omega)) (Nat.le_trans hz hgk.size) (row_fr rk (FrP.of_row (P := fun k => (Value.slice ip m ic).ownBlock = some k) hgk (fun k hk => hk)) (fun k hk e => LV.apart rk ri k hk e)) (hk2)
 have St1_14x : ∀ (listed : Array Bool), listed = #[true, true, true, true, true, true, true, false, false, true, true, true, true, true, true, false, false, false, false, false, false, false] → ∀ (v : World) (g7 g14 : Nat) (kp2 : Option Addr) (kc2 : Nat) (ip2 : Option Addr) (ic2 : Nat) (hS : (SA3 c Y tb ob pb n m kp ip kc ic) v) (hB : Below n0 wz v) (hz : wz.heap.size ≤ v.heap.size) (rk : v.ownsRow lo 9 1 (.slice kp n kc) n xs) (ri : v.ownsRow lo 25 4 (.slice ip m ic) m ys) (t14 : v.heap[g14]? = some (.cells #[.int .i64 c.y.kind, .string Y, .slice c.kp c.y.keys.length c.kc, .slice c.ip c.y.items.length c.ic] 25 (0, 0)) ∧ wz.heap.size ≤ g14), wpAnyU Tryz.prog .any addOps (A3 n0 wz K c Y tb ob pb lo n m xs ys kp kc ip ic u3 u5 u6 u7 u8 u9 u10 u11 u12 u13 u14 u15 u16 u17 u18 u19 u20 u21 u22 u23 u24) (SA3 c Y tb ob pb n m kp ip kc ic) 18 9 listed { tmps := (T3 K c Y tb pb u3 (pO ob) (pO ob) (pO ob) (pO ob) (pO2 ob) (.slice kp n kc) (.string K) u12 u13 (pO ob) (pO ob) (pO3 ob) (.slice ip m ic) (yA c Y) (.slice (some ⟨g14, 0, none⟩) 1 1) u20 u21 u22 u23 u24), defers := [] } v := by
  intro listed hl v g7 g14 kp2 kc2 ip2 ic2 hS hB hz rk ri t14
  subst hl
  unfold T3
  try unfold pO
  try unfold pO2
  try unfold pO3
  try unfold yA
  refine wpAnyU_ready (rs := [7]) (by kernel_rfl) (by simp) (AllReadyU.cons (o := op7) rfl (fun K' hK => ?_) AllReadyU.nil)
  · unfold op7
    rw [if_pos (by rfl)]
    go_simp
    have ab := (Below.refl v.heap.size v).alloc (Nat.le_refl _) (.cells #[.string K] 9)
    have s1 : (SA3 c Y tb ob pb n m kp ip kc ic) (v.alloc (.cells #[.string K] 9)) := ⟨(ab.block _ (ltS hS.1)).trans hS.1, (ab.block _ (ltS hS.2.1)).trans hS.2.1, (ab.block _ (ltS hS.2.2)).trans hS.2.2⟩
    refine hK.out _ _ (fun _ => s1) (fun hS2 => ?_)
    clear hK K'
    try simp only [aSA, aSZ, aSS]
    exact St1_7_14x _ (by kernel_rfl) (v.alloc (.cells #[.string K] 9)) (v.heap.size) (g14) (kp2) (kc2) (ip2) (ic2) (s1) (hB.alloc (Nat.le_trans hnz hz) _) (Nat.le_trans hz ab.size) (row_fr rk (FrP.of_none (P := fun _ => False) (World.grownBy_alloc v (.cells #[.string K] 9) none)) (fun _ _ h => h)) (row_fr ri (FrP.of_none (P := fun _ => False) (World.grownBy_alloc v (.cells #[.string K] 9) none)) (fun _ _ h => h)) (⟨alloc_at v _, hz⟩) (⟨(ab.block _ (ltS t14.1)).trans t14.1, t14.2⟩)
 have St7_8x : ∀ (listed : Array Bool), listed = #[true, false, true, true, true, true, true, true, true, true, true, true, true, true, false, false, false, false, false, false, false, false] → ∀ (v : World) (g7 g14 : Nat) (kp2 : Option Addr) (kc2 : Nat) (ip2 : Option Addr) (ic2 : Nat) (hS : (SA3 c Y tb ob pb n m kp ip kc ic) v) (hB : Below n0 wz v) (hz : wz.heap.size ≤ v.heap.size) (rk : v.ownsRow lo 9 1 (.slice kp2 (n + 1) kc2) (n + 1) (xs ++ [.string K])) (ri : v.ownsRow lo 25 4 (.slice ip m ic) m ys), wpAnyU Tryz.prog .any addOps (A3 n0 wz K c Y tb ob pb lo n m xs ys kp kc ip ic u3 u5 u6 u7 u8 u9 u10 u11 u12 u13 u14 u15 u16 u17 u18 u19 u20 u21 u22 u23 u24) (SA3 c Y tb ob pb n m kp ip kc ic) 18 9 listed { tmps := (T3 K c Y tb pb u3 (pO ob) u6 (pO ob) (pO ob) (pO2 ob) (.slice kp n kc) (.string K) (.slice (some ⟨g7, 0, none⟩) 1 1) (.slice kp2 (n + 1) kc2) (pO ob) (pO ob) (pO3 ob) (.slice ip m ic) (yA c Y) u19 u20 u21 u22 u23 u24), defers := [] } v := by
  intro listed hl v g7 g14 kp2 kc2 ip2 ic2 hS hB hz rk ri
  subst hl
  unfold T3
  try unfold pO
  try unfold pO2
  try unfold pO3
  try unfold yA
  refine wpAnyU_ready (rs := [1, 14]) (by kernel_rfl) (by simp) (AllReadyU.cons (o := op1) rfl (fun K' hK => ?_) (AllReadyU.cons (o := op14) rfl (fun K' hK => ?_) AllReadyU.nil))
  · unfold op1
    rw [if_pos (by rfl)]
    have q1 := box_cell hS.1
    go_simp
    refine hK.out _ _ (fun _ => hS) (fun hS2 => ?_)
    clear hK K'
    try simp only [aSA, aSZ, aSS]
    exact St1_7_8x _ (by kernel_rfl) (v) (g7) (g14) (kp2) (kc2) (ip2) (ic2) (hS) (hB) (hz) (rk) (ri)
  · unfold op14
    rw [if_pos (by rfl)]
    go_simp
    have ab := (Below.refl v.heap.size v).alloc (Nat.le_refl _) (.cells #[.int .i64 c.y.kind, .string Y, .slice c.kp c.y.keys.length c.kc, .slice c.ip c.y.items.length c.ic] 25)
    have s1 : (SA3 c Y tb ob pb n m kp ip kc ic) (v.alloc (.cells #[.int .i64 c.y.kind, .string Y, .slice c.kp c.y.keys.length c.kc, .slice c.ip c.y.items.length c.ic] 25)) := ⟨(ab.block _ (ltS hS.1)).trans hS.1, (ab.block _ (ltS hS.2.1)).trans hS.2.1, (ab.block _ (ltS hS.2.2)).trans hS.2.2⟩
    refine hK.out _ _ (fun _ => s1) (fun hS2 => ?_)
    clear hK K'
    try simp only [aSA, aSZ, aSS]
    exact St7_8_14x _ (by kernel_rfl) (v.alloc (.cells #[.int .i64 c.y.kind, .string Y, .slice c.kp c.y.keys.length c.kc, .slice c.ip c.y.items.length c.ic] 25)) (g7) (v.heap.size) (kp2) (kc2) (ip2) (ic2) (s1) (hB.alloc (Nat.le_trans hnz hz) _) (Nat.le_trans hz ab.size) (row_fr rk (FrP.of_none (P := fun _ => False) (World.grownBy_alloc v (.cells #[.int .i64 c.y.kind, .string Y, .slice c.kp c.y.keys.length c.kc, .slice c.ip c.y.items.length c.ic] 25) none)) (fun _ _ h => h)) (row_fr ri (FrP.of_none (P := fun _ => False) (World.grownBy_alloc v (.cells #[.int .i64 c.y.kind, .string Y, .slice c.kp c.y.keys.length c.kc, .slice c.ip c.y.items.length c.ic] 25) none)) (fun _ _ h => h)) (⟨alloc_at v _, hz⟩)
 have St1_7x : ∀ (listed : Array Bool), listed = #[true, true, true, true, true, true, true, true, false, true, true, true, true, true, false, false, false, false, false, false, false, false] → ∀ (v : World) (g7 g14 : Nat) (kp2 : Option Addr) (kc2 : Nat) (ip2 : Option Addr) (ic2 : Nat) (hS : (SA3 c Y tb ob pb n m kp ip kc ic) v) (hB : Below n0 wz v) (hz : wz.heap.size ≤ v.heap.size) (rk : v.ownsRow lo 9 1 (.slice kp n kc) n xs) (ri : v.ownsRow lo 25 4 (.slice ip m ic) m ys) (t7 : v.heap[g7]? = some (.cells #[.string K] 9 (0, 0)) ∧ wz.heap.size ≤ g7), wpAnyU Tryz.prog .any addOps (A3 n0 wz K c Y tb ob pb lo n m xs ys kp kc ip ic u3 u5 u6 u7 u8 u9 u10 u11 u12 u13 u14 u15 u16 u17 u18 u19 u20 u21 u22 u23 u24) (SA3 c Y tb ob pb n m kp ip kc ic) 18 9 listed { tmps := (T3 K c Y tb pb u3 (pO ob) (pO ob) (pO ob) (pO ob) (pO2 ob) (.slice kp n kc) (.string K) (.slice (some ⟨g7, 0, none⟩) 1 1) u13 (pO ob) (pO ob) (pO3 ob) (.slice ip m ic) (yA c Y) u19 u20 u21 u22 u23 u24), defers := [] } v := by
  intro listed hl v g7 g14 kp2 kc2 ip2 ic2 hS hB hz rk ri t7
  subst hl
  unfold T3
  try unfold pO
  try unfold pO2
  try unfold pO3
  try unfold yA
  refine wpAnyU_ready (rs := [8, 14]) (by kernel_rfl) (by simp) (AllReadyU.cons (o := op8) rfl (fun K' hK => ?_) (AllReadyU.cons (o := op14) rfl (fun K' hK => ?_) AllReadyU.nil))
  · unfold op8
    rw [if_pos (by rfl)]
    refine wp_append_own_at (.tmp 10) (.tmp 12) 22 rfl lo 9 i9_ _ 1 16 Tryz.underlying22 hi9 hz90 hz91 hz92 rfl (by decide) _ _ _ rfl rk ⟨g7, 0, none⟩ 1 1 [.string K] rfl rfl (row_news t7.1) (fun u hu => by rw [List.mem_singleton.1 hu]; rfl) (by unfold maxLen; omega) (by omega) (by omega) ?_
    intro kv2 w5 hk2 hgk hat
    obtain ⟨p2, q2, rfl⟩ := row_form hk2
    have hne : ∀ b, (Value.slice kp n kc).ownBlock = some b → b < pb ∧ lo ≤ b := fun b hb => ⟨hkb b hb, (rk.lt b hb).1⟩
    have bl : ∀ b, b < v.heap.size → (b < lo ∨ pb ≤ b) → w5.heap[b]? = v.heap[b]? := fun b hb hh => hgk.block b hb (fun e => by have := hne b e.symm; omega)
    have s1 : (SA3 c Y tb ob pb n m kp ip kc ic) w5 := ⟨(bl _ (ltS hS.1) (.inl htl)).trans hS.1, (bl _ (ltS hS.2.1) (.inl hol)).trans hS.2.1, (bl _ (ltS hS.2.2) (.inr (Nat.le_refl _))).trans hS.2.2⟩
    refine hK.out _ _ (fun _ => s1) (fun hS2 => ?_)
    clear hK K'
    try simp only [Act.put, aSA, aSZ, aSS]
    exact St1_7_8x _ (by kernel_rfl) (w5) (g7) (g14) (p2) (q2) (ip2) (ic2) (s1) (hB.grown hgk (Nat.le_trans hnz hz) (fun b e => by have := hne b e; omega)) (Nat.le_trans hz hgk.size) (hk2) (row_fr ri (FrP.of_row (P := fun k => (Value.slice kp n kc).ownBlock = some k) hgk (fun k hk => hk)) (fun k hk e => LV.apart rk ri k e hk))
  · unfold op14
    rw [if_pos (by rfl)]
    go_simp
    have ab := (Below.refl v.heap.size v).alloc (Nat.le_refl _) (.cells #[.int .i64 c.y.kind, .string Y, .slice c.kp c.y.keys.length c.kc, .slice c.ip c.y.items.length c.ic] 25)
    have s1 : (SA3 c Y tb ob pb n m kp ip kc ic) (v.alloc (.cells #[.int .i64 c.y.kind, .string Y, .slice c.kp c.y.keys.length c.kc, .slice c.ip c.y.items.length c.ic] 25)) := ⟨(ab.block _ (ltS hS.1)).trans hS.1, (ab.block _ (ltS hS.2.1)).trans hS.2.1, (ab.block _ (ltS hS.2.2)).trans hS.2.2⟩
    refine hK.out _ _ (fun _ => s1) (fun hS2 => ?_)
    clear hK K'
    try simp only [aSA, aSZ, aSS]
    exact St1_7_14x _ (by kernel_rfl) (v.alloc (.cells #[.int .i64 c.y.kind, .string Y, .slice c.kp c.y.keys.length c.kc, .slice c.ip c.y.items.length c.ic] 25)) (g7) (v.heap.size) (kp2) (kc2) (ip2) (ic2) (s1) (hB.alloc (Nat.le_trans hnz hz) _) (Nat.le_trans hz ab.size) (row_fr rk (FrP.of_none (P := fun _ => False) (World.grownBy_alloc v (.cells #[.int .i64 c.y.kind, .string Y, .slice c.kp c.y.keys.length c.kc, .slice c.ip c.y.items.length c.ic] 25) none)) (fun _ _ h => h)) (row_fr ri (FrP.of_none (P := fun _ => False) (World.grownBy_alloc v (.cells #[.int .i64 c.y.kind, .string Y, .slice c.kp c.y.keys.length c.kc, .slice c.ip c.y.items.length c.ic] 25) none)) (fun _ _ h => h)) (⟨(ab.block _ (ltS t7.1)).trans t7.1, t7.2⟩) (⟨alloc_at v _, hz⟩)
 have St7_14x : ∀ (listed : Array Bool), listed = #[true, false, true, true, true, true, true, true, false, true, true, true, true, true, true, false, false, false, false, false, false, false] → ∀ (v : World) (g7 g14 : Nat) (kp2 : Option Addr) (kc2 : Nat) (ip2 : Option Addr) (ic2 : Nat) (hS : (SA3 c Y tb ob pb n m kp ip kc ic) v) (hB : Below n0 wz v) (hz : wz.heap.size ≤ v.heap.size) (rk : v.ownsRow lo 9 1 (.slice kp n kc) n xs) (ri : v.ownsRow lo 25 4 (.slice ip m ic) m ys) (t7 : v.heap[g7]? = some (.cells #[.string K] 9 (0, 0)) ∧ wz.heap.size ≤ g7) (t14 : v.heap[g14]? = some (.cells #[.int .i64 c.y.kind, .string Y, .slice c.kp c.y.keys.length c.kc, .slice c.ip c.y.items.length c.ic] 25 (0, 0)) ∧ wz.heap.size ≤ g14), wpAnyU Tryz.prog .any addOps (A3 n0 wz K c Y tb ob pb lo n m xs ys kp kc ip ic u3 u5 u6 u7 u8 u9 u10 u11 u12 u13 u14 u15 u16 u17 u18 u19 u20 u21 u22 u23 u24) (SA3 c Y tb ob pb n m kp ip kc ic) 18 9 listed { tmps := (T3 K c Y tb pb u3 (pO ob) u6 (pO ob) (pO ob) (pO2 ob) (.slice kp n kc) (.string K) (.slice (some ⟨g7, 0, none⟩) 1 1) u13 (pO ob) (pO ob) (pO3 ob) (.slice ip m ic) (yA c Y) (.slice (some ⟨g14, 0, none⟩) 1 1) u20 u21 u22 u23 u24), defers := [] } v := by
  intro listed hl v g7 g14 kp2 kc2 ip2 ic2 hS hB hz rk ri t7 t14
  subst hl
  unfold T3
  try unfold pO
  try unfold pO2
  try unfold pO3
  try unfold yA
  refine wpAnyU_ready (rs := [1, 8]) (by kernel_rfl) (by simp) (AllReadyU.cons (o := op1) rfl (fun K' hK => ?_) (AllReadyU.cons (o := op8) rfl (fun K' hK => ?_) AllReadyU.nil))
  · unfold op1
    rw [if_pos (by rfl)]
    have q1 := box_cell hS.1
    go_simp
    refine hK.out _ _ (fun _ => hS) (fun hS2 => ?_)
    clear hK K'
    try simp only [aSA, aSZ, aSS]
    exact St1_7_14x _ (by kernel_rfl) (v) (g7) (g14) (kp2) (kc2) (ip2) (ic2) (hS) (hB) (hz) (rk) (ri) (t7) (t14)
  · unfold op8
    rw [if_pos (by rfl)]
    refine wp_append_own_at (.tmp 10) (.tmp 12) 22 rfl lo 9 i9_ _ 1 16 Tryz.underlying22 hi9 hz90 hz91 hz92 rfl (by decide) _ _ _ rfl rk ⟨g7, 0, none⟩ 1 1 [.string K] rfl rfl (row_news t7.1) (fun u hu => by rw [List.mem_singleton.1 hu]; rfl) (by unfold maxLen; omega) (by omega) (by omega) ?_
    intro kv2 w5 hk2 hgk hat
    obtain ⟨p2, q2, rfl⟩ := row_form hk2
    have hne : ∀ b, (Value.slice kp n kc).ownBlock = some b → b < pb ∧ lo ≤ b := fun b hb => ⟨hkb b hb, (rk.lt b hb).1⟩
    have bl : ∀ b, b < v.heap.size → (b < lo ∨ pb ≤ b) → w5.heap[b]? = v.heap[b]? := fun b hb hh => hgk.block b hb (fun e => by have := hne b e.symm; omega)
    have s1 : (SA3 c Y tb ob pb n m kp ip kc ic) w5 := ⟨(bl _ (ltS hS.1) (.inl htl)).trans hS.1, (bl _ (ltS hS.2.1) (.inl hol)).trans hS.2.1, (bl _ (ltS hS.2.2) (.inr (Nat.le_refl _))).trans hS.2.2⟩
    refine hK.out _ _ (fun _ => s1) (fun hS2 => ?_)
    clear hK K'
    try simp only [Act.put, aSA, aSZ, aSS]
    exact St7_8_14x _ (by kernel_rfl) (w5) (g7) (g14) (p2) (q2) (ip2) (ic2) (s1) (hB.grown hgk (Nat.le_trans hnz hz) (fun b e => by have := hne b e; omega)) (Nat.le_trans hz hgk.size) (hk2) (row_fr ri (FrP.of_row (P := fun k => (Value.slice kp n kc).ownBlock = some k) hgk (fun k hk => hk)) (fun k hk e => LV.apart rk ri k e hk)) (⟨(bl _ (ltS t14.1) (.inr (by omega))).trans t14.1, t14.2⟩)
 have St7x : ∀ (listed : Array Bool), listed = #[true, false, true, true, true, true, true, true, false, true, true, true, true, true, false, false, false, false, false, false, false, false] → ∀ (v : World) (g7 g14 : Nat) (kp2 : Option Addr) (kc2 : Nat) (ip2 : Option Addr) (ic2 : Nat) (hS : (SA3 c Y tb ob pb n m kp ip kc ic) v) (hB : Below n0 wz v) (hz : wz.heap.size ≤ v.heap.size) (rk : v.ownsRow lo 9 1 (.slice kp n kc) n xs) (ri : v.ownsRow lo 25 4 (.slice ip m ic) m ys) (t7 : v.heap[g7]? = some (.cells #[.string K] 9 (0, 0)) ∧ wz.heap.size ≤ g7), wpAnyU Tryz.prog .any addOps (A3 n0 wz K c Y tb ob pb lo n m xs ys kp kc ip ic u3 u5 u6 u7 u8 u9 u10 u11 u12 u13 u14 u15 u16 u17 u18 u19 u20 u21 u22 u23 u24) (SA3 c Y tb ob pb n m kp ip kc ic) 18 10 listed { tmps := (T3 K c Y tb pb u3 (pO ob) u6 (pO ob) (pO ob) (pO2 ob) (.slice kp n kc) (.string K) (.slice (some ⟨g7, 0, none⟩) 1 1) u13 (pO ob) (pO ob) (pO3 ob) (.slice ip m ic) (yA c Y) u19 u20 u21 u22 u23 u24), defers := [] } v := by
  intro listed hl v g7 g14 kp2 kc2 ip2 ic2 hS hB hz rk ri t7
  subst hl
  unfold T3
  try unfold pO
  try unfold pO2
  try unfold pO3
  try unfold yA
  refine wpAnyU_ready (rs := [1, 8, 14]) (by kernel_rfl) (by simp) (AllReadyU.cons (o := op1) rfl (fun K' hK => ?_) (AllReadyU.cons (o := op8) rfl (fun K' hK => ?_) (AllReadyU.cons (o := op14) rfl (fun K' hK => ?_) AllReadyU.nil)))
  · unfold op1
    rw [if_pos (by rfl)]
    have q1 := box_cell hS.1
    go_simp
    refine hK.out _ _ (fun _ => hS) (fun hS2 => ?_)
    clear hK K'
    try simp only [aSA, aSZ, aSS]
    exact St1_7x _ (by kernel_rfl) (v) (g7) (g14) (kp2) (kc2) (ip2) (ic2) (hS) (hB) (hz) (rk) (ri) (t7)
  · unfold op8
    rw [if_pos (by rfl)]
    refine wp_append_own_at (.tmp 10) (.tmp 12) 22 rfl lo 9 i9_ _ 1 16 Tryz.underlying22 hi9 hz90 hz91 hz92 rfl (by decide) _ _ _ rfl rk ⟨g7, 0, none⟩ 1 1 [.string K] rfl rfl (row_news t7.1) (fun u hu => by rw [List.mem_singleton.1 hu]; rfl) (by unfold maxLen; omega) (by omega) (by omega) ?_
    intro kv2 w5 hk2 hgk hat
    obtain ⟨p2, q2, rfl⟩ := row_form hk2
    have hne : ∀ b, (Value.slice kp n kc).ownBlock = some b → b < pb ∧ lo ≤ b := fun b hb => ⟨hkb b hb, (rk.lt b hb).1⟩
    have bl : ∀ b, b < v.heap.size → (b < lo ∨ pb ≤ b) → w5.heap[b]? = v.heap[b]? := fun b hb hh => hgk.block b hb (fun e => by have := hne b e.symm; omega)
    have s1 : (SA3 c Y tb ob pb n m kp ip kc ic) w5 := ⟨(bl _ (ltS hS.1) (.inl htl)).trans hS.1, (bl _ (ltS hS.2.1) (.inl hol)).trans hS.2.1, (bl _ (ltS hS.2.2) (.inr (Nat.le_refl _))).trans hS.2.2⟩
    refine hK.out _ _ (fun _ => s1) (fun hS2 => ?_)
    clear hK K'
    try simp only [Act.put, aSA, aSZ, aSS]
    exact St7_8x _ (by kernel_rfl) (w5) (g7) (g14) (p2) (q2) (ip2) (ic2) (s1) (hB.grown hgk (Nat.le_trans hnz hz) (fun b e => by have := hne b e; omega)) (Nat.le_trans hz hgk.size) (hk2) (row_fr ri (FrP.of_row (P := fun k => (Value.slice kp n kc).ownBlock = some k) hgk (fun k hk => hk)) (fun k hk e => LV.apart rk ri k e hk))
  · unfold op14
    rw [if_pos (by rfl)]
    go_simp
    have ab := (Below.refl v.heap.size v).alloc (Nat.le_refl _) (.cells #[.int .i64 c.y.kind, .string Y, .slice c.kp c.y.keys.length c.kc, .slice c.ip c.y.items.length c.ic] 25)
    have s1 : (SA3 c Y tb ob pb n m kp ip kc ic) (v.alloc (.cells #[.int .i64 c.y.kind, .string Y, .slice c.kp c.y.keys.length c.kc, .slice c.ip c.y.items.length c.ic] 25)) := ⟨(ab.block _ (ltS hS.1)).trans hS.1, (ab.block _ (ltS hS.2.1)).trans hS.2.1, (ab.block _ (ltS hS.2.2)).trans hS.2.2⟩
    refine hK.out _ _ (fun _ => s1) (fun hS2 => ?_)
    clear hK K'
    try simp only [aSA, aSZ, aSS]
    exact St7_14x _ (by kernel_rfl) (v.alloc (.cells #[.int .i64 c.y.kind, .string Y, .slice c.kp c.y.keys.length c.kc, .slice c.ip c.y.items.length c.ic] 25)) (g7) (v.heap.size) (kp2) (kc2) (ip2) (ic2) (s1) (hB.alloc (Nat.le_trans hnz hz) _) (Nat.le_trans hz ab.size) (row_fr rk (FrP.of_none (P := fun _ => False) (World.grownBy_alloc v (.cells #[.int .i64 c.y.kind, .string Y, .slice c.kp c.y.keys.length c.kc, .slice c.ip c.y.items.length c.ic] 25) none)) (fun _ _ h => h)) (row_fr ri (FrP.of_none (P := fun _ => False) (World.grownBy_alloc v (.cells #[.int .i64 c.y.kind, .string Y, .slice c.kp c.y.keys.length c.kc, .slice c.ip c.y.items.length c.ic] 25) none)) (fun _ _ h => h)) (⟨(ab.block _ (ltS t7.1)).trans t7.1, t7.2⟩) (⟨alloc_at v _, hz⟩)
 have St1x : ∀ (listed : Array Bool), listed = #[true, true, true, true, true, true, true, false, false, true, true, true, true, true, false, false, false, false, false, false, false, false] → ∀ (v : World) (g7 g14 : Nat) (kp2 : Option Addr) (kc2 : Nat) (ip2 : Option Addr) (ic2 : Nat) (hS : (SA3 c Y tb ob pb n m kp ip kc ic) v) (hB : Below n0 wz v) (hz : wz.heap.size ≤ v.heap.size) (rk : v.ownsRow lo 9 1 (.slice kp n kc) n xs) (ri : v.ownsRow lo 25 4 (.slice ip m ic) m ys), wpAnyU Tryz.prog .any addOps (A3 n0 wz K c Y tb ob pb lo n m xs ys kp kc ip ic u3 u5 u6 u7 u8 u9 u10 u11 u12 u13 u14 u15 u16 u17 u18 u19 u20 u21 u22 u23 u24) (SA3 c Y tb ob pb n m kp ip kc ic) 18 10 listed { tmps := (T3 K c Y tb pb u3 (pO ob) (pO ob) (pO ob) (pO ob) (pO2 ob) (.slice kp n kc) (.string K) u12 u13 (pO ob) (pO ob) (pO3 ob) (.slice ip m ic) (yA c Y) u19 u20 u21 u22 u23 u24), defers := [] } v := by
  intro listed hl v g7 g14 kp2 kc2 ip2 ic2 hS hB hz rk ri
  subst hl
  unfold T3
  try unfold pO
  try unfold pO2
  try unfold pO3
  try unfold yA
  refine wpAnyU_ready (rs := [7, 14]) (by kernel_rfl) (by simp) (AllReadyU.cons (o := op7) rfl (fun K' hK => ?_) (AllReadyU.cons (o := op14) rfl (fun K' hK => ?_) AllReadyU.nil))
  · unfold op7
    rw [if_pos (by rfl)]
    go_simp
    have ab := (Below.refl v.heap.size v).alloc (Nat.le_refl _) (.cells #[.string K] 9)
    have s1 : (SA3 c Y tb ob pb n m kp ip kc ic) (v.alloc (.cells #[.string K] 9)) := ⟨(ab.block _ (ltS hS.1)).trans hS.1, (ab.block _ (ltS hS.2.1)).trans hS.2.1, (ab.block _ (ltS hS.2.2)).trans hS.2.2⟩
    refine hK.out _ _ (fun _ => s1) (fun hS2 => ?_)
    clear hK K'
    try simp only [aSA, aSZ, aSS]
    exact St1_7x _ (by kernel_rfl) (v.alloc (.cells #[.string K] 9)) (v.heap.size) (g14) (kp2) (kc2) (ip2) (ic2) (s1) (hB.alloc (Nat.le_trans hnz hz) _) (Nat.le_trans hz ab.size) (row_fr rk (FrP.of_none (P := fun _ => False) (World.grownBy_alloc v (.cells #[.string K] 9) none)) (fun _ _ h => h)) (row_fr ri (FrP.of_none (P := fun _ => False) (World.grownBy_alloc v (.cells #[.string K] 9) none)) (fun _ _ h => h)) (⟨alloc_at v _, hz⟩)
  · unfold op14
    rw [if_pos (by rfl)]
    go_simp
    have ab := (Below.refl v.heap.size v).alloc (Nat.le_refl _) (.cells #[.int .i64 c.y.kind, .string Y, .slice c.kp c.y.keys.length c.kc, .slice c.ip c.y.items.length c.ic] 25)
    have s1 : (SA3 c Y tb ob pb n m kp ip kc ic) (v.alloc (.cells #[.int .i64 c.y.kind, .string Y, .slice c.kp c.y.keys.length c.kc, .slice c.ip c.y.items.length c.ic] 25)) := ⟨(ab.block _ (ltS hS.1)).trans hS.1, (ab.block _ (ltS hS.2.1)).trans hS.2.1, (ab.block _ (ltS hS.2.2)).trans hS.2.2⟩
    refine hK.out _ _ (fun _ => s1) (fun hS2 => ?_)
    clear hK K'
    try simp only [aSA, aSZ, aSS]
    exact St1_14x _ (by kernel_rfl) (v.alloc (.cells #[.int .i64 c.y.kind, .string Y, .slice c.kp c.y.keys.length c.kc, .slice c.ip c.y.items.length c.ic] 25)) (g7) (v.heap.size) (kp2) (kc2) (ip2) (ic2) (s1) (hB.alloc (Nat.le_trans hnz hz) _) (Nat.le_trans hz ab.size) (row_fr rk (FrP.of_none (P := fun _ => False) (World.grownBy_alloc v (.cells #[.int .i64 c.y.kind, .string Y, .slice c.kp c.y.keys.length c.kc, .slice c.ip c.y.items.length c.ic] 25) none)) (fun _ _ h => h)) (row_fr ri (FrP.of_none (P := fun _ => False) (World.grownBy_alloc v (.cells #[.int .i64 c.y.kind, .string Y, .slice c.kp c.y.keys.length c.kc, .slice c.ip c.y.items.length c.ic] 25) none)) (fun _ _ h => h)) (⟨alloc_at v _, hz⟩)
 have St14x : ∀ (listed : Array Bool), listed = #[true, false, true, true, true, true, true, false, false, true, true, true, true, true, true, false, false, false, false, false, false, false] → ∀ (v : World) (g7 g14 : Nat) (kp2 : Option Addr) (kc2 : Nat) (ip2 : Option Addr) (ic2 : Nat) (hS : (SA3 c Y tb ob pb n m kp ip kc ic) v) (hB : Below n0 wz v) (hz : wz.heap.size ≤ v.heap.size) (rk : v.ownsRow lo 9 1 (.slice kp n kc) n xs) (ri : v.ownsRow lo 25 4 (.slice ip m ic) m ys) (t14 : v.heap[g14]? = some (.cells #[.int .i64 c.y.kind, .string Y, .slice c.kp c.y.keys.length c.kc, .slice c.ip c.y.items.length c.ic] 25 (0, 0)) ∧ wz.heap.size ≤ g14), wpAnyU Tryz.prog .any addOps (A3 n0 wz K c Y tb ob pb lo n m xs ys kp kc ip ic u3 u5 u6 u7 u8 u9 u10 u11 u12 u13 u14 u15 u16 u17 u18 u19 u20 u21 u22 u23 u24) (SA3 c Y tb ob pb n m kp ip kc ic) 18 10 listed { tmps := (T3 K c Y tb pb u3 (pO ob) u6 (pO ob) (pO ob) (pO2 ob) (.slice kp n kc) (.string K) u12 u13 (pO ob) (pO ob) (pO3 ob) (.slice ip m ic) (yA c Y) (.slice (some ⟨g14, 0, none⟩) 1 1) u20 u21 u22 u23 u24), defers := [] } v := by
  intro listed hl v g7 g14 kp2 kc2 ip2 ic2 hS hB hz rk ri t14
  subst hl
  unfold T3
  try unfold pO
  try unfold pO2
  try unfold pO3
  try unfold yA
  refine wpAnyU_ready (rs := [1, 7]) (by kernel_rfl) (by simp) (AllReadyU.cons (o := op1) rfl (fun K' hK => ?_) (AllReadyU.cons (o := op7) rfl (fun K' hK => ?_) AllReadyU.nil))
  · unfold op1
    rw [if_pos (by rfl)]
    have q1 := box_cell hS.1
    go_simp
    refine hK.out _ _ (fun _ => hS) (fun hS2 => ?_)
    clear hK K'
    try simp only [aSA, aSZ, aSS]
    exact St1_14x _ (by kernel_rfl) (v) (g7) (g14) (kp2) (kc2) (ip2) (ic2) (hS) (hB) (hz) (rk) (ri) (t14)
  · unfold op7
    rw [if_pos (by rfl)]
    go_simp
    have ab := (Below.refl v.heap.size v).alloc (Nat.le_refl _) (.cells #[.string K] 9)
    have s1 : (SA3 c Y tb ob pb n m kp ip kc ic) (v.alloc (.cells #[.string K] 9)) := ⟨(ab.block _ (ltS hS.1)).trans hS.1, (ab.block _ (ltS hS.2.1)).trans hS.2.1, (ab.block _ (ltS hS.2.2)).trans hS.2.2⟩
    refine hK.out _ _ (fun _ => s1) (fun hS2 => ?_)
    clear hK K'
    try simp only [aSA, aSZ, aSS]
    exact St7_14x _ (by kernel_rfl) (v.alloc (.cells #[.string K] 9)) (v.heap.size) (g14) (kp2) (kc2) (ip2) (ic2) (s1) (hB.alloc (Nat.le_trans hnz hz) _) (Nat.le_trans hz ab.size) (row_fr rk (FrP.of_none (P := fun _ => False) (World.grownBy_alloc v (.cells #[.string K] 9) none)) (fun _ _ h => h)) (row_fr ri (FrP.of_none (P := fun _ => False) (World.grownBy_alloc v (.cells #[.string K] 9) none)) (fun _ _ h => h)) (⟨alloc_at v _, hz⟩) (⟨(ab.block _ (ltS t14.1)).trans t14.1, t14.2⟩)
 have Stx : ∀ (listed : Array Bool), listed = #[true, false, true, true, true, true, true, false, false, true, true, true, true, true, false, false, false, false, false, false, false, false] → ∀ (v : World) (g7 g14 : Nat) (kp2 : Option Addr) (kc2 : Nat) (ip2 : Option Addr) (ic2 : Nat) (hS : (SA3 c Y tb ob pb n m kp ip kc ic) v) (hB : Below n0 wz v) (hz : wz.heap.size ≤ v.heap.size) (rk : v.ownsRow lo 9 1 (.slice kp n kc) n xs) (ri : v.ownsRow lo 25 4 (.slice ip m ic) m ys), wpAnyU Tryz.prog .any addOps (A3 n0 wz K c Y tb ob pb lo n m xs ys kp kc ip ic u3 u5 u6 u7 u8 u9 u10 u11 u12 u13 u14 u15 u16 u17 u18 u19 u20 u21 u22 u23 u24) (SA3 c Y tb ob pb n m kp ip kc ic) 18 11 listed { tmps := (T3 K c Y tb pb u3 (pO ob) u6 (pO ob) (pO ob) (pO2 ob) (.slice kp n kc) (.string K) u12 u13 (pO ob) (pO ob) (pO3 ob) (.slice ip m ic) (yA c Y) u19 u20 u21 u22 u23 u24), defers := [] } v := by
  intro listed hl v g7 g14 kp2 kc2 ip2 ic2 hS hB hz rk ri
  subst hl
  unfold T3
  try unfold pO
  try unfold pO2
  try unfold pO3
  try unfold yA
  refine wpAnyU_ready (rs := [1, 7, 14]) (by kernel_rfl) (by simp) (AllReadyU.cons (o := op1) rfl (fun K' hK => ?_) (AllReadyU.cons (o := op7) rfl (fun K' hK => ?_) (AllReadyU.cons (o := op14) rfl (fun K' hK => ?_) AllReadyU.nil)))
  · unfold op1
    rw [if_pos (by rfl)]
    have q1 := box_cell hS.1
    go_simp
    refine hK.out _ _ (fun _ => hS) (fun hS2 => ?_)
    clear hK K'
    try simp only [aSA, aSZ, aSS]
    exact St1x _ (by kernel_rfl) (v) (g7) (g14) (kp2) (kc2) (ip2) (ic2) (hS) (hB) (hz) (rk) (ri)
  · unfold op7
    rw [if_pos (by rfl)]
    go_simp
    have ab := (Below.refl v.heap.size v).alloc (Nat.le_refl _) (.cells #[.string K] 9)
    have s1 : (SA3 c Y tb ob pb n m kp ip kc ic) (v.alloc (.cells #[.string K] 9)) := ⟨(ab.block _ (ltS hS.1)).trans hS.1, (ab.block _ (ltS hS.2.1)).trans hS.2.1, (ab.block _ (ltS hS.2.2)).trans hS.2.2⟩
    refine hK.out _ _ (fun _ => s1) (fun hS2 => ?_)
    clear hK K'
    try simp only [aSA, aSZ, aSS]
    exact St7x _ (by kernel_rfl) (v.alloc (.cells #[.string K] 9)) (v.heap.size) (g14) (kp2) (kc2) (ip2) (ic2) (s1) (hB.alloc (Nat.le_trans hnz hz) _) (Nat.le_trans hz ab.size) (row_fr rk (FrP.of_none (P := fun _ => False) (World.grownBy_alloc v (.cells #[.string K] 9) none)) (fun _ _ h => h)) (row_fr ri (FrP.of_none (P := fun _ => False) (World.grownBy_alloc v (.cells #[.string K] 9) none)) (fun _ _ h => h)) (⟨alloc_at v _, hz⟩)
  · unfold op14
    rw [if_pos (by rfl)]
    go_simp
    have ab := (Below.refl v.heap.size v).alloc (Nat.le_refl _) (.cells #[.int .i64 c.y.kind, .string Y, .slice c.kp c.y.keys.length c.kc, .slice c.ip c.y.items.length c.ic] 25)
    have s1 : (SA3 c Y tb ob pb n m kp ip kc ic) (v.alloc (.cells #[.int .i64 c.y.kind, .string Y, .slice c.kp c.y.keys.length c.kc, .slice c.ip c.y.items.length c.ic] 25)) := ⟨(ab.block _ (ltS hS.1)).trans hS.1, (ab.block _ (ltS hS.2.1)).trans hS.2.1, (ab.block _ (ltS hS.2.2)).trans hS.2.2⟩
    refine hK.out _ _ (fun _ => s1) (fun hS2 => ?_)
    clear hK K'
    try simp only [aSA, aSZ, aSS]
    exact St14x _ (by kernel_rfl) (v.alloc (.cells #[.int .i64 c.y.kind, .string Y, .slice c.kp c.y.keys.length c.kc, .slice c.ip c.y.items.length c.ic] 25)) (g7) (v.heap.size) (kp2) (kc2) (ip2) (ic2) (s1) (hB.alloc (Nat.le_trans hnz hz) _) (Nat.le_trans hz ab.size) (row_fr rk (FrP.of_none (P := fun _ => False) (World.grownBy_alloc v (.cells #[.int .i64 c.y.kind, .string Y, .slice c.kp c.y.keys.length c.kc, .slice c.ip c.y.items.length c.ic] 25) none)) (fun _ _ h => h)) (row_fr ri (FrP.of_none (P := fun _ => False) (World.grownBy_alloc v (.cells #[.int .i64 c.y.kind, .string Y, .slice c.kp c.y.keys.length c.kc, .slice c.ip c.y.items.length c.ic] 25) none)) (fun _ _ h => h)) (⟨alloc_at v _, hz⟩)
 show Code.wp Tryz.prog (Code.region 1 addOps true) _ _ _
 refine wp_region_late (S := (SA3 c Y tb ob pb n m kp ip kc ic)) 18 (by kernel_rfl) (show (SA3 c Y tb ob pb n m kp ip kc ic) wz.drew from hS0) (fun hHeld => ?_)
 refine wpAnyU_take (i := 0) (oi := op0) (v := ?_) [16, 17, 18, 19, 20, 21] rfl (by kernel_rfl) (by kernel_rfl) (by kernel_rfl) (by kernel_rfl) (fun _ _ _ h => h) (Or.inl ⟨by rfl, ?_⟩) hHeld ?_
 rotate_left
 · unfold op0; intro w hS; obtain ⟨s1, s2, s3⟩ := hS; have q1 := box_cell s1; obtain ⟨_, _, k2, k3⟩ := cells4 s2; obtain ⟨y0, y1, y2, y3⟩ := cells4 s3; go_simp; with_reducible rfl
 try simp only [Act.put, aSA, aSZ, aSS]
 refine wpAnyU_take (i := 2) (oi := op2) (v := ?_) [3, 4, 5, 8, 15, 16, 17, 18, 19, 20, 21] rfl (by kernel_rfl) (by kernel_rfl) (by kernel_rfl) (by kernel_rfl) (fun _ _ _ h => h) (Or.inl ⟨by rfl, ?_⟩) hHeld ?_
 rotate_left
 · unfold op2; intro w hS; obtain ⟨s1, s2, s3⟩ := hS; have q1 := box_cell s1; obtain ⟨_, _, k2, k3⟩ := cells4 s2; obtain ⟨y0, y1, y2, y3⟩ := cells4 s3; go_simp; with_reducible rfl
 try simp only [Act.put, aSA, aSZ, aSS]
 refine wpAnyU_take (i := 3) (oi := op3) (v := ?_) [4, 5, 8, 15, 16, 17, 18, 19, 20, 21] rfl (by kernel_rfl) (by kernel_rfl) (by kernel_rfl) (by kernel_rfl) (fun _ _ _ h => h) (Or.inl ⟨by rfl, ?_⟩) hHeld ?_
 rotate_left
 · unfold op3; intro w hS; obtain ⟨s1, s2, s3⟩ := hS; have q1 := box_cell s1; obtain ⟨_, _, k2, k3⟩ := cells4 s2; obtain ⟨y0, y1, y2, y3⟩ := cells4 s3; go_simp; with_reducible rfl
 try simp only [Act.put, aSA, aSZ, aSS]
 refine wpAnyU_take (i := 4) (oi := op4) (v := ?_) [5, 8, 15, 16, 17, 18, 19, 20, 21] rfl (by kernel_rfl) (by kernel_rfl) (by kernel_rfl) (by kernel_rfl) (fun _ _ _ h => h) (Or.inl ⟨by rfl, ?_⟩) hHeld ?_
 rotate_left
 · unfold op4; intro w hS; obtain ⟨s1, s2, s3⟩ := hS; have q1 := box_cell s1; obtain ⟨_, _, k2, k3⟩ := cells4 s2; obtain ⟨y0, y1, y2, y3⟩ := cells4 s3; go_simp; with_reducible rfl
 try simp only [Act.put, aSA, aSZ, aSS]
 refine wpAnyU_take (i := 5) (oi := op5) (v := ?_) [8, 15, 16, 17, 18, 19, 20, 21] rfl (by kernel_rfl) (by kernel_rfl) (by kernel_rfl) (by kernel_rfl) (fun _ _ _ h => h) (Or.inl ⟨by rfl, ?_⟩) hHeld ?_
 rotate_left
 · unfold op5; intro w hS; obtain ⟨s1, s2, s3⟩ := hS; have q1 := box_cell s1; obtain ⟨_, _, k2, k3⟩ := cells4 s2; obtain ⟨y0, y1, y2, y3⟩ := cells4 s3; go_simp; with_reducible rfl
 try simp only [Act.put, aSA, aSZ, aSS]
 refine wpAnyU_take (i := 6) (oi := op6) (v := ?_) [7, 8, 15, 16, 17, 18, 19, 20, 21] rfl (by kernel_rfl) (by kernel_rfl) (by kernel_rfl) (by kernel_rfl) (fun _ _ _ h => h) (Or.inl ⟨by rfl, ?_⟩) hHeld ?_
 rotate_left
 · unfold op6; intro w hS; obtain ⟨s1, s2, s3⟩ := hS; have q1 := box_cell s1; obtain ⟨_, _, k2, k3⟩ := cells4 s2; obtain ⟨y0, y1, y2, y3⟩ := cells4 s3; go_simp; with_reducible rfl
 try simp only [Act.put, aSA, aSZ, aSS]
 refine wpAnyU_take (i := 9) (oi := op9) (v := ?_) [10, 11, 12, 15, 16, 17, 18, 19, 20, 21] rfl (by kernel_rfl) (by kernel_rfl) (by kernel_rfl) (by kernel_rfl) (fun _ _ _ h => h) (Or.inl ⟨by rfl, ?_⟩) hHeld ?_
 rotate_left
 · unfold op9; intro w hS; obtain ⟨s1, s2, s3⟩ := hS; have q1 := box_cell s1; obtain ⟨_, _, k2, k3⟩ := cells4 s2; obtain ⟨y0, y1, y2, y3⟩ := cells4 s3; go_simp; with_reducible rfl
 try simp only [Act.put, aSA, aSZ, aSS]
 refine wpAnyU_take (i := 10) (oi := op10) (v := ?_) [11, 12, 15, 16, 17, 18, 19, 20, 21] rfl (by kernel_rfl) (by kernel_rfl) (by kernel_rfl) (by kernel_rfl) (fun _ _ _ h => h) (Or.inl ⟨by rfl, ?_⟩) hHeld ?_
 rotate_left
 · unfold op10; intro w hS; obtain ⟨s1, s2, s3⟩ := hS; have q1 := box_cell s1; obtain ⟨_, _, k2, k3⟩ := cells4 s2; obtain ⟨y0, y1, y2, y3⟩ := cells4 s3; go_simp; with_reducible rfl
 try simp only [Act.put, aSA, aSZ, aSS]
 refine wpAnyU_take (i := 11) (oi := op11) (v := ?_) [12, 15, 16, 17, 18, 19, 20, 21] rfl (by kernel_rfl) (by kernel_rfl) (by kernel_rfl) (by kernel_rfl) (fun _ _ _ h => h) (Or.inl ⟨by rfl, ?_⟩) hHeld ?_
 rotate_left
 · unfold op11; intro w hS; obtain ⟨s1, s2, s3⟩ := hS; have q1 := box_cell s1; obtain ⟨_, _, k2, k3⟩ := cells4 s2; obtain ⟨y0, y1, y2, y3⟩ := cells4 s3; go_simp; with_reducible rfl
 try simp only [Act.put, aSA, aSZ, aSS]
 refine wpAnyU_take (i := 12) (oi := op12) (v := ?_) [15, 16, 17, 18, 19, 20, 21] rfl (by kernel_rfl) (by kernel_rfl) (by kernel_rfl) (by kernel_rfl) (fun _ _ _ h => h) (Or.inl ⟨by rfl, ?_⟩) hHeld ?_
 rotate_left
 · unfold op12; intro w hS; obtain ⟨s1, s2, s3⟩ := hS; have q1 := box_cell s1; obtain ⟨_, _, k2, k3⟩ := cells4 s2; obtain ⟨y0, y1, y2, y3⟩ := cells4 s3; go_simp; with_reducible rfl
 try simp only [Act.put, aSA, aSZ, aSS]
 refine wpAnyU_take (i := 13) (oi := op13) (v := ?_) [14, 15, 16, 17, 18, 19, 20, 21] rfl (by kernel_rfl) (by kernel_rfl) (by kernel_rfl) (by kernel_rfl) (fun _ _ _ h => h) (Or.inl ⟨by rfl, ?_⟩) hHeld ?_
 rotate_left
 · unfold op13; intro w hS; obtain ⟨s1, s2, s3⟩ := hS; have q1 := box_cell s1; obtain ⟨_, _, k2, k3⟩ := cells4 s2; obtain ⟨y0, y1, y2, y3⟩ := cells4 s3; go_simp; with_reducible rfl
 try simp only [Act.put, aSA, aSZ, aSS]
 exact Stx _ (by kernel_rfl) wz.drew 0 0 none 0 none 0 hS0 ((Below.refl wz.heap.size wz).drew.mono hnz) (Nat.le_refl _) (row_fr hrk (FrP.refl (fun _ => False) _).drew (fun _ _ h => h)) (row_fr hri (FrP.refl (fun _ => False) _).drew (fun _ _ h => h))
end Go.Proofs.Rp
