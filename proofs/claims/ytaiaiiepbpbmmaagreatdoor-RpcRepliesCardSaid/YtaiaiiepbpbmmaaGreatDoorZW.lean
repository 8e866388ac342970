/- What the rows that list rpc's two variables list, as the contracts ask for it. -/
import Derived.Test.YtaiaiiepbpbmmaaGreatDoorZN
import Derived.Test.YtaiaiiepbpbmmaaGreatDoorP13
namespace Go.Proofs.YtaiaiiepbpbmmaaGreatDoor
open Go.ChangeShapes Go.WideShapes Go.ChangeAt Go.RowKit Go.Proofs.Jt Go.Proofs.Rp

theorem cells_of_strs {H : Type} {enc : TypeId × Value → H} {P : Program} {w : World} {base : Nat} {sp : Nat → Bool} {held : Bool} {fuel : Nat} {t e : TypeId} {n : Nat} {cs : List Value} {ss : List (List UInt8)} {p : List MemPlace}
 (ht : P.underlying t = some (.array n e)) (he : P.underlying e = some .string) (hce : P.cellsOf e = 1) (hct : P.cellsOf t = n)
 (h : DataW.trod enc P w base sp held fuel t cs = some (.agg (ss.map fun s => .lit (.string s)), p)) : cs = ss.map fun s => Value.string ⟨s.toArray⟩ := by
 obtain ⟨xs, m, _, hx, hlen, hl, hfd⟩ := DataW.trod_array ht h
 rw [hct] at hlen
 have hxs : xs.map (·.1) = ss.map fun s => (DataW.lit (.string s) : DataW H) := by
  have := congrArg Prod.fst hx
  simpa using this.symm
 have hsl : ss.length = n := by
  have := congrArg List.length hxs
  simp at this
  omega
 apply List.ext_getElem?
 intro i
 by_cases hi : i < n
 · have hf := hfd i hi
   rw [hce, Nat.mul_one] at hf
   obtain ⟨b, hb⟩ : ∃ b, xs[i]? = some b := ⟨_, List.getElem?_eq_getElem (by omega)⟩
   rw [hb] at hf
   obtain ⟨s, hc, rfl, _⟩ := DataW.trod_string he hf
   have h1 : cs[i]? = some (.string s) := by
    have := congrArg (·[0]?) hc
    simpa [List.getElem?_take, List.getElem?_drop] using this
   have h2 : (xs.map (·.1))[i]? = some (DataW.lit (.string s.data.toList) : DataW H) := by simp [hb]
   rw [hxs] at h2
   simp only [List.getElem?_map, Option.map_eq_some_iff, DataW.lit.injEq, Lit.string.injEq] at h2
   obtain ⟨s', hs', rfl⟩ := h2
   simp [h1, hs']
 · rw [List.getElem?_eq_none (by omega), List.getElem?_eq_none (by simp; omega)]
def wordsLL : List (List UInt8) := [wordsV (-32700), wordsV (-32600), wordsV (-32601), wordsV (-32602), wordsV (-32002), wordsV (-32800), wordsV (-32801), wordsV (-32803), wordsV (-32050)]
theorem codes_same : (Rows.laid_emend_rpc_codes : DataW Unit) = Lib.tabData .i64 codesL := by kernel_rfl
theorem words_same : (Rows.laid_emend_rpc_words : DataW Unit) = .agg (wordsLL.map fun s => .lit (.string s)) := by kernel_rfl
theorem codes_of_laid {W : World} {L : List (String × DataW Unit)} (h : laidMet Tryz.prog L W) (hm : ("emend/rpc.codes", (Rows.laid_emend_rpc_codes : DataW Unit)) ∈ L) : W.var? Tryz.prog "emend/rpc.codes" = some codesA := by
 obtain ⟨g', t', cs, fuel, p, hg', ht', hvar, hd⟩ := Lib.laidMet.reads (n := "emend/rpc.codes") h hm
 obtain rfl : g' = 0 := (Option.some.inj (glob0.symm.trans hg')).symm
 obtain ⟨tt, hty, e, hu, he, hce, hct⟩ : ∃ tt, (Tryz.prog.globals[0]?).map (·.type) = some tt ∧ ∃ e, Tryz.prog.underlying tt = some (.array 9 e) ∧ Tryz.prog.underlying e = some (.int .i64) ∧ Tryz.prog.cellsOf e = 1 ∧ Tryz.prog.cellsOf tt = 9 := ⟨162, by kernel_rfl, 3, by kernel_rfl, by kernel_rfl, by kernel_rfl, by kernel_rfl⟩
 obtain rfl := Option.some.inj (hty.symm.trans ht')
 rw [codes_same] at hd
 rw [hvar, show cs = codesA from Array.toList_inj.1 (Lib.cells_of_tab hu he hce hct hd)]
theorem words_of_laid {W : World} {L : List (String × DataW Unit)} (h : laidMet Tryz.prog L W) (hm : ("emend/rpc.words", (Rows.laid_emend_rpc_words : DataW Unit)) ∈ L) : W.var? Tryz.prog "emend/rpc.words" = some wordsA := by
 obtain ⟨g', t', cs, fuel, p, hg', ht', hvar, hd⟩ := Lib.laidMet.reads (n := "emend/rpc.words") h hm
 obtain rfl : g' = 1 := (Option.some.inj (glob1.symm.trans hg')).symm
 obtain ⟨tt, hty, e, hu, he, hce, hct⟩ : ∃ tt, (Tryz.prog.globals[1]?).map (·.type) = some tt ∧ ∃ e, Tryz.prog.underlying tt = some (.array 9 e) ∧ Tryz.prog.underlying e = some .string ∧ Tryz.prog.cellsOf e = 1 ∧ Tryz.prog.cellsOf tt = 9 := ⟨163, by kernel_rfl, 9, by kernel_rfl, by kernel_rfl, by kernel_rfl, by kernel_rfl⟩
 obtain rfl := Option.some.inj (hty.symm.trans ht')
 rw [words_same] at hd
 rw [hvar, show cs = wordsA from Array.toList_inj.1 (cells_of_strs hu he hce hct hd)]
/-- what the contracts know of the variables -/
structure TabW (W : World) : Prop where
 tabs : Tabs W
 rng : ErrV W
 ten : TenV W
 words : WordV W
/-- ten variables -/
def laidListW : List (String × DataW Unit) := Rows.rpcToldRow.laid
theorem tabs_of_laidW {W : World} (h : laidMetH Tryz.prog laidListW W) : TabW W := by
 have h' : laidMet Tryz.prog laidListW W := h
 exact ⟨tabs_of h' (.tail _ (.tail _ (.tail _ (.head _)))) (.tail _ (.tail _ (.tail _ (.tail _ (.tail _ (.tail _ (.tail _ (.tail _ (.head _))))))))) (.tail _ (.tail _ (.tail _ (.tail _ (.tail _ (.tail _ (.tail _ (.tail _ (.tail _ (.head _)))))))))), err_of_laid h' (.tail _ (.tail _ (.tail _ (.tail _ (.head _))))), ten_of_laid h' (.tail _ (.tail _ (.head _))), ⟨codes_of_laid h' (.tail _ (.tail _ (.tail _ (.tail _ (.tail _ (.tail _ (.head _))))))), words_of_laid h' (.tail _ (.tail _ (.tail _ (.tail _ (.tail _ (.tail _ (.tail _ (.head _))))))))⟩⟩
noncomputable def laidWorldW (os : Os) : World := World.laidAll Tryz.prog os laidListW
theorem laid_met_anyW (os : Os) (args : Array Value) : laidMetH Tryz.prog laidListW ((laidWorldW os).forCall (fun _ _ => 0) ⟨#[], args, []⟩).memory :=
 laidMet_laidAll args (by kernel_rfl) (by kernel_rfl)
end Go.Proofs.YtaiaiiepbpbmmaaGreatDoor
