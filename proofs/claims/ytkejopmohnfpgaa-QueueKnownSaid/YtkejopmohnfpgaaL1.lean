/- The laws' own functions: awake, QueueFree. -/
import Derived.Test.YtkejopmohnfpgaaS1
namespace Go.Proofs.Ytkejopmohnfpgaa
open Go.RowKit Go.Maps Go.Proofs

theorem len_small {n : Nat} (h : n ≤ 100) : n ≤ maxLen := by unfold maxLen; omega
set_option maxRecDepth 100000 in
theorem awake_true (w : World) : Calls Try.prog 12 #[] w fun e w' => e = .returned (.bool true) ∧ Below w.heap.size w w' := by
  go_enter Try.func12, Try.ntmps12
  go_wp2_with (first
    | (go_at_call 24; refine (new_qS w 2 (by decide) (by decide)).mono ?_; rintro e w1 ⟨qb, mb, rfl, d1, H1⟩)
    | (go_at_call 25; (with_reducible show Calls _ _ _ w1 _); refine (push_newS H1 ⟨#[97]⟩ ⟨#[111, 110, 101]⟩ (len_small (by decide)) rfl rfl (by decide) (by decide)).mono ?_; rintro e w2 ⟨rfl, d2, lv2, b2, H2⟩)
    | (go_at_call 25; (with_reducible show Calls _ _ _ w2 _); refine (push_thereS H2 ⟨#[97]⟩ ⟨#[116, 119, 111]⟩ (len_small (by decide)) rfl rfl).mono ?_; rintro e w2' ⟨rfl, hw⟩; subst hw)
    | (go_at_call 26; (with_reducible show Calls _ _ _ w2 _); refine (pop_someS H2 (id := ⟨#[97]⟩) (rest := []) rfl _ (List.mem_singleton.2 rfl) rfl ⟨#[111, 110, 101]⟩ rfl).mono ?_; rintro e w3 ⟨rfl, d3, lv3, H3⟩)
    | (go_at_call 27; (with_reducible show Calls _ _ _ w3 _); refine (len_qS H3).mono ?_; rintro e w3' ⟨rfl, hw⟩; subst hw))
  go_ret
  exact ⟨rfl, d1.trans (d2.trans d3)⟩
end Go.Proofs.Ytkejopmohnfpgaa
