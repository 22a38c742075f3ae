import Derived.Test.YmbrbtBmodelWalk
import Derived.Test.YmbrbtBsameWalk
set_option linter.unusedVariables false
set_option linter.unusedSimpArgs false
set_option linter.unnecessarySimpa false
namespace Go.Proofs.Ymbrbt
open Go.RowKit

theorem nilEq (w : World) : Sem.run Ybtm.prog (binOp BinOp.eql 22 (.slice none 0 0) (.slice none 0 0)) w = .ok (.bool true) w := by
  first
  | rfl
  | (simp [binOp, run_underlying Ybtm.underlying22]; done)

set_option maxRecDepth 100000 in
set_option maxHeartbeats 4000000 in
theorem bmachine_any (s : ByteArray) (w : World) (hs : s.size ≤ maxLen) :
    Calls Ybtm.prog 6 #[.string s] w fun e w' => e = .returned (.bool true) ∧ Below w.heap.size w w' := by
  unfold maxLen at hs
  by_cases hbig : 1024 < s.size
  · go_enter Ybtm.func6, Ybtm.ntmps6
    go_wp2_with fail
    go_ret
    exact ⟨rfl, Below.refl _ _⟩
  have d0 : decide ((1024 : Int) < (s.size : Int)) = false := decide_eq_false (by omega)
  go_enter Ybtm.func6, Ybtm.ntmps6
  go_wp2_with fail
  refine (bmodel_any s w (by omega)).mono ?_
  rintro e w1 ⟨v1, c1, rfl, hb1, h1⟩
  have H1 : Hid ((bz (sb s) [] none = (c1, []) ∧ c1 ≠ 0) ∨ ∃ out, bz (sb s) [] none = (0, out) ∧ c1 = 0 ∧ OwnT w1 w.heap.size v1 out) := h1
  clear h1
  go_wp2_with fail
  refine (token_any s w1 (by omega)).mono ?_
  rintro e w2 ⟨v2, c2, rfl, hb2, h2⟩
  have hx : Below w.heap.size w w2 := hb1.trans (hb2.mono hb1.size)
  have H1' := H1.out
  clear H1
  rcases H1' with ⟨e1, n1⟩ | ⟨o1, e1, rfl, own1⟩
  · have hc : c2 = c1 ∧ v2 = .slice none 0 0 := by
      rcases h2 with ⟨e2, n2, rfl⟩ | ⟨o2, e2, rfl, own2⟩
      · rw [e1] at e2; cases e2; exact ⟨rfl, rfl⟩
      · rw [e1] at e2; cases e2; exact absurd rfl n1
    obtain ⟨rfl, rfl⟩ := hc
    have d1 : (c2 != 0) = true := by simpa using n1
    have d2 : (c2 != c2) = false := by simp
    have hnil := nilEq
    clear h2 e1 n1
    go_wp2_with fail
    go_ret
    exact ⟨rfl, hx⟩
  · have hc : c2 = 0 ∧ OwnT w2 w1.heap.size v2 o1 := by
      rcases h2 with ⟨e2, n2, rfl⟩ | ⟨o2, e2, rfl, own2⟩
      · rw [e1] at e2; cases e2; exact absurd rfl n2
      · rw [e1] at e2; cases e2; exact ⟨rfl, own2⟩
    obtain ⟨rfl, own2⟩ := hc
    obtain ⟨a1, k1, rfl, m1, t1⟩ := (own1.below hb2).toks'
    obtain ⟨a2, k2, rfl, m2, t2⟩ := own2.toks'
    clear h2 e1 own1 own2
    go_wp2_with fail
    refine (bsame_any a2 a1 o1.length o1.length k2 k1 o1 o1 w2 t2 t1).mono ?_
    rintro e w3 ⟨rfl, hb3⟩
    have d3 : decide (o1 = o1) = true := by simp
    rw [d3]
    go_wp2_with fail
    go_ret
    exact ⟨rfl, hx.trans (hb3.mono hx.size)⟩
end Go.Proofs.Ymbrbt
