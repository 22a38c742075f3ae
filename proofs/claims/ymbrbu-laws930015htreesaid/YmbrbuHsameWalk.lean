import Derived.Test.YmbrbuOwnTok
set_option linter.unusedVariables false
set_option linter.unusedSimpArgs false
set_option linter.unnecessarySimpa false
namespace Go.Proofs.Ymbrbu
open Go.RowKit

set_option maxHeartbeats 2000000 in
theorem hsame_any (a b : Option Addr) (n m cap cap' : Nat) (xs ys : List (Int × Int)) (w : World) (h1 : Toks w a n cap xs) (h2 : Toks w b m cap' ys) :
    Calls Ybum.prog 28 #[.slice a n cap, .slice b m cap'] w fun e w' => e = .returned (.bool (decide (xs = ys))) ∧ Below w.heap.size w w' := by
  have hn := h1.2.1
  have hm := h2.2.1
  have hc1 := h1.2.2.1
  have hc2 := h2.2.2.1
  unfold maxLen at hc1 hc2
  have L1 : Hid (xs.length = n) := h1.1
  have L2 : Hid (ys.length = m) := h2.1
  have T1 : Hid (Toks w a n cap xs) := h1
  have T2 : Hid (Toks w b m cap' ys) := h2
  clear h1 h2
  by_cases hnm : n = m
  · subst hnm
    go_enter Ybum.func28, Ybum.ntmps28
    go_wp2_with fail
    go_loopw [5] (fun i wr => ∃ (k : Nat), k ≤ n ∧ i = .int .i64 k ∧ Hid (xs.take k = ys.take k) ∧ Below w.heap.size w wr) (fun i _ => n - (intOf i).toNat)
    case atStart => exact ⟨0, Nat.zero_le _, rfl, rfl, Below.refl _ _⟩
    case round =>
      obtain ⟨k, hk, rfl, HE, hb⟩ := hrel
      by_cases hlt : k < n
      · have hx : k < xs.length := by have := L1.out; omega
        have hy : k < ys.length := by have := L2.out; omega
        obtain ⟨b1, o1, rfl, hcx⟩ := (T1.out.below hb).2.2.2 (by omega)
        obtain ⟨b2, o2, rfl, hcy⟩ := (T2.out.below hb).2.2.2 (by omega)
        obtain ⟨c1, c2⟩ := hcx k hlt
        obtain ⟨c3, c4⟩ := hcy k hlt
        have hlt1 : (k : Int) < (n : Int) := by omega
        have hlt0 : (0 : Int) ≤ (k : Int) := by omega
        clear hcx hcy T1 T2
        by_cases hk1 : Ex.kAt xs k = Ex.kAt ys k
        · have d1 : (Ex.kAt xs k != Ex.kAt ys k) = false := by simpa using hk1
          by_cases hv1 : Ex.vAt xs k = Ex.vAt ys k
          · have d2 : (Ex.vAt xs k != Ex.vAt ys k) = false := by simpa using hv1
            have HN : Hid (xs.take (k + 1) = ys.take (k + 1)) := by
              show _ = _
              rw [Ex.take_at xs k hx, Ex.take_at ys k hy, HE.out, hk1, hv1]
            clear hk1 hv1
            go_wp2_with fail
            go_quiet (fail)
            go_wp2_with fail
            go_roundw
            case rel => exact ⟨k + 1, by omega, by go_num, HN, below_drewN hb _⟩
            case measure => simp [intOf]; omega
          · have d2 : (Ex.vAt xs k != Ex.vAt ys k) = true := by simpa using hv1
            have HF : Hid (decide (xs = ys) = false) := by
              show _ = _
              rw [decide_eq_false_iff_not]
              intro h; exact hv1 (by rw [h])
            clear hk1 hv1
            go_wp2_with fail
            go_quiet (fail)
            go_wp2_with fail
            go_ret
            exact ⟨retB (by rw [HF.out]), below_drewN hb _⟩
        · have d1 : (Ex.kAt xs k != Ex.kAt ys k) = true := by simpa using hk1
          have HF : Hid (decide (xs = ys) = false) := by
            show _ = _
            rw [decide_eq_false_iff_not]
            intro h; exact hk1 (by rw [h])
          clear hk1
          go_wp2_with fail
          go_quiet (fail)
          go_wp2_with fail
          go_ret
          exact ⟨retB (by rw [HF.out]), below_drewN hb _⟩
      · have HF : Hid (decide (xs = ys) = true) := by
          show _ = _
          rw [decide_eq_true_iff]
          have := HE.out
          have l1 := L1.out
          have l2 := L2.out
          rw [List.take_of_length_le (by omega), List.take_of_length_le (by omega)] at this
          exact this
        clear HE
        go_wp2_with fail
        go_ret
        exact ⟨retB (by rw [HF.out]), hb⟩
  · have d : ((n : Int) != (m : Int)) = true := by simp; omega
    have HF : Hid (decide (xs = ys) = false) := by
      show _ = _
      rw [decide_eq_false_iff_not]
      have l1 := L1.out
      have l2 := L2.out
      intro h; subst h; omega
    clear T1 T2
    go_enter Ybum.func28, Ybum.ntmps28
    go_wp2_with fail
    go_ret
    exact ⟨retB (by rw [HF.out]), Below.refl _ _⟩
end Go.Proofs.Ymbrbu
