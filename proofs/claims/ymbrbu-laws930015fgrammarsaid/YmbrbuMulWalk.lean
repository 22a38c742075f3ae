import Derived.Test.YmbrbuProg
import Derived.Test.YmbrbuArith
import Derived.WalkKit
import Derived.WalkSpells
import Derived.Handy
set_option linter.unusedVariables false
set_option linter.unusedSimpArgs false
set_option linter.unnecessarySimpa false
namespace Go.Proofs.Ymbrbu
open Go.RowKit

theorem wr64 (n : Int) : wrap64 n = Ex.wr n := by unfold wrap64 Ex.wr; rfl

set_option maxHeartbeats 400000 in
theorem mul_any (a b : Int) (w : World) (ha : Ex.inI a) (hb : Ex.inI b) :
    Calls Ybum.prog 44 #[.int .i64 a, .int .i64 b] w fun e w' => e = .returned (.tuple #[.int .i64 (Ex.mulV a b), .bool (Ex.mulB a b)]) ∧ w' = w := by
  by_cases h0 : b = 0
  · have hy : Ex.mulB a b = true := Ex.inB_iff.2 (by subst h0; simp [Ex.inI])
    rw [Ex.mulV_yes hy, hy]
    subst h0
    go_enter Ybum.func44, Ybum.ntmps44
    go_wp2
    go_ret2
    exact ⟨by simp, rfl⟩
  · by_cases hm : a = -9223372036854775808 ∧ b = -1
    · have hn : Ex.mulB a b = false := Ex.inB_false.2 (by obtain ⟨rfl, rfl⟩ := hm; simp [Ex.inI])
      rw [Ex.mulV_no hn, hn]
      obtain ⟨rfl, rfl⟩ := hm
      go_enter Ybum.func44, Ybum.ntmps44
      go_wp2
      go_ret2
      exact ⟨rfl, rfl⟩
    · have h0' : (b == 0) = false := by simpa using h0
      cases hq : Ex.mulB a b with
      | true =>
        have ht : (wrap64 ((wrap64 (a * b)).tdiv b) != a) = false := by
          have := (Ex.mul_check ha hb h0 hm).2 (Ex.inB_iff.1 hq)
          rw [wr64, wr64, this]; simp
        have E1 : Hid (wrap64 (a * b) = Ex.mulV a b) := by
          show _ = _
          rw [Ex.mulV_yes hq, wr64]; exact Ex.wr_in (Ex.inB_iff.1 hq)
        clear hq
        by_cases h1 : a = -9223372036854775808
        · have h2 : (b == -1) = false := by simpa using fun k => hm ⟨h1, k⟩
          subst h1
          clear hm
          go_enter Ybum.func44, Ybum.ntmps44
          go_wp2
          go_ret2
          exact ⟨by rw [← E1.out]; rfl, rfl⟩
        · have h2 : (a == -9223372036854775808) = false := by simpa using h1
          clear hm h1
          go_enter Ybum.func44, Ybum.ntmps44
          go_wp2
          go_ret2
          exact ⟨by rw [← E1.out]; rfl, rfl⟩
      | false =>
        have ht : (wrap64 ((wrap64 (a * b)).tdiv b) != a) = true := by
          rw [bne_iff_ne, wr64, wr64]
          exact fun k => absurd (Ex.inB_iff.2 ((Ex.mul_check ha hb h0 hm).1 k)) (by unfold Ex.mulB at hq; simp [hq])
        rw [Ex.mulV_no hq]
        clear hq
        by_cases h1 : a = -9223372036854775808
        · have h2 : (b == -1) = false := by simpa using fun k => hm ⟨h1, k⟩
          subst h1
          clear hm
          go_enter Ybum.func44, Ybum.ntmps44
          go_wp2
          go_ret2
          exact ⟨rfl, rfl⟩
        · have h2 : (a == -9223372036854775808) = false := by simpa using h1
          clear hm h1
          go_enter Ybum.func44, Ybum.ntmps44
          go_wp2
          go_ret2
          exact ⟨rfl, rfl⟩

theorem mul_ok (a b : Int) (w : World) (ha : Ex.inI a) (hb : Ex.inI b) (h : Ex.inI (a * b)) :
    Calls Ybum.prog 44 #[.int .i64 a, .int .i64 b] w fun e w' => e = .returned (.tuple #[.int .i64 (a * b), .bool true]) ∧ w' = w := by
  have h1 : Ex.mulB a b = true := Ex.inB_iff.2 h
  have := mul_any a b w ha hb
  rw [Ex.mulV_yes h1, h1] at this
  exact this
theorem mul_bad (a b : Int) (w : World) (ha : Ex.inI a) (hb : Ex.inI b) (h : ¬ Ex.inI (a * b)) :
    Calls Ybum.prog 44 #[.int .i64 a, .int .i64 b] w fun e w' => e = .returned (.tuple #[.int .i64 0, .bool false]) ∧ w' = w := by
  have h1 : Ex.mulB a b = false := Ex.inB_false.2 h
  have := mul_any a b w ha hb
  rw [Ex.mulV_no h1, h1] at this
  exact this
end Go.Proofs.Ymbrbu
