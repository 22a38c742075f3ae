import Derived.Test.YmbrbvMulWalk
set_option linter.unusedVariables false
set_option linter.unusedSimpArgs false
namespace Go.Proofs.Ymbrbv
open Go.RowKit

theorem in_of (n : Int) (h1 : -9223372036854775808 ≤ n) (h2 : n ≤ 9223372036854775807) : Ex.inI n := ⟨h1, h2⟩

set_option maxHeartbeats 400000 in
theorem kedge_pos (b : Int) (w : World) (hb : Ex.inI b) (h : 2 ≤ b) :
    Calls Ybvm.prog 8 #[.int .i64 b] w fun e w' => e = .returned (.bool true) ∧ w' = w := by
  obtain ⟨lo, hi, elo, ehi, f1, f2, f3, f4, f5, f6, f7, f8⟩ := Ex.edge_pos h hb.2
  have ELO : Hid (wrap64 (-(Int.tdiv 9223372036854775808 b)) = lo) := by show _ = _; rw [elo, wr64]
  have EHI : Hid ((9223372036854775807 : Int) / b = hi) := ehi.symm
  clear elo ehi
  have hb1 := hb.1
  have hb2 := hb.2
  have g1 := f1.1
  have g2 := f1.2
  have g3 := f2.1
  have g4 := f2.2
  have h1 : (b == -1) = false := by simp; omega
  have h2 : ¬ b < 0 := by omega
  have h3 : 0 < b := by omega
  have hw1 : wrap64 (lo * b) = lo * b := by rw [wr64]; exact Ex.wr_in f3
  have hw2 : wrap64 (hi * b) = hi * b := by rw [wr64]; exact Ex.wr_in f4
  go_enter Ybvm.func8, Ybvm.ntmps8
  go_wp2_with fail
  rw [ELO.out, EHI.out]
  refine (mul_ok lo b _ f1 hb f3).mono ?_
  rintro e w' ⟨rfl, rfl⟩
  go_wp2_with fail
  refine (mul_ok hi b _ f2 hb f4).mono ?_
  rintro e w' ⟨rfl, rfl⟩
  go_wp2_with fail
  refine (mul_bad (lo - 1) b _ (in_of _ (by omega) (by omega)) hb f7).mono ?_
  rintro e w' ⟨rfl, rfl⟩
  go_wp2_with fail
  refine (mul_bad (hi + 1) b _ (in_of _ (by omega) (by omega)) hb f8).mono ?_
  rintro e w' ⟨rfl, rfl⟩
  go_wp2_with fail
  go_ret
  exact ⟨rfl, rfl⟩

set_option maxHeartbeats 400000 in
theorem kedge_neg (b : Int) (w : World) (hb : Ex.inI b) (h : b ≤ -2) :
    Calls Ybvm.prog 8 #[.int .i64 b] w fun e w' => e = .returned (.bool true) ∧ w' = w := by
  obtain ⟨lo, hi, elo, ehi, f1, f2, f3, f4, f5, f6, f7, f8⟩ := Ex.edge_neg h hb.1
  have ELO : Hid (wrap64 (Int.tdiv 9223372036854775807 b) = lo) := by show _ = _; rw [elo, wr64]
  have EHI : Hid (wrap64 (-(Int.tdiv 9223372036854775808 b)) = hi) := by show _ = _; rw [ehi, wr64]
  clear elo ehi
  have hb1 := hb.1
  have hb2 := hb.2
  have g1 := f1.1
  have g2 := f1.2
  have g3 := f2.1
  have g4 := f2.2
  have h1 : (b == -1) = false := by simp; omega
  have h2 : b < 0 := by omega
  have hw1 : wrap64 (lo * b) = lo * b := by rw [wr64]; exact Ex.wr_in f3
  have hw2 : wrap64 (hi * b) = hi * b := by rw [wr64]; exact Ex.wr_in f4
  go_enter Ybvm.func8, Ybvm.ntmps8
  go_wp2_with fail
  rw [ELO.out, EHI.out]
  refine (mul_ok lo b _ f1 hb f3).mono ?_
  rintro e w' ⟨rfl, rfl⟩
  go_wp2_with fail
  refine (mul_ok hi b _ f2 hb f4).mono ?_
  rintro e w' ⟨rfl, rfl⟩
  go_wp2_with fail
  refine (mul_bad (lo - 1) b _ (in_of _ (by omega) (by omega)) hb f7).mono ?_
  rintro e w' ⟨rfl, rfl⟩
  go_wp2_with fail
  refine (mul_bad (hi + 1) b _ (in_of _ (by omega) (by omega)) hb f8).mono ?_
  rintro e w' ⟨rfl, rfl⟩
  go_wp2_with fail
  go_ret
  exact ⟨rfl, rfl⟩

set_option maxHeartbeats 400000 in
theorem kedge_any (b : Int) (w : World) (hb : Ex.inI b) :
    Calls Ybvm.prog 8 #[.int .i64 b] w fun e w' => e = .returned (.bool true) ∧ w' = w := by
  by_cases h2 : 2 ≤ b
  · exact kedge_pos b w hb h2
  by_cases h3 : b ≤ -2
  · exact kedge_neg b w hb h3
  have h4 : b = -1 ∨ b = 0 ∨ b = 1 := by omega
  rcases h4 with rfl | rfl | rfl
  all_goals
    clear hb h2 h3
    go_enter Ybvm.func8, Ybvm.ntmps8
    go_wp2
    go_ret
    exact ⟨rfl, rfl⟩
end Go.Proofs.Ymbrbv
