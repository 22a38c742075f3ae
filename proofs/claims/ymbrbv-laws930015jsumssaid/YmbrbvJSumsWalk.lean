import Derived.Test.YmbrbvJWalk
set_option linter.unusedVariables false
set_option linter.unusedSimpArgs false
namespace Go.Proofs.Ymbrbv
open Go.RowKit

set_option maxHeartbeats 1000000 in
theorem jsums_sub (x y kx ky : Int) (w : World) (hx : Ex.inI x) (hy : Ex.inI y) (h0 : 0 ≤ kx) (h1 : kx ≤ 255) (h2 : 0 ≤ ky) (h3 : ky ≤ 255) :
    Calls Ybvm.prog 4 #[.bool true, .int .i64 x, .int .i64 y, .int .u8 kx, .int .u8 ky] w fun e w' => e = .returned (.bool true) ∧ w' = w := by
  go_enter Ybvm.func4, Ybvm.ntmps4
  go_wp2_with fail
  refine (jwide_any x kx _ hx h0 h1).mono ?_
  rintro e w' ⟨a, ha, rfl, rfl⟩
  go_wp2_with fail
  refine (jwide_any y ky _ hy h2 h3).mono ?_
  rintro e w' ⟨b, hb, rfl, rfl⟩
  go_wp2_with fail
  have a1 := ha.1
  have a2 := ha.2
  have b1 := hb.1
  have b2 := hb.2
  rcases Ex.fit_cases (a - b) with ⟨h, e⟩ | ⟨h, e⟩
  · refine (apply_is 45 a b (a - b) 0 _ ha hb (Ex.ap_sub a b ▸ e)).mono ?_
    rintro e w' ⟨rfl, rfl⟩
    have c1 := h.1
    have c2 := h.2
    clear e h ha hb
    by_cases hn : 0 ≤ b
    · have ht : -9223372036854775808 + b ≤ a := by omega
      go_wp2_with fail
      go_ret
      exact ⟨rfl, rfl⟩
    · have ht : a ≤ 9223372036854775807 + b := by omega
      go_wp2_with fail
      go_ret
      exact ⟨rfl, rfl⟩
  · refine (apply_is 45 a b 0 3 _ ha hb (Ex.ap_sub a b ▸ e)).mono ?_
    rintro e w' ⟨rfl, rfl⟩
    unfold Ex.inI at h
    by_cases hn : 0 ≤ b
    · have ht : decide (-9223372036854775808 + b ≤ a) = false := by simp; omega
      clear e h ha hb
      go_wp2_with fail
      go_ret
      exact ⟨rfl, rfl⟩
    · have ht : decide (a ≤ 9223372036854775807 + b) = false := by simp; omega
      clear e h ha hb
      go_wp2_with fail
      go_ret
      exact ⟨rfl, rfl⟩

set_option maxHeartbeats 1000000 in
theorem jsums_add (x y kx ky : Int) (w : World) (hx : Ex.inI x) (hy : Ex.inI y) (h0 : 0 ≤ kx) (h1 : kx ≤ 255) (h2 : 0 ≤ ky) (h3 : ky ≤ 255) :
    Calls Ybvm.prog 4 #[.bool false, .int .i64 x, .int .i64 y, .int .u8 kx, .int .u8 ky] w fun e w' => e = .returned (.bool true) ∧ w' = w := by
  go_enter Ybvm.func4, Ybvm.ntmps4
  go_wp2_with fail
  refine (jwide_any x kx _ hx h0 h1).mono ?_
  rintro e w' ⟨a, ha, rfl, rfl⟩
  go_wp2_with fail
  refine (jwide_any y ky _ hy h2 h3).mono ?_
  rintro e w' ⟨b, hb, rfl, rfl⟩
  go_wp2_with fail
  have a1 := ha.1
  have a2 := ha.2
  have b1 := hb.1
  have b2 := hb.2
  rcases Ex.fit_cases (a + b) with ⟨h, e⟩ | ⟨h, e⟩
  · refine (apply_is 43 a b (a + b) 0 _ ha hb (Ex.ap_add a b ▸ e)).mono ?_
    rintro e w' ⟨rfl, rfl⟩
    have c1 := h.1
    have c2 := h.2
    clear e h ha hb
    by_cases hn : 0 ≤ b
    · have ht : a ≤ 9223372036854775807 - b := by omega
      go_wp2_with fail
      go_ret
      exact ⟨rfl, rfl⟩
    · have ht : -9223372036854775808 - b ≤ a := by omega
      go_wp2_with fail
      go_ret
      exact ⟨rfl, rfl⟩
  · refine (apply_is 43 a b 0 3 _ ha hb (Ex.ap_add a b ▸ e)).mono ?_
    rintro e w' ⟨rfl, rfl⟩
    unfold Ex.inI at h
    by_cases hn : 0 ≤ b
    · have ht : decide (a ≤ 9223372036854775807 - b) = false := by simp; omega
      clear e h ha hb
      go_wp2_with fail
      go_ret
      exact ⟨rfl, rfl⟩
    · have ht : decide (-9223372036854775808 - b ≤ a) = false := by simp; omega
      clear e h ha hb
      go_wp2_with fail
      go_ret
      exact ⟨rfl, rfl⟩
end Go.Proofs.Ymbrbv
