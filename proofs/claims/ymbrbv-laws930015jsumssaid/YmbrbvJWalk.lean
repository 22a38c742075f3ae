import Derived.Test.YmbrbvApplyWalk
set_option linter.unusedVariables false
set_option linter.unusedSimpArgs false
namespace Go.Proofs.Ymbrbv
open Go.RowKit

theorem inI_of {n : Int} (h1 : -9223372036854775808 ≤ n) (h2 : n ≤ 9223372036854775807) : Ex.inI n := ⟨h1, h2⟩
theorem inI_wrap (n : Int) : Ex.inI (wrap64 n) := by unfold wrap64 Ex.inI; omega

set_option maxHeartbeats 400000 in
theorem jwide_any (x k : Int) (w : World) (hx : Ex.inI x) (h0 : 0 ≤ k) (h1 : k ≤ 255) :
    Calls Ybvm.prog 15 #[.int .i64 x, .int .u8 k] w fun e w' => ∃ r, Ex.inI r ∧ e = .returned (.int .i64 r) ∧ w' = w := by
  have hk : k % 4 = 0 ∨ k % 4 = 1 ∨ k % 4 = 2 ∨ k % 4 = 3 := by omega
  rcases hk with hk | hk | hk | hk
  all_goals
    go_enter Ybvm.func15, Ybvm.ntmps15
    go_wp2
    go_ret
  · exact ⟨_, hx, rfl, rfl⟩
  · exact ⟨_, inI_wrap _, rfl, rfl⟩
  · exact ⟨_, inI_wrap _, rfl, rfl⟩
  · exact ⟨_, inI_wrap _, rfl, rfl⟩

end Go.Proofs.Ymbrbv
