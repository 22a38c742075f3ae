import Derived.Test.YmbrbvJWalk
set_option linter.unusedVariables false
set_option linter.unusedSimpArgs false
namespace Go.Proofs.Ymbrbv
open Go.RowKit

theorem ap_codes (op a b : Int) (h : op = 43 ∨ op = 45 ∨ op = 42 ∨ (op = 47 ∧ b ≠ 0)) : (∃ r, Ex.ap op a b = (r, 0)) ∨ Ex.ap op a b = (0, 3) := by
  have key : ∀ r, (∃ s, Ex.fit r = (s, 0)) ∨ Ex.fit r = (0, 3) := fun r => by
    rcases Ex.fit_cases r with ⟨_, e⟩ | ⟨_, e⟩
    · exact .inl ⟨_, e⟩
    · exact .inr e
  rcases h with rfl | rfl | rfl | ⟨rfl, h⟩
  · exact key _
  · exact key _
  · exact key _
  · rw [Ex.ap_div a b h]; exact key _

set_option maxHeartbeats 1000000 in
theorem jcodes_s1 (raw sel x y kx ky : Int) (w : World) (hx : Ex.inI x) (hy : Ex.inI y) (h0 : 0 ≤ kx) (h1 : kx ≤ 255) (h2 : 0 ≤ ky) (h3 : ky ≤ 255) (s0 : 0 ≤ sel) (s1 : sel ≤ 255) (hs : sel % 8 = 1) :
    Calls Ybvm.prog 6 #[.int .u8 raw, .int .u8 sel, .int .i64 x, .int .i64 y, .int .u8 kx, .int .u8 ky] w fun e w' => e = .returned (.bool true) ∧ w' = w := by
  go_enter Ybvm.func6, Ybvm.ntmps6
  go_wp2_with fail
  refine (jwide_any x kx _ hx h0 h1).mono ?_
  rintro e w' ⟨a, ha, rfl, rfl⟩
  go_wp2_with fail
  refine (jwide_any y ky _ hy h2 h3).mono ?_
  rintro e w' ⟨b, hb, rfl, rfl⟩
  go_wp2_with fail
  rcases ap_codes 43 a b (.inl rfl) with ⟨r, e⟩ | e
  · refine (apply_is 43 a b r 0 _ ha hb e).mono ?_
    rintro e w' ⟨rfl, rfl⟩
    clear e ha hb
    go_wp2_with fail
    go_ret
    exact ⟨rfl, rfl⟩
  · refine (apply_is 43 a b 0 3 _ ha hb e).mono ?_
    rintro e w' ⟨rfl, rfl⟩
    clear e ha hb
    go_wp2_with fail
    go_ret
    exact ⟨rfl, rfl⟩

set_option maxHeartbeats 1000000 in
theorem jcodes_s2 (raw sel x y kx ky : Int) (w : World) (hx : Ex.inI x) (hy : Ex.inI y) (h0 : 0 ≤ kx) (h1 : kx ≤ 255) (h2 : 0 ≤ ky) (h3 : ky ≤ 255) (s0 : 0 ≤ sel) (s1 : sel ≤ 255) (hs : sel % 8 = 2) :
    Calls Ybvm.prog 6 #[.int .u8 raw, .int .u8 sel, .int .i64 x, .int .i64 y, .int .u8 kx, .int .u8 ky] w fun e w' => e = .returned (.bool true) ∧ w' = w := by
  go_enter Ybvm.func6, Ybvm.ntmps6
  go_wp2_with fail
  refine (jwide_any x kx _ hx h0 h1).mono ?_
  rintro e w' ⟨a, ha, rfl, rfl⟩
  go_wp2_with fail
  refine (jwide_any y ky _ hy h2 h3).mono ?_
  rintro e w' ⟨b, hb, rfl, rfl⟩
  go_wp2_with fail
  rcases ap_codes 45 a b (.inr (.inl rfl)) with ⟨r, e⟩ | e
  · refine (apply_is 45 a b r 0 _ ha hb e).mono ?_
    rintro e w' ⟨rfl, rfl⟩
    clear e ha hb
    go_wp2_with fail
    go_ret
    exact ⟨rfl, rfl⟩
  · refine (apply_is 45 a b 0 3 _ ha hb e).mono ?_
    rintro e w' ⟨rfl, rfl⟩
    clear e ha hb
    go_wp2_with fail
    go_ret
    exact ⟨rfl, rfl⟩

set_option maxHeartbeats 1000000 in
theorem jcodes_s3 (raw sel x y kx ky : Int) (w : World) (hx : Ex.inI x) (hy : Ex.inI y) (h0 : 0 ≤ kx) (h1 : kx ≤ 255) (h2 : 0 ≤ ky) (h3 : ky ≤ 255) (s0 : 0 ≤ sel) (s1 : sel ≤ 255) (hs : sel % 8 = 3) :
    Calls Ybvm.prog 6 #[.int .u8 raw, .int .u8 sel, .int .i64 x, .int .i64 y, .int .u8 kx, .int .u8 ky] w fun e w' => e = .returned (.bool true) ∧ w' = w := by
  go_enter Ybvm.func6, Ybvm.ntmps6
  go_wp2_with fail
  refine (jwide_any x kx _ hx h0 h1).mono ?_
  rintro e w' ⟨a, ha, rfl, rfl⟩
  go_wp2_with fail
  refine (jwide_any y ky _ hy h2 h3).mono ?_
  rintro e w' ⟨b, hb, rfl, rfl⟩
  go_wp2_with fail
  rcases ap_codes 42 a b (.inr (.inr (.inl rfl))) with ⟨r, e⟩ | e
  · refine (apply_is 42 a b r 0 _ ha hb e).mono ?_
    rintro e w' ⟨rfl, rfl⟩
    clear e ha hb
    go_wp2_with fail
    go_ret
    exact ⟨rfl, rfl⟩
  · refine (apply_is 42 a b 0 3 _ ha hb e).mono ?_
    rintro e w' ⟨rfl, rfl⟩
    clear e ha hb
    go_wp2_with fail
    go_ret
    exact ⟨rfl, rfl⟩

set_option maxHeartbeats 1000000 in
theorem jcodes_s4 (raw sel x y kx ky : Int) (w : World) (hx : Ex.inI x) (hy : Ex.inI y) (h0 : 0 ≤ kx) (h1 : kx ≤ 255) (h2 : 0 ≤ ky) (h3 : ky ≤ 255) (s0 : 0 ≤ sel) (s1 : sel ≤ 255) (hs : sel % 8 = 4) :
    Calls Ybvm.prog 6 #[.int .u8 raw, .int .u8 sel, .int .i64 x, .int .i64 y, .int .u8 kx, .int .u8 ky] w fun e w' => e = .returned (.bool true) ∧ w' = w := by
  go_enter Ybvm.func6, Ybvm.ntmps6
  go_wp2_with fail
  refine (jwide_any x kx _ hx h0 h1).mono ?_
  rintro e w' ⟨a, ha, rfl, rfl⟩
  go_wp2_with fail
  refine (jwide_any y ky _ hy h2 h3).mono ?_
  rintro e w' ⟨b, hb, rfl, rfl⟩
  go_wp2_with fail
  by_cases hz : b = 0
  · refine (apply_is 47 a b 0 4 _ ha hb (Ex.ap_div0 a b hz)).mono ?_
    rintro e w' ⟨rfl, rfl⟩
    subst hz
    clear ha hb
    go_wp2_with fail
    go_ret
    exact ⟨rfl, rfl⟩
  have hz' : (b == 0) = false := by simpa using hz
  rcases ap_codes 47 a b (.inr (.inr (.inr ⟨rfl, hz⟩))) with ⟨r, e⟩ | e
  · refine (apply_is 47 a b r 0 _ ha hb e).mono ?_
    rintro e w' ⟨rfl, rfl⟩
    clear e ha hb
    go_wp2_with fail
    go_ret
    exact ⟨rfl, rfl⟩
  · refine (apply_is 47 a b 0 3 _ ha hb e).mono ?_
    rintro e w' ⟨rfl, rfl⟩
    clear e ha hb
    go_wp2_with fail
    go_ret
    exact ⟨rfl, rfl⟩

set_option maxHeartbeats 1000000 in
theorem jcodes_s5 (raw sel x y kx ky : Int) (w : World) (hx : Ex.inI x) (hy : Ex.inI y) (h0 : 0 ≤ kx) (h1 : kx ≤ 255) (h2 : 0 ≤ ky) (h3 : ky ≤ 255) (s0 : 0 ≤ sel) (s1 : sel ≤ 255) (hs : sel % 8 = 5) :
    Calls Ybvm.prog 6 #[.int .u8 raw, .int .u8 sel, .int .i64 x, .int .i64 y, .int .u8 kx, .int .u8 ky] w fun e w' => e = .returned (.bool true) ∧ w' = w := by
  go_enter Ybvm.func6, Ybvm.ntmps6
  go_wp2_with fail
  refine (jwide_any x kx _ hx h0 h1).mono ?_
  rintro e w' ⟨a, ha, rfl, rfl⟩
  go_wp2_with fail
  refine (jwide_any y ky _ hy h2 h3).mono ?_
  rintro e w' ⟨b, hb, rfl, rfl⟩
  go_wp2_with fail
  refine (apply_is 40 a b 0 2 _ ha hb (Ex.ap_other 40 a b (by first | decide | assumption) (by first | decide | assumption) (by first | decide | assumption) (by first | decide | assumption))).mono ?_
  rintro e w' ⟨rfl, rfl⟩
  clear ha hb
  go_wp2_with fail
  go_ret
  exact ⟨rfl, rfl⟩

set_option maxHeartbeats 1000000 in
theorem jcodes_s6 (raw sel x y kx ky : Int) (w : World) (hx : Ex.inI x) (hy : Ex.inI y) (h0 : 0 ≤ kx) (h1 : kx ≤ 255) (h2 : 0 ≤ ky) (h3 : ky ≤ 255) (s0 : 0 ≤ sel) (s1 : sel ≤ 255) (hs : sel % 8 = 6) :
    Calls Ybvm.prog 6 #[.int .u8 raw, .int .u8 sel, .int .i64 x, .int .i64 y, .int .u8 kx, .int .u8 ky] w fun e w' => e = .returned (.bool true) ∧ w' = w := by
  go_enter Ybvm.func6, Ybvm.ntmps6
  go_wp2_with fail
  refine (jwide_any x kx _ hx h0 h1).mono ?_
  rintro e w' ⟨a, ha, rfl, rfl⟩
  go_wp2_with fail
  refine (jwide_any y ky _ hy h2 h3).mono ?_
  rintro e w' ⟨b, hb, rfl, rfl⟩
  go_wp2_with fail
  refine (apply_is 48 a b 0 2 _ ha hb (Ex.ap_other 48 a b (by first | decide | assumption) (by first | decide | assumption) (by first | decide | assumption) (by first | decide | assumption))).mono ?_
  rintro e w' ⟨rfl, rfl⟩
  clear ha hb
  go_wp2_with fail
  go_ret
  exact ⟨rfl, rfl⟩

set_option maxHeartbeats 1000000 in
theorem jcodes_r43_0 (sel x y kx ky : Int) (w : World) (hx : Ex.inI x) (hy : Ex.inI y) (h0 : 0 ≤ kx) (h1 : kx ≤ 255) (h2 : 0 ≤ ky) (h3 : ky ≤ 255) (s0 : 0 ≤ sel) (s1 : sel ≤ 255) (hs : sel % 8 = 0) :
    Calls Ybvm.prog 6 #[.int .u8 43, .int .u8 sel, .int .i64 x, .int .i64 y, .int .u8 kx, .int .u8 ky] w fun e w' => e = .returned (.bool true) ∧ w' = w := by
  go_enter Ybvm.func6, Ybvm.ntmps6
  go_wp2_with fail
  refine (jwide_any x kx _ hx h0 h1).mono ?_
  rintro e w' ⟨a, ha, rfl, rfl⟩
  go_wp2_with fail
  refine (jwide_any y ky _ hy h2 h3).mono ?_
  rintro e w' ⟨b, hb, rfl, rfl⟩
  go_wp2_with fail
  rcases ap_codes 43 a b (.inl rfl) with ⟨r, e⟩ | e
  · refine (apply_is 43 a b r 0 _ ha hb e).mono ?_
    rintro e w' ⟨rfl, rfl⟩
    clear e ha hb
    go_wp2_with fail
    go_ret
    exact ⟨rfl, rfl⟩
  · refine (apply_is 43 a b 0 3 _ ha hb e).mono ?_
    rintro e w' ⟨rfl, rfl⟩
    clear e ha hb
    go_wp2_with fail
    go_ret
    exact ⟨rfl, rfl⟩

set_option maxHeartbeats 1000000 in
theorem jcodes_r43_7 (sel x y kx ky : Int) (w : World) (hx : Ex.inI x) (hy : Ex.inI y) (h0 : 0 ≤ kx) (h1 : kx ≤ 255) (h2 : 0 ≤ ky) (h3 : ky ≤ 255) (s0 : 0 ≤ sel) (s1 : sel ≤ 255) (hs : sel % 8 = 7) :
    Calls Ybvm.prog 6 #[.int .u8 43, .int .u8 sel, .int .i64 x, .int .i64 y, .int .u8 kx, .int .u8 ky] w fun e w' => e = .returned (.bool true) ∧ w' = w := by
  go_enter Ybvm.func6, Ybvm.ntmps6
  go_wp2_with fail
  refine (jwide_any x kx _ hx h0 h1).mono ?_
  rintro e w' ⟨a, ha, rfl, rfl⟩
  go_wp2_with fail
  refine (jwide_any y ky _ hy h2 h3).mono ?_
  rintro e w' ⟨b, hb, rfl, rfl⟩
  go_wp2_with fail
  rcases ap_codes 43 a b (.inl rfl) with ⟨r, e⟩ | e
  · refine (apply_is 43 a b r 0 _ ha hb e).mono ?_
    rintro e w' ⟨rfl, rfl⟩
    clear e ha hb
    go_wp2_with fail
    go_ret
    exact ⟨rfl, rfl⟩
  · refine (apply_is 43 a b 0 3 _ ha hb e).mono ?_
    rintro e w' ⟨rfl, rfl⟩
    clear e ha hb
    go_wp2_with fail
    go_ret
    exact ⟨rfl, rfl⟩

set_option maxHeartbeats 1000000 in
theorem jcodes_r45_0 (sel x y kx ky : Int) (w : World) (hx : Ex.inI x) (hy : Ex.inI y) (h0 : 0 ≤ kx) (h1 : kx ≤ 255) (h2 : 0 ≤ ky) (h3 : ky ≤ 255) (s0 : 0 ≤ sel) (s1 : sel ≤ 255) (hs : sel % 8 = 0) :
    Calls Ybvm.prog 6 #[.int .u8 45, .int .u8 sel, .int .i64 x, .int .i64 y, .int .u8 kx, .int .u8 ky] w fun e w' => e = .returned (.bool true) ∧ w' = w := by
  go_enter Ybvm.func6, Ybvm.ntmps6
  go_wp2_with fail
  refine (jwide_any x kx _ hx h0 h1).mono ?_
  rintro e w' ⟨a, ha, rfl, rfl⟩
  go_wp2_with fail
  refine (jwide_any y ky _ hy h2 h3).mono ?_
  rintro e w' ⟨b, hb, rfl, rfl⟩
  go_wp2_with fail
  rcases ap_codes 45 a b (.inr (.inl rfl)) with ⟨r, e⟩ | e
  · refine (apply_is 45 a b r 0 _ ha hb e).mono ?_
    rintro e w' ⟨rfl, rfl⟩
    clear e ha hb
    go_wp2_with fail
    go_ret
    exact ⟨rfl, rfl⟩
  · refine (apply_is 45 a b 0 3 _ ha hb e).mono ?_
    rintro e w' ⟨rfl, rfl⟩
    clear e ha hb
    go_wp2_with fail
    go_ret
    exact ⟨rfl, rfl⟩

set_option maxHeartbeats 1000000 in
theorem jcodes_r45_7 (sel x y kx ky : Int) (w : World) (hx : Ex.inI x) (hy : Ex.inI y) (h0 : 0 ≤ kx) (h1 : kx ≤ 255) (h2 : 0 ≤ ky) (h3 : ky ≤ 255) (s0 : 0 ≤ sel) (s1 : sel ≤ 255) (hs : sel % 8 = 7) :
    Calls Ybvm.prog 6 #[.int .u8 45, .int .u8 sel, .int .i64 x, .int .i64 y, .int .u8 kx, .int .u8 ky] w fun e w' => e = .returned (.bool true) ∧ w' = w := by
  go_enter Ybvm.func6, Ybvm.ntmps6
  go_wp2_with fail
  refine (jwide_any x kx _ hx h0 h1).mono ?_
  rintro e w' ⟨a, ha, rfl, rfl⟩
  go_wp2_with fail
  refine (jwide_any y ky _ hy h2 h3).mono ?_
  rintro e w' ⟨b, hb, rfl, rfl⟩
  go_wp2_with fail
  rcases ap_codes 45 a b (.inr (.inl rfl)) with ⟨r, e⟩ | e
  · refine (apply_is 45 a b r 0 _ ha hb e).mono ?_
    rintro e w' ⟨rfl, rfl⟩
    clear e ha hb
    go_wp2_with fail
    go_ret
    exact ⟨rfl, rfl⟩
  · refine (apply_is 45 a b 0 3 _ ha hb e).mono ?_
    rintro e w' ⟨rfl, rfl⟩
    clear e ha hb
    go_wp2_with fail
    go_ret
    exact ⟨rfl, rfl⟩

set_option maxHeartbeats 1000000 in
theorem jcodes_r42_0 (sel x y kx ky : Int) (w : World) (hx : Ex.inI x) (hy : Ex.inI y) (h0 : 0 ≤ kx) (h1 : kx ≤ 255) (h2 : 0 ≤ ky) (h3 : ky ≤ 255) (s0 : 0 ≤ sel) (s1 : sel ≤ 255) (hs : sel % 8 = 0) :
    Calls Ybvm.prog 6 #[.int .u8 42, .int .u8 sel, .int .i64 x, .int .i64 y, .int .u8 kx, .int .u8 ky] w fun e w' => e = .returned (.bool true) ∧ w' = w := by
  go_enter Ybvm.func6, Ybvm.ntmps6
  go_wp2_with fail
  refine (jwide_any x kx _ hx h0 h1).mono ?_
  rintro e w' ⟨a, ha, rfl, rfl⟩
  go_wp2_with fail
  refine (jwide_any y ky _ hy h2 h3).mono ?_
  rintro e w' ⟨b, hb, rfl, rfl⟩
  go_wp2_with fail
  rcases ap_codes 42 a b (.inr (.inr (.inl rfl))) with ⟨r, e⟩ | e
  · refine (apply_is 42 a b r 0 _ ha hb e).mono ?_
    rintro e w' ⟨rfl, rfl⟩
    clear e ha hb
    go_wp2_with fail
    go_ret
    exact ⟨rfl, rfl⟩
  · refine (apply_is 42 a b 0 3 _ ha hb e).mono ?_
    rintro e w' ⟨rfl, rfl⟩
    clear e ha hb
    go_wp2_with fail
    go_ret
    exact ⟨rfl, rfl⟩

set_option maxHeartbeats 1000000 in
theorem jcodes_r42_7 (sel x y kx ky : Int) (w : World) (hx : Ex.inI x) (hy : Ex.inI y) (h0 : 0 ≤ kx) (h1 : kx ≤ 255) (h2 : 0 ≤ ky) (h3 : ky ≤ 255) (s0 : 0 ≤ sel) (s1 : sel ≤ 255) (hs : sel % 8 = 7) :
    Calls Ybvm.prog 6 #[.int .u8 42, .int .u8 sel, .int .i64 x, .int .i64 y, .int .u8 kx, .int .u8 ky] w fun e w' => e = .returned (.bool true) ∧ w' = w := by
  go_enter Ybvm.func6, Ybvm.ntmps6
  go_wp2_with fail
  refine (jwide_any x kx _ hx h0 h1).mono ?_
  rintro e w' ⟨a, ha, rfl, rfl⟩
  go_wp2_with fail
  refine (jwide_any y ky _ hy h2 h3).mono ?_
  rintro e w' ⟨b, hb, rfl, rfl⟩
  go_wp2_with fail
  rcases ap_codes 42 a b (.inr (.inr (.inl rfl))) with ⟨r, e⟩ | e
  · refine (apply_is 42 a b r 0 _ ha hb e).mono ?_
    rintro e w' ⟨rfl, rfl⟩
    clear e ha hb
    go_wp2_with fail
    go_ret
    exact ⟨rfl, rfl⟩
  · refine (apply_is 42 a b 0 3 _ ha hb e).mono ?_
    rintro e w' ⟨rfl, rfl⟩
    clear e ha hb
    go_wp2_with fail
    go_ret
    exact ⟨rfl, rfl⟩

set_option maxHeartbeats 1000000 in
theorem jcodes_r47_0 (sel x y kx ky : Int) (w : World) (hx : Ex.inI x) (hy : Ex.inI y) (h0 : 0 ≤ kx) (h1 : kx ≤ 255) (h2 : 0 ≤ ky) (h3 : ky ≤ 255) (s0 : 0 ≤ sel) (s1 : sel ≤ 255) (hs : sel % 8 = 0) :
    Calls Ybvm.prog 6 #[.int .u8 47, .int .u8 sel, .int .i64 x, .int .i64 y, .int .u8 kx, .int .u8 ky] w fun e w' => e = .returned (.bool true) ∧ w' = w := by
  go_enter Ybvm.func6, Ybvm.ntmps6
  go_wp2_with fail
  refine (jwide_any x kx _ hx h0 h1).mono ?_
  rintro e w' ⟨a, ha, rfl, rfl⟩
  go_wp2_with fail
  refine (jwide_any y ky _ hy h2 h3).mono ?_
  rintro e w' ⟨b, hb, rfl, rfl⟩
  go_wp2_with fail
  by_cases hz : b = 0
  · refine (apply_is 47 a b 0 4 _ ha hb (Ex.ap_div0 a b hz)).mono ?_
    rintro e w' ⟨rfl, rfl⟩
    subst hz
    clear ha hb
    go_wp2_with fail
    go_ret
    exact ⟨rfl, rfl⟩
  have hz' : (b == 0) = false := by simpa using hz
  rcases ap_codes 47 a b (.inr (.inr (.inr ⟨rfl, hz⟩))) with ⟨r, e⟩ | e
  · refine (apply_is 47 a b r 0 _ ha hb e).mono ?_
    rintro e w' ⟨rfl, rfl⟩
    clear e ha hb
    go_wp2_with fail
    go_ret
    exact ⟨rfl, rfl⟩
  · refine (apply_is 47 a b 0 3 _ ha hb e).mono ?_
    rintro e w' ⟨rfl, rfl⟩
    clear e ha hb
    go_wp2_with fail
    go_ret
    exact ⟨rfl, rfl⟩

set_option maxHeartbeats 1000000 in
theorem jcodes_r47_7 (sel x y kx ky : Int) (w : World) (hx : Ex.inI x) (hy : Ex.inI y) (h0 : 0 ≤ kx) (h1 : kx ≤ 255) (h2 : 0 ≤ ky) (h3 : ky ≤ 255) (s0 : 0 ≤ sel) (s1 : sel ≤ 255) (hs : sel % 8 = 7) :
    Calls Ybvm.prog 6 #[.int .u8 47, .int .u8 sel, .int .i64 x, .int .i64 y, .int .u8 kx, .int .u8 ky] w fun e w' => e = .returned (.bool true) ∧ w' = w := by
  go_enter Ybvm.func6, Ybvm.ntmps6
  go_wp2_with fail
  refine (jwide_any x kx _ hx h0 h1).mono ?_
  rintro e w' ⟨a, ha, rfl, rfl⟩
  go_wp2_with fail
  refine (jwide_any y ky _ hy h2 h3).mono ?_
  rintro e w' ⟨b, hb, rfl, rfl⟩
  go_wp2_with fail
  by_cases hz : b = 0
  · refine (apply_is 47 a b 0 4 _ ha hb (Ex.ap_div0 a b hz)).mono ?_
    rintro e w' ⟨rfl, rfl⟩
    subst hz
    clear ha hb
    go_wp2_with fail
    go_ret
    exact ⟨rfl, rfl⟩
  have hz' : (b == 0) = false := by simpa using hz
  rcases ap_codes 47 a b (.inr (.inr (.inr ⟨rfl, hz⟩))) with ⟨r, e⟩ | e
  · refine (apply_is 47 a b r 0 _ ha hb e).mono ?_
    rintro e w' ⟨rfl, rfl⟩
    clear e ha hb
    go_wp2_with fail
    go_ret
    exact ⟨rfl, rfl⟩
  · refine (apply_is 47 a b 0 3 _ ha hb e).mono ?_
    rintro e w' ⟨rfl, rfl⟩
    clear e ha hb
    go_wp2_with fail
    go_ret
    exact ⟨rfl, rfl⟩

set_option maxHeartbeats 1000000 in
theorem jcodes_ro_0 (raw sel x y kx ky : Int) (w : World) (hx : Ex.inI x) (hy : Ex.inI y) (h0 : 0 ≤ kx) (h1 : kx ≤ 255) (h2 : 0 ≤ ky) (h3 : ky ≤ 255) (s0 : 0 ≤ sel) (s1 : sel ≤ 255) (hs : sel % 8 = 0) (n1 : raw ≠ 43) (n2 : raw ≠ 45) (n3 : raw ≠ 42) (n4 : raw ≠ 47) :
    Calls Ybvm.prog 6 #[.int .u8 raw, .int .u8 sel, .int .i64 x, .int .i64 y, .int .u8 kx, .int .u8 ky] w fun e w' => e = .returned (.bool true) ∧ w' = w := by
  have k1 : (raw != 43) = true := by simpa using n1
  have k2 : (raw != 45) = true := by simpa using n2
  have k3 : (raw != 42) = true := by simpa using n3
  have k4 : (raw != 47) = true := by simpa using n4
  go_enter Ybvm.func6, Ybvm.ntmps6
  go_wp2_with fail
  refine (jwide_any x kx _ hx h0 h1).mono ?_
  rintro e w' ⟨a, ha, rfl, rfl⟩
  go_wp2_with fail
  refine (jwide_any y ky _ hy h2 h3).mono ?_
  rintro e w' ⟨b, hb, rfl, rfl⟩
  go_wp2_with fail
  refine (apply_is raw a b 0 2 _ ha hb (Ex.ap_other raw a b (by first | decide | assumption) (by first | decide | assumption) (by first | decide | assumption) (by first | decide | assumption))).mono ?_
  rintro e w' ⟨rfl, rfl⟩
  clear ha hb
  go_wp2_with fail
  go_ret
  exact ⟨rfl, rfl⟩

set_option maxHeartbeats 1000000 in
theorem jcodes_ro_7 (raw sel x y kx ky : Int) (w : World) (hx : Ex.inI x) (hy : Ex.inI y) (h0 : 0 ≤ kx) (h1 : kx ≤ 255) (h2 : 0 ≤ ky) (h3 : ky ≤ 255) (s0 : 0 ≤ sel) (s1 : sel ≤ 255) (hs : sel % 8 = 7) (n1 : raw ≠ 43) (n2 : raw ≠ 45) (n3 : raw ≠ 42) (n4 : raw ≠ 47) :
    Calls Ybvm.prog 6 #[.int .u8 raw, .int .u8 sel, .int .i64 x, .int .i64 y, .int .u8 kx, .int .u8 ky] w fun e w' => e = .returned (.bool true) ∧ w' = w := by
  have k1 : (raw != 43) = true := by simpa using n1
  have k2 : (raw != 45) = true := by simpa using n2
  have k3 : (raw != 42) = true := by simpa using n3
  have k4 : (raw != 47) = true := by simpa using n4
  go_enter Ybvm.func6, Ybvm.ntmps6
  go_wp2_with fail
  refine (jwide_any x kx _ hx h0 h1).mono ?_
  rintro e w' ⟨a, ha, rfl, rfl⟩
  go_wp2_with fail
  refine (jwide_any y ky _ hy h2 h3).mono ?_
  rintro e w' ⟨b, hb, rfl, rfl⟩
  go_wp2_with fail
  refine (apply_is raw a b 0 2 _ ha hb (Ex.ap_other raw a b (by first | decide | assumption) (by first | decide | assumption) (by first | decide | assumption) (by first | decide | assumption))).mono ?_
  rintro e w' ⟨rfl, rfl⟩
  clear ha hb
  go_wp2_with fail
  go_ret
  exact ⟨rfl, rfl⟩

theorem jcodes_any (raw sel x y kx ky : Int) (w : World) (hx : Ex.inI x) (hy : Ex.inI y) (h0 : 0 ≤ kx) (h1 : kx ≤ 255) (h2 : 0 ≤ ky) (h3 : ky ≤ 255) (s0 : 0 ≤ sel) (s1 : sel ≤ 255) :
    Calls Ybvm.prog 6 #[.int .u8 raw, .int .u8 sel, .int .i64 x, .int .i64 y, .int .u8 kx, .int .u8 ky] w fun e w' => e = .returned (.bool true) ∧ w' = w := by
  have hs : sel % 8 = 0 ∨ sel % 8 = 1 ∨ sel % 8 = 2 ∨ sel % 8 = 3 ∨ sel % 8 = 4 ∨ sel % 8 = 5 ∨ sel % 8 = 6 ∨ sel % 8 = 7 := by omega
  rcases hs with hs | hs | hs | hs | hs | hs | hs | hs
  · by_cases n1 : raw = 43
    · subst n1; exact jcodes_r43_0 sel x y kx ky w hx hy h0 h1 h2 h3 s0 s1 hs
    by_cases n2 : raw = 45
    · subst n2; exact jcodes_r45_0 sel x y kx ky w hx hy h0 h1 h2 h3 s0 s1 hs
    by_cases n3 : raw = 42
    · subst n3; exact jcodes_r42_0 sel x y kx ky w hx hy h0 h1 h2 h3 s0 s1 hs
    by_cases n4 : raw = 47
    · subst n4; exact jcodes_r47_0 sel x y kx ky w hx hy h0 h1 h2 h3 s0 s1 hs
    exact jcodes_ro_0 raw sel x y kx ky w hx hy h0 h1 h2 h3 s0 s1 hs n1 n2 n3 n4
  · exact jcodes_s1 raw sel x y kx ky w hx hy h0 h1 h2 h3 s0 s1 hs
  · exact jcodes_s2 raw sel x y kx ky w hx hy h0 h1 h2 h3 s0 s1 hs
  · exact jcodes_s3 raw sel x y kx ky w hx hy h0 h1 h2 h3 s0 s1 hs
  · exact jcodes_s4 raw sel x y kx ky w hx hy h0 h1 h2 h3 s0 s1 hs
  · exact jcodes_s5 raw sel x y kx ky w hx hy h0 h1 h2 h3 s0 s1 hs
  · exact jcodes_s6 raw sel x y kx ky w hx hy h0 h1 h2 h3 s0 s1 hs
  · by_cases n1 : raw = 43
    · subst n1; exact jcodes_r43_7 sel x y kx ky w hx hy h0 h1 h2 h3 s0 s1 hs
    by_cases n2 : raw = 45
    · subst n2; exact jcodes_r45_7 sel x y kx ky w hx hy h0 h1 h2 h3 s0 s1 hs
    by_cases n3 : raw = 42
    · subst n3; exact jcodes_r42_7 sel x y kx ky w hx hy h0 h1 h2 h3 s0 s1 hs
    by_cases n4 : raw = 47
    · subst n4; exact jcodes_r47_7 sel x y kx ky w hx hy h0 h1 h2 h3 s0 s1 hs
    exact jcodes_ro_7 raw sel x y kx ky w hx hy h0 h1 h2 h3 s0 s1 hs n1 n2 n3 n4
end Go.Proofs.Ymbrbv
