import Derived.Test.YmbrbvJWalk
import Derived.Test.YmbrbvKExactWalk
set_option linter.unusedVariables false
set_option linter.unusedSimpArgs false
namespace Go.Proofs.Ymbrbv
open Go.RowKit

set_option maxHeartbeats 1000000 in
theorem jmag_is (x u : Int) (w : World) (hx : Ex.inI x) (hu : (x.natAbs : Int) = u) :
    Calls Ybvm.prog 17 #[.int .i64 x] w fun e w' => e = .returned (.int .u64 u) ∧ w' = w := by
  have h1 := hx.1
  have h2 := hx.2
  have HU : Hid ((x.natAbs : Int) = u) := hu
  clear hu
  by_cases h : x < 0
  · go_enter Ybvm.func17, Ybvm.ntmps17
    go_wp2
    go_ret
    exact ⟨ret_int (by show IntKind.u64.wrap (-IntKind.u64.wrap x) = u; have := HU.out; rw [IntKind.wrap_u64, IntKind.wrap_u64]; omega), rfl⟩
  · go_enter Ybvm.func17, Ybvm.ntmps17
    go_wp2
    go_ret
    exact ⟨ret_int (by show x = u; have := HU.out; omega), rfl⟩

theorem jm_test {a b ua ub lim : Int} (hua : (a.natAbs : Int) = ua) (hub : (b.natAbs : Int) = ub) (h0 : 0 < ua)
    (hlim : ((a < 0 ↔ b < 0) → lim = 9223372036854775807) ∧ (¬ (a < 0 ↔ b < 0) → lim = 9223372036854775808)) : ub ≤ lim / ua ↔ Ex.inI (a * b) := by
  rw [Int.le_ediv_iff_mul_le h0]
  obtain ⟨f1, f2⟩ := Ex.mag_fits hua hub
  have hs := Ex.sgn_mul a b
  have h2 : ((a * b).natAbs : Int) = ub * ua := by rw [hs, Int.natCast_mul, hua, hub, Int.mul_comm]
  rw [Int.mul_comm ua ub] at f1 f2
  unfold Ex.inI
  generalize ub * ua = m at *
  generalize a * b = p at *
  by_cases k : (a < 0 ↔ b < 0)
  · have := f1 k; have := hlim.1 k; omega
  · have := f2 k; have := hlim.2 k; omega

theorem jd_sgn {a b ua ub : Int} (hua : (a.natAbs : Int) = ua) (hub : (b.natAbs : Int) = ub) (hb : b ≠ 0) :
    0 ≤ ua / ub ∧ ((a < 0 ↔ b < 0) → a.tdiv b = ua / ub) ∧ (¬ (a < 0 ↔ b < 0) → a.tdiv b = -(ua / ub)) := by
  refine ⟨Int.ediv_nonneg (by omega) (by omega), ?_, ?_⟩
  · intro k
    by_cases ha : a < 0
    · have hbn := k.1 ha
      obtain rfl : a = -ua := by omega
      obtain rfl : b = -ub := by omega
      rw [Int.neg_tdiv, Int.tdiv_neg, Int.neg_neg]
      exact Int.tdiv_eq_ediv_of_nonneg (by omega)
    · have hbn : ¬ b < 0 := fun h => ha (k.2 h)
      obtain rfl : a = ua := by omega
      obtain rfl : b = ub := by omega
      exact Int.tdiv_eq_ediv_of_nonneg (by omega)
  · intro k
    by_cases ha : a < 0
    · have hbn : ¬ b < 0 := fun h => k ⟨fun _ => h, fun _ => ha⟩
      obtain rfl : a = -ua := by omega
      obtain rfl : b = ub := by omega
      rw [Int.neg_tdiv, Int.tdiv_eq_ediv_of_nonneg (by omega)]
    · have hbn : b < 0 := Decidable.byContradiction fun h => k ⟨fun x => absurd x ha, fun x => absurd x h⟩
      obtain rfl : a = ua := by omega
      obtain rfl : b = -ub := by omega
      rw [Int.tdiv_neg, Int.tdiv_eq_ediv_of_nonneg (by omega)]

/-- all that the walk over a division asks -/
theorem jd_facts {a b ua ub lim : Int} (hua : (a.natAbs : Int) = ua) (hub : (b.natAbs : Int) = ub) (hb : b ≠ 0)
    (hlim : ((a < 0 ↔ b < 0) → lim = 9223372036854775807) ∧ (¬ (a < 0 ↔ b < 0) → lim = 9223372036854775808)) :
    ∃ q, ua / ub = q ∧ (q ≤ lim ↔ Ex.inI (a.tdiv b)) ∧ (Ex.inI (a.tdiv b) → ((a < 0 ↔ b < 0) → wrap64 q = a.tdiv b) ∧ (¬ (a < 0 ↔ b < 0) → wrap64 (IntKind.u64.wrap (-q)) = a.tdiv b)) := by
  obtain ⟨h0, h1, h2⟩ := jd_sgn hua hub hb
  refine ⟨_, rfl, ?_, ?_⟩
  · unfold Ex.inI
    generalize ua / ub = q at *
    generalize a.tdiv b = p at *
    by_cases k : (a < 0 ↔ b < 0)
    · have := h1 k; have := hlim.1 k; omega
    · have := h2 k; have := hlim.2 k; omega
  · unfold Ex.inI
    intro hi
    simp only [IntKind.wrap_u64, wrap64]
    generalize ua / ub = q at *
    generalize a.tdiv b = p at *
    exact ⟨fun k => by have := h1 k; omega, fun k => by have := h2 k; omega⟩

set_option maxHeartbeats 2000000 in
theorem jprod_mul (x y kx ky : Int) (w : World) (hx : Ex.inI x) (hy : Ex.inI y) (h0 : 0 ≤ kx) (h1 : kx ≤ 255) (h2 : 0 ≤ ky) (h3 : ky ≤ 255) :
    Calls Ybvm.prog 5 #[.bool false, .int .i64 x, .int .i64 y, .int .u8 kx, .int .u8 ky] w fun e w' => e = .returned (.bool true) ∧ w' = w := by
  go_enter Ybvm.func5, Ybvm.ntmps5
  go_wp2_with fail
  refine (jwide_any x kx _ hx h0 h1).mono ?_
  rintro e w' ⟨a, ha, rfl, rfl⟩
  go_wp2_with fail
  refine (jwide_any y ky _ hy h2 h3).mono ?_
  rintro e w' ⟨b, hb, rfl, rfl⟩
  obtain ⟨ua, hua⟩ : ∃ ua, (a.natAbs : Int) = ua := ⟨_, rfl⟩
  obtain ⟨ub, hub⟩ : ∃ ub, (b.natAbs : Int) = ub := ⟨_, rfl⟩
  have HUA : Hid ((a.natAbs : Int) = ua) := hua
  have HUB : Hid ((b.natAbs : Int) = ub) := hub
  have HA : Hid (Ex.inI a) := ha
  have HB : Hid (Ex.inI b) := hb
  have g1 : 0 ≤ ua := by omega
  have g2 : ua ≤ 9223372036854775808 := by have := ha.1; have := ha.2; omega
  have g3 : 0 ≤ ub := by omega
  have g4 : ub ≤ 9223372036854775808 := by have := hb.1; have := hb.2; omega
  clear hua hub ha hb hx hy h0 h1 h2 h3
  go_wp2_with fail
  refine (jmag_is a ua _ HA.out HUA.out).mono ?_
  rintro e w' ⟨rfl, rfl⟩
  go_wp2_with fail
  refine (jmag_is b ub _ HB.out HUB.out).mono ?_
  rintro e w' ⟨rfl, rfl⟩
  by_cases hz : a = 0
  · have hu : ua = 0 := by have := HUA.out; omega
    have H0 : Hid (Ex.ap 42 a b = (0, 0)) := by show _ = _; rw [Ex.ap_mul, hz]; simp [Ex.fit, Ex.inB]
    subst hz
    subst hu
    by_cases s2 : b < 0
    · go_wp2_with fail
      refine (apply_is 42 0 b 0 0 _ HA.out HB.out H0.out).mono ?_
      rintro e w' ⟨rfl, rfl⟩
      go_wp2_with fail
      go_ret
      exact ⟨rfl, rfl⟩
    · have d2 : decide (b < 0) = false := by simpa using s2
      go_wp2_with fail
      refine (apply_is 42 0 b 0 0 _ HA.out HB.out H0.out).mono ?_
      rintro e w' ⟨rfl, rfl⟩
      go_wp2_with fail
      go_ret
      exact ⟨rfl, rfl⟩
  have hup : 0 < ua := by have := HUA.out; omega
  have hu1 : (ua == 0) = false := by simp; omega
  have hu2 : 1 ≤ ua := hup
  clear hz
  rcases (show (decide (a < 0) = true ∧ decide (b < 0) = true) ∨ (decide (a < 0) = true ∧ decide (b < 0) = false) ∨ (decide (a < 0) = false ∧ decide (b < 0) = true) ∨ (decide (a < 0) = false ∧ decide (b < 0) = false) from by cases decide (a < 0) <;> cases decide (b < 0) <;> simp) with ⟨s1, s2⟩ | ⟨s1, s2⟩ | ⟨s1, s2⟩ | ⟨s1, s2⟩
  · have hk : (a < 0 ↔ b < 0) := by
      have t1 := s1
      have t2 := s2
      simp only [decide_eq_true_eq, decide_eq_false_iff_not] at t1 t2
      simp [t1, t2]
    have ht := jm_test (lim := 9223372036854775807) HUA.out HUB.out hup ⟨fun _ => rfl, fun k => absurd hk k⟩
    rcases Ex.fit_cases (a * b) with ⟨h, e⟩ | ⟨h, e⟩
    · have E : Hid (Ex.ap 42 a b = (a * b, 0)) := by show _ = _; rw [Ex.ap_mul]; exact e
      have t1 : decide (ub ≤ 9223372036854775807 / ua) = true := by simpa using ht.2 h
      obtain ⟨m, e1, e2, e3⟩ := kex_fin HUA.out HUB.out h
      have e4 := e2 hk
      clear e2 e3 ht hk h e
      go_wp2_with fail
      refine (apply_is 42 a b (a * b) 0 _ HA.out HB.out E.out).mono ?_
      rintro e w' ⟨rfl, rfl⟩
      go_wp2_with fail
      go_ret
      exact ⟨rfl, rfl⟩
    · have E : Hid (Ex.ap 42 a b = (0, 3)) := by show _ = _; rw [Ex.ap_mul]; exact e
      have t1 : decide (ub ≤ 9223372036854775807 / ua) = false := by rw [decide_eq_false_iff_not, ht]; exact h
      clear ht hk h e
      go_wp2_with fail
      refine (apply_is 42 a b 0 3 _ HA.out HB.out E.out).mono ?_
      rintro e w' ⟨rfl, rfl⟩
      go_wp2_with fail
      go_ret
      exact ⟨rfl, rfl⟩
  · have hk : ¬ (a < 0 ↔ b < 0) := by
      have t1 := s1
      have t2 := s2
      simp only [decide_eq_true_eq, decide_eq_false_iff_not] at t1 t2
      simp [t1, t2]
    have ht := jm_test (lim := 9223372036854775808) HUA.out HUB.out hup ⟨fun k => absurd k hk, fun _ => rfl⟩
    rcases Ex.fit_cases (a * b) with ⟨h, e⟩ | ⟨h, e⟩
    · have E : Hid (Ex.ap 42 a b = (a * b, 0)) := by show _ = _; rw [Ex.ap_mul]; exact e
      have t1 : decide (ub ≤ 9223372036854775808 / ua) = true := by simpa using ht.2 h
      obtain ⟨m, e1, e2, e3⟩ := kex_fin HUA.out HUB.out h
      have e4 := e3 hk
      clear e2 e3 ht hk h e
      go_wp2_with fail
      refine (apply_is 42 a b (a * b) 0 _ HA.out HB.out E.out).mono ?_
      rintro e w' ⟨rfl, rfl⟩
      go_wp2_with fail
      go_ret
      exact ⟨rfl, rfl⟩
    · have E : Hid (Ex.ap 42 a b = (0, 3)) := by show _ = _; rw [Ex.ap_mul]; exact e
      have t1 : decide (ub ≤ 9223372036854775808 / ua) = false := by rw [decide_eq_false_iff_not, ht]; exact h
      clear ht hk h e
      go_wp2_with fail
      refine (apply_is 42 a b 0 3 _ HA.out HB.out E.out).mono ?_
      rintro e w' ⟨rfl, rfl⟩
      go_wp2_with fail
      go_ret
      exact ⟨rfl, rfl⟩
  · have hk : ¬ (a < 0 ↔ b < 0) := by
      have t1 := s1
      have t2 := s2
      simp only [decide_eq_true_eq, decide_eq_false_iff_not] at t1 t2
      simp [t1, t2]
    have ht := jm_test (lim := 9223372036854775808) HUA.out HUB.out hup ⟨fun k => absurd k hk, fun _ => rfl⟩
    rcases Ex.fit_cases (a * b) with ⟨h, e⟩ | ⟨h, e⟩
    · have E : Hid (Ex.ap 42 a b = (a * b, 0)) := by show _ = _; rw [Ex.ap_mul]; exact e
      have t1 : decide (ub ≤ 9223372036854775808 / ua) = true := by simpa using ht.2 h
      obtain ⟨m, e1, e2, e3⟩ := kex_fin HUA.out HUB.out h
      have e4 := e3 hk
      clear e2 e3 ht hk h e
      go_wp2_with fail
      refine (apply_is 42 a b (a * b) 0 _ HA.out HB.out E.out).mono ?_
      rintro e w' ⟨rfl, rfl⟩
      go_wp2_with fail
      go_ret
      exact ⟨rfl, rfl⟩
    · have E : Hid (Ex.ap 42 a b = (0, 3)) := by show _ = _; rw [Ex.ap_mul]; exact e
      have t1 : decide (ub ≤ 9223372036854775808 / ua) = false := by rw [decide_eq_false_iff_not, ht]; exact h
      clear ht hk h e
      go_wp2_with fail
      refine (apply_is 42 a b 0 3 _ HA.out HB.out E.out).mono ?_
      rintro e w' ⟨rfl, rfl⟩
      go_wp2_with fail
      go_ret
      exact ⟨rfl, rfl⟩
  · have hk : (a < 0 ↔ b < 0) := by
      have t1 := s1
      have t2 := s2
      simp only [decide_eq_true_eq, decide_eq_false_iff_not] at t1 t2
      simp [t1, t2]
    have ht := jm_test (lim := 9223372036854775807) HUA.out HUB.out hup ⟨fun _ => rfl, fun k => absurd hk k⟩
    rcases Ex.fit_cases (a * b) with ⟨h, e⟩ | ⟨h, e⟩
    · have E : Hid (Ex.ap 42 a b = (a * b, 0)) := by show _ = _; rw [Ex.ap_mul]; exact e
      have t1 : decide (ub ≤ 9223372036854775807 / ua) = true := by simpa using ht.2 h
      obtain ⟨m, e1, e2, e3⟩ := kex_fin HUA.out HUB.out h
      have e4 := e2 hk
      clear e2 e3 ht hk h e
      go_wp2_with fail
      refine (apply_is 42 a b (a * b) 0 _ HA.out HB.out E.out).mono ?_
      rintro e w' ⟨rfl, rfl⟩
      go_wp2_with fail
      go_ret
      exact ⟨rfl, rfl⟩
    · have E : Hid (Ex.ap 42 a b = (0, 3)) := by show _ = _; rw [Ex.ap_mul]; exact e
      have t1 : decide (ub ≤ 9223372036854775807 / ua) = false := by rw [decide_eq_false_iff_not, ht]; exact h
      clear ht hk h e
      go_wp2_with fail
      refine (apply_is 42 a b 0 3 _ HA.out HB.out E.out).mono ?_
      rintro e w' ⟨rfl, rfl⟩
      go_wp2_with fail
      go_ret
      exact ⟨rfl, rfl⟩

set_option maxHeartbeats 2000000 in
theorem jprod_div (x y kx ky : Int) (w : World) (hx : Ex.inI x) (hy : Ex.inI y) (h0 : 0 ≤ kx) (h1 : kx ≤ 255) (h2 : 0 ≤ ky) (h3 : ky ≤ 255) :
    Calls Ybvm.prog 5 #[.bool true, .int .i64 x, .int .i64 y, .int .u8 kx, .int .u8 ky] w fun e w' => e = .returned (.bool true) ∧ w' = w := by
  go_enter Ybvm.func5, Ybvm.ntmps5
  go_wp2_with fail
  refine (jwide_any x kx _ hx h0 h1).mono ?_
  rintro e w' ⟨a, ha, rfl, rfl⟩
  go_wp2_with fail
  refine (jwide_any y ky _ hy h2 h3).mono ?_
  rintro e w' ⟨b, hb, rfl, rfl⟩
  obtain ⟨ua, hua⟩ : ∃ ua, (a.natAbs : Int) = ua := ⟨_, rfl⟩
  obtain ⟨ub, hub⟩ : ∃ ub, (b.natAbs : Int) = ub := ⟨_, rfl⟩
  have HUA : Hid ((a.natAbs : Int) = ua) := hua
  have HUB : Hid ((b.natAbs : Int) = ub) := hub
  have HA : Hid (Ex.inI a) := ha
  have HB : Hid (Ex.inI b) := hb
  have g1 : 0 ≤ ua := by omega
  have g2 : ua ≤ 9223372036854775808 := by have := ha.1; have := ha.2; omega
  have g3 : 0 ≤ ub := by omega
  have g4 : ub ≤ 9223372036854775808 := by have := hb.1; have := hb.2; omega
  clear hua hub ha hb hx hy h0 h1 h2 h3
  go_wp2_with fail
  refine (jmag_is a ua _ HA.out HUA.out).mono ?_
  rintro e w' ⟨rfl, rfl⟩
  go_wp2_with fail
  refine (jmag_is b ub _ HB.out HUB.out).mono ?_
  rintro e w' ⟨rfl, rfl⟩
  by_cases hz : b = 0
  · have hu : ub = 0 := by have := HUB.out; omega
    have H0 : Hid (Ex.ap 47 a b = (0, 4)) := Ex.ap_div0 a b hz
    subst hz
    subst hu
    by_cases s1 : a < 0
    · go_wp2_with fail
      refine (apply_is 47 a 0 0 4 _ HA.out HB.out H0.out).mono ?_
      rintro e w' ⟨rfl, rfl⟩
      go_wp2_with fail
      go_ret
      exact ⟨rfl, rfl⟩
    · have d1 : decide (a < 0) = false := by simpa using s1
      go_wp2_with fail
      refine (apply_is 47 a 0 0 4 _ HA.out HB.out H0.out).mono ?_
      rintro e w' ⟨rfl, rfl⟩
      go_wp2_with fail
      go_ret
      exact ⟨rfl, rfl⟩
  have hup : 0 < ub := by have := HUB.out; omega
  have hu1 : (ub == 0) = false := by simp; omega
  have hu2 : 1 ≤ ub := hup
  rcases (show (decide (a < 0) = true ∧ decide (b < 0) = true) ∨ (decide (a < 0) = true ∧ decide (b < 0) = false) ∨ (decide (a < 0) = false ∧ decide (b < 0) = true) ∨ (decide (a < 0) = false ∧ decide (b < 0) = false) from by cases decide (a < 0) <;> cases decide (b < 0) <;> simp) with ⟨s1, s2⟩ | ⟨s1, s2⟩ | ⟨s1, s2⟩ | ⟨s1, s2⟩
  · have hk : (a < 0 ↔ b < 0) := by
      have t1 := s1
      have t2 := s2
      simp only [decide_eq_true_eq, decide_eq_false_iff_not] at t1 t2
      simp [t1, t2]
    obtain ⟨q, e1, e5, e6⟩ := jd_facts (lim := 9223372036854775807) HUA.out HUB.out hz ⟨fun _ => rfl, fun k => absurd hk k⟩
    rcases Ex.fit_cases (a.tdiv b) with ⟨h, e⟩ | ⟨h, e⟩
    · have E : Hid (Ex.ap 47 a b = (a.tdiv b, 0)) := by show _ = _; rw [Ex.ap_div a b hz]; exact e
      have t1 : decide (q ≤ 9223372036854775807) = true := by simpa using e5.2 h
      have e4 := (e6 h).1 hk
      clear e5 e6 hk h e hz
      go_wp2_with fail
      refine (apply_is 47 a b (a.tdiv b) 0 _ HA.out HB.out E.out).mono ?_
      rintro e w' ⟨rfl, rfl⟩
      go_wp2_with fail
      go_ret
      exact ⟨rfl, rfl⟩
    · have E : Hid (Ex.ap 47 a b = (0, 3)) := by show _ = _; rw [Ex.ap_div a b hz]; exact e
      have t1 : decide (q ≤ 9223372036854775807) = false := by rw [decide_eq_false_iff_not, e5]; exact h
      clear e5 e6 hk h e hz
      go_wp2_with fail
      refine (apply_is 47 a b 0 3 _ HA.out HB.out E.out).mono ?_
      rintro e w' ⟨rfl, rfl⟩
      go_wp2_with fail
      go_ret
      exact ⟨rfl, rfl⟩
  · have hk : ¬ (a < 0 ↔ b < 0) := by
      have t1 := s1
      have t2 := s2
      simp only [decide_eq_true_eq, decide_eq_false_iff_not] at t1 t2
      simp [t1, t2]
    obtain ⟨q, e1, e5, e6⟩ := jd_facts (lim := 9223372036854775808) HUA.out HUB.out hz ⟨fun k => absurd k hk, fun _ => rfl⟩
    rcases Ex.fit_cases (a.tdiv b) with ⟨h, e⟩ | ⟨h, e⟩
    · have E : Hid (Ex.ap 47 a b = (a.tdiv b, 0)) := by show _ = _; rw [Ex.ap_div a b hz]; exact e
      have t1 : decide (q ≤ 9223372036854775808) = true := by simpa using e5.2 h
      have e4 := (e6 h).2 hk
      clear e5 e6 hk h e hz
      go_wp2_with fail
      refine (apply_is 47 a b (a.tdiv b) 0 _ HA.out HB.out E.out).mono ?_
      rintro e w' ⟨rfl, rfl⟩
      go_wp2_with fail
      go_ret
      exact ⟨rfl, rfl⟩
    · have E : Hid (Ex.ap 47 a b = (0, 3)) := by show _ = _; rw [Ex.ap_div a b hz]; exact e
      have t1 : decide (q ≤ 9223372036854775808) = false := by rw [decide_eq_false_iff_not, e5]; exact h
      clear e5 e6 hk h e hz
      go_wp2_with fail
      refine (apply_is 47 a b 0 3 _ HA.out HB.out E.out).mono ?_
      rintro e w' ⟨rfl, rfl⟩
      go_wp2_with fail
      go_ret
      exact ⟨rfl, rfl⟩
  · have hk : ¬ (a < 0 ↔ b < 0) := by
      have t1 := s1
      have t2 := s2
      simp only [decide_eq_true_eq, decide_eq_false_iff_not] at t1 t2
      simp [t1, t2]
    obtain ⟨q, e1, e5, e6⟩ := jd_facts (lim := 9223372036854775808) HUA.out HUB.out hz ⟨fun k => absurd k hk, fun _ => rfl⟩
    rcases Ex.fit_cases (a.tdiv b) with ⟨h, e⟩ | ⟨h, e⟩
    · have E : Hid (Ex.ap 47 a b = (a.tdiv b, 0)) := by show _ = _; rw [Ex.ap_div a b hz]; exact e
      have t1 : decide (q ≤ 9223372036854775808) = true := by simpa using e5.2 h
      have e4 := (e6 h).2 hk
      clear e5 e6 hk h e hz
      go_wp2_with fail
      refine (apply_is 47 a b (a.tdiv b) 0 _ HA.out HB.out E.out).mono ?_
      rintro e w' ⟨rfl, rfl⟩
      go_wp2_with fail
      go_ret
      exact ⟨rfl, rfl⟩
    · have E : Hid (Ex.ap 47 a b = (0, 3)) := by show _ = _; rw [Ex.ap_div a b hz]; exact e
      have t1 : decide (q ≤ 9223372036854775808) = false := by rw [decide_eq_false_iff_not, e5]; exact h
      clear e5 e6 hk h e hz
      go_wp2_with fail
      refine (apply_is 47 a b 0 3 _ HA.out HB.out E.out).mono ?_
      rintro e w' ⟨rfl, rfl⟩
      go_wp2_with fail
      go_ret
      exact ⟨rfl, rfl⟩
  · have hk : (a < 0 ↔ b < 0) := by
      have t1 := s1
      have t2 := s2
      simp only [decide_eq_true_eq, decide_eq_false_iff_not] at t1 t2
      simp [t1, t2]
    obtain ⟨q, e1, e5, e6⟩ := jd_facts (lim := 9223372036854775807) HUA.out HUB.out hz ⟨fun _ => rfl, fun k => absurd hk k⟩
    rcases Ex.fit_cases (a.tdiv b) with ⟨h, e⟩ | ⟨h, e⟩
    · have E : Hid (Ex.ap 47 a b = (a.tdiv b, 0)) := by show _ = _; rw [Ex.ap_div a b hz]; exact e
      have t1 : decide (q ≤ 9223372036854775807) = true := by simpa using e5.2 h
      have e4 := (e6 h).1 hk
      clear e5 e6 hk h e hz
      go_wp2_with fail
      refine (apply_is 47 a b (a.tdiv b) 0 _ HA.out HB.out E.out).mono ?_
      rintro e w' ⟨rfl, rfl⟩
      go_wp2_with fail
      go_ret
      exact ⟨rfl, rfl⟩
    · have E : Hid (Ex.ap 47 a b = (0, 3)) := by show _ = _; rw [Ex.ap_div a b hz]; exact e
      have t1 : decide (q ≤ 9223372036854775807) = false := by rw [decide_eq_false_iff_not, e5]; exact h
      clear e5 e6 hk h e hz
      go_wp2_with fail
      refine (apply_is 47 a b 0 3 _ HA.out HB.out E.out).mono ?_
      rintro e w' ⟨rfl, rfl⟩
      go_wp2_with fail
      go_ret
      exact ⟨rfl, rfl⟩
end Go.Proofs.Ymbrbv
