import Derived.Test.YmbrbvMulWalk
set_option linter.unusedVariables false
set_option linter.unusedSimpArgs false
namespace Go.Proofs.Ymbrbv
open Go.RowKit
theorem ret_int {k : IntKind} {a b : Int} (h : a = b) : Ending.returned (.int k a) = .returned (.int k b) := by rw [h]

set_option maxHeartbeats 1000000 in
theorem kmag_is (x u : Int) (w : World) (hx : Ex.inI x) (hu : (x.natAbs : Int) = u) :
    Calls Ybvm.prog 19 #[.int .i64 x] w fun e w' => e = .returned (.int .u64 u) ∧ w' = w := by
  have h1 := hx.1
  have h2 := hx.2
  have HU : Hid ((x.natAbs : Int) = u) := hu
  clear hu
  by_cases h : x < 0
  · go_enter Ybvm.func19, Ybvm.ntmps19
    go_wp2
    go_ret
    exact ⟨ret_int (by show IntKind.u64.wrap (-IntKind.u64.wrap x) = u; have := HU.out; rw [IntKind.wrap_u64, IntKind.wrap_u64]; omega), rfl⟩
  · go_enter Ybvm.func19, Ybvm.ntmps19
    go_wp2
    go_ret
    exact ⟨ret_int (by show x = u; have := HU.out; omega), rfl⟩

/-- the plain law of the walk's end -/
theorem kex_fin {a b ua ub : Int} (hua : (a.natAbs : Int) = ua) (hub : (b.natAbs : Int) = ub) (h : Ex.inI (a * b)) :
    ∃ m, IntKind.u64.wrap (ua * ub) = m ∧ ((a < 0 ↔ b < 0) → wrap64 m = a * b) ∧ (¬ (a < 0 ↔ b < 0) → wrap64 (IntKind.u64.wrap (-m)) = a * b) := by
  refine ⟨_, rfl, ?_⟩
  obtain ⟨f1, f2⟩ := Ex.mag_fits hua hub
  have hs := Ex.sgn_mul a b
  have h2 : ((a * b).natAbs : Int) = ua * ub := by rw [hs, Int.natCast_mul, hua, hub]
  unfold Ex.inI at h
  simp only [IntKind.wrap_u64, wrap64]
  generalize ua * ub = m at *
  generalize a * b = p at *
  constructor
  · intro k; have := f1 k; omega
  · intro k; have := f2 k; omega

theorem kex_test {a b ua ub lim : Int} (hua : (a.natAbs : Int) = ua) (hub : (b.natAbs : Int) = ub) (h0 : b ≠ 0)
    (hlim : ((a < 0 ↔ b < 0) → lim = 9223372036854775807) ∧ (¬ (a < 0 ↔ b < 0) → lim = 9223372036854775808)) : lim / ub < ua ↔ ¬ Ex.inI (a * b) := by
  have hub0 : 0 < ub := by omega
  rw [Ex.lim_iff hub0]
  obtain ⟨f1, f2⟩ := Ex.mag_fits hua hub
  have hs := Ex.sgn_mul a b
  have h2 : ((a * b).natAbs : Int) = ua * ub := by rw [hs, Int.natCast_mul, hua, hub]
  unfold Ex.inI
  generalize ua * ub = m at *
  generalize a * b = p at *
  by_cases k : (a < 0 ↔ b < 0)
  · have := f1 k; have := hlim.1 k; omega
  · have := f2 k; have := hlim.2 k; omega

set_option maxHeartbeats 1000000 in
theorem kexact_any (a b : Int) (w : World) (ha : Ex.inI a) (hb : Ex.inI b) :
    Calls Ybvm.prog 7 #[.int .i64 a, .int .i64 b] w fun e w' => e = .returned (.bool true) ∧ w' = w := by
  obtain ⟨ua, hua⟩ : ∃ ua, (a.natAbs : Int) = ua := ⟨_, rfl⟩
  obtain ⟨ub, hub⟩ : ∃ ub, (b.natAbs : Int) = ub := ⟨_, rfl⟩
  have HUA : Hid ((a.natAbs : Int) = ua) := hua
  have HUB : Hid ((b.natAbs : Int) = ub) := hub
  have HA : Hid (Ex.inI a) := ha
  have HB : Hid (Ex.inI b) := hb
  by_cases hfit : Ex.inI (a * b)
  · obtain ⟨m, e1, e2, e3⟩ := kex_fin hua hub hfit
    have HF : Hid (Ex.inI (a * b)) := hfit
    by_cases h0 : b = 0
    · have hub0 : ub = 0 := by omega
      have hm : m = 0 := by rw [← e1, hub0]; simp [IntKind.wrap_u64]
      subst hub0 hm
      by_cases hn : a < 0
      · have hbn : ¬ b < 0 := by omega
        have e4 := e3 (by simp [hn, hbn])
        clear e2 e3 ha hb hua hub hfit e1
        subst h0
        first | have d1 : decide (a < 0) = true := (by simp; omega) | have d1 : decide (a < 0) = false := (by simp; omega)
        first | have d2 : decide (b < 0) = true := (by simp; omega) | have d2 : decide (b < 0) = false := (by simp; omega) | skip
        go_enter Ybvm.func7, Ybvm.ntmps7
        go_wp2_with fail
        refine (mul_ok a 0 _ HA.out HB.out HF.out).mono ?_
        rintro e w' ⟨rfl, rfl⟩
        go_wp2_with fail
        refine (kmag_is a ua _ HA.out HUA.out).mono ?_
        rintro e w' ⟨rfl, rfl⟩
        go_wp2_with fail
        refine (kmag_is 0 0 _ HB.out HUB.out).mono ?_
        rintro e w' ⟨rfl, rfl⟩
        go_wp2_with fail
        go_ret
        exact ⟨rfl, rfl⟩
      · have hbn : ¬ b < 0 := by omega
        have e4 := e2 (by simp [hn, hbn])
        clear e2 e3 ha hb hua hub hfit e1
        subst h0
        first | have d1 : decide (a < 0) = true := (by simp; omega) | have d1 : decide (a < 0) = false := (by simp; omega)
        first | have d2 : decide (b < 0) = true := (by simp; omega) | have d2 : decide (b < 0) = false := (by simp; omega) | skip
        go_enter Ybvm.func7, Ybvm.ntmps7
        go_wp2_with fail
        refine (mul_ok a 0 _ HA.out HB.out HF.out).mono ?_
        rintro e w' ⟨rfl, rfl⟩
        go_wp2_with fail
        refine (kmag_is a ua _ HA.out HUA.out).mono ?_
        rintro e w' ⟨rfl, rfl⟩
        go_wp2_with fail
        refine (kmag_is 0 0 _ HB.out HUB.out).mono ?_
        rintro e w' ⟨rfl, rfl⟩
        go_wp2_with fail
        go_ret
        exact ⟨rfl, rfl⟩
    · have hu1 : (ub != 0) = true := by simp; omega
      have hu2 : 1 ≤ ub := by omega
      by_cases hn : a < 0 ↔ b < 0
      · have e4 := e2 hn
        have ht : decide ((9223372036854775807 : Int) / ub < ua) = false := by
          rw [decide_eq_false_iff_not, kex_test hua hub h0 ⟨fun _ => rfl, fun k => absurd hn k⟩]; simpa using hfit
        have hx : 0 ≤ ua := by omega
        clear e2 e3 ha hb hua hub hfit h0
        by_cases k1 : a < 0
        · have k2 := hn.1 k1
          clear hn
          first | have d1 : decide (a < 0) = true := (by simp; omega) | have d1 : decide (a < 0) = false := (by simp; omega)
          first | have d2 : decide (b < 0) = true := (by simp; omega) | have d2 : decide (b < 0) = false := (by simp; omega) | skip
          go_enter Ybvm.func7, Ybvm.ntmps7
          go_wp2_with fail
          refine (mul_ok a b _ HA.out HB.out HF.out).mono ?_
          rintro e w' ⟨rfl, rfl⟩
          go_wp2_with fail
          refine (kmag_is a ua _ HA.out HUA.out).mono ?_
          rintro e w' ⟨rfl, rfl⟩
          go_wp2_with fail
          refine (kmag_is b ub _ HB.out HUB.out).mono ?_
          rintro e w' ⟨rfl, rfl⟩
          go_wp2_with fail
          go_ret
          exact ⟨rfl, rfl⟩
        · have k2 : ¬ b < 0 := fun k => k1 (hn.2 k)
          clear hn
          first | have d1 : decide (a < 0) = true := (by simp; omega) | have d1 : decide (a < 0) = false := (by simp; omega)
          first | have d2 : decide (b < 0) = true := (by simp; omega) | have d2 : decide (b < 0) = false := (by simp; omega) | skip
          go_enter Ybvm.func7, Ybvm.ntmps7
          go_wp2_with fail
          refine (mul_ok a b _ HA.out HB.out HF.out).mono ?_
          rintro e w' ⟨rfl, rfl⟩
          go_wp2_with fail
          refine (kmag_is a ua _ HA.out HUA.out).mono ?_
          rintro e w' ⟨rfl, rfl⟩
          go_wp2_with fail
          refine (kmag_is b ub _ HB.out HUB.out).mono ?_
          rintro e w' ⟨rfl, rfl⟩
          go_wp2_with fail
          go_ret
          exact ⟨rfl, rfl⟩
      · have e4 := e3 hn
        have ht : decide ((9223372036854775808 : Int) / ub < ua) = false := by
          rw [decide_eq_false_iff_not, kex_test hua hub h0 ⟨fun k => absurd k hn, fun _ => rfl⟩]; simpa using hfit
        have hx : 0 ≤ ua := by omega
        clear e2 e3 ha hb hua hub hfit h0
        by_cases k1 : a < 0
        · have k2 : ¬ b < 0 := fun k => hn ⟨fun _ => k, fun _ => k1⟩
          clear hn
          first | have d1 : decide (a < 0) = true := (by simp; omega) | have d1 : decide (a < 0) = false := (by simp; omega)
          first | have d2 : decide (b < 0) = true := (by simp; omega) | have d2 : decide (b < 0) = false := (by simp; omega) | skip
          go_enter Ybvm.func7, Ybvm.ntmps7
          go_wp2_with fail
          refine (mul_ok a b _ HA.out HB.out HF.out).mono ?_
          rintro e w' ⟨rfl, rfl⟩
          go_wp2_with fail
          refine (kmag_is a ua _ HA.out HUA.out).mono ?_
          rintro e w' ⟨rfl, rfl⟩
          go_wp2_with fail
          refine (kmag_is b ub _ HB.out HUB.out).mono ?_
          rintro e w' ⟨rfl, rfl⟩
          go_wp2_with fail
          go_ret
          exact ⟨rfl, rfl⟩
        · have k2 : b < 0 := by
            refine Decidable.byContradiction fun k => hn ⟨fun h => absurd h k1, fun h => absurd h k⟩
          clear hn
          first | have d1 : decide (a < 0) = true := (by simp; omega) | have d1 : decide (a < 0) = false := (by simp; omega)
          first | have d2 : decide (b < 0) = true := (by simp; omega) | have d2 : decide (b < 0) = false := (by simp; omega) | skip
          go_enter Ybvm.func7, Ybvm.ntmps7
          go_wp2_with fail
          refine (mul_ok a b _ HA.out HB.out HF.out).mono ?_
          rintro e w' ⟨rfl, rfl⟩
          go_wp2_with fail
          refine (kmag_is a ua _ HA.out HUA.out).mono ?_
          rintro e w' ⟨rfl, rfl⟩
          go_wp2_with fail
          refine (kmag_is b ub _ HB.out HUB.out).mono ?_
          rintro e w' ⟨rfl, rfl⟩
          go_wp2_with fail
          go_ret
          exact ⟨rfl, rfl⟩
  · have HF : Hid (¬ Ex.inI (a * b)) := hfit
    have h0 : b ≠ 0 := by rintro rfl; exact hfit (by simp [Ex.inI])
    have hu1 : (ub != 0) = true := by simp; omega
    have hu2 : 1 ≤ ub := by omega
    have hx : 0 ≤ ua := by omega
    by_cases hn : a < 0 ↔ b < 0
    · have ht : (9223372036854775807 : Int) / ub < ua := by
        rw [kex_test hua hub h0 ⟨fun _ => rfl, fun k => absurd hn k⟩]; exact hfit
      clear ha hb hua hub hfit h0
      by_cases k1 : a < 0
      · have k2 := hn.1 k1
        clear hn
        first | have d1 : decide (a < 0) = true := (by simp; omega) | have d1 : decide (a < 0) = false := (by simp; omega)
        first | have d2 : decide (b < 0) = true := (by simp; omega) | have d2 : decide (b < 0) = false := (by simp; omega) | skip
        go_enter Ybvm.func7, Ybvm.ntmps7
        go_wp2_with fail
        refine (mul_bad a b _ HA.out HB.out HF.out).mono ?_
        rintro e w' ⟨rfl, rfl⟩
        go_wp2_with fail
        refine (kmag_is a ua _ HA.out HUA.out).mono ?_
        rintro e w' ⟨rfl, rfl⟩
        go_wp2_with fail
        refine (kmag_is b ub _ HB.out HUB.out).mono ?_
        rintro e w' ⟨rfl, rfl⟩
        go_wp2_with fail
        go_ret
        exact ⟨rfl, rfl⟩
      · have k2 : ¬ b < 0 := fun k => k1 (hn.2 k)
        clear hn
        first | have d1 : decide (a < 0) = true := (by simp; omega) | have d1 : decide (a < 0) = false := (by simp; omega)
        first | have d2 : decide (b < 0) = true := (by simp; omega) | have d2 : decide (b < 0) = false := (by simp; omega) | skip
        go_enter Ybvm.func7, Ybvm.ntmps7
        go_wp2_with fail
        refine (mul_bad a b _ HA.out HB.out HF.out).mono ?_
        rintro e w' ⟨rfl, rfl⟩
        go_wp2_with fail
        refine (kmag_is a ua _ HA.out HUA.out).mono ?_
        rintro e w' ⟨rfl, rfl⟩
        go_wp2_with fail
        refine (kmag_is b ub _ HB.out HUB.out).mono ?_
        rintro e w' ⟨rfl, rfl⟩
        go_wp2_with fail
        go_ret
        exact ⟨rfl, rfl⟩
    · have ht : (9223372036854775808 : Int) / ub < ua := by
        rw [kex_test hua hub h0 ⟨fun k => absurd k hn, fun _ => rfl⟩]; exact hfit
      clear ha hb hua hub hfit h0
      by_cases k1 : a < 0
      · have k2 : ¬ b < 0 := fun k => hn ⟨fun _ => k, fun _ => k1⟩
        clear hn
        first | have d1 : decide (a < 0) = true := (by simp; omega) | have d1 : decide (a < 0) = false := (by simp; omega)
        first | have d2 : decide (b < 0) = true := (by simp; omega) | have d2 : decide (b < 0) = false := (by simp; omega) | skip
        go_enter Ybvm.func7, Ybvm.ntmps7
        go_wp2_with fail
        refine (mul_bad a b _ HA.out HB.out HF.out).mono ?_
        rintro e w' ⟨rfl, rfl⟩
        go_wp2_with fail
        refine (kmag_is a ua _ HA.out HUA.out).mono ?_
        rintro e w' ⟨rfl, rfl⟩
        go_wp2_with fail
        refine (kmag_is b ub _ HB.out HUB.out).mono ?_
        rintro e w' ⟨rfl, rfl⟩
        go_wp2_with fail
        go_ret
        exact ⟨rfl, rfl⟩
      · have k2 : b < 0 := by
          refine Decidable.byContradiction fun k => hn ⟨fun h => absurd h k1, fun h => absurd h k⟩
        clear hn
        first | have d1 : decide (a < 0) = true := (by simp; omega) | have d1 : decide (a < 0) = false := (by simp; omega)
        first | have d2 : decide (b < 0) = true := (by simp; omega) | have d2 : decide (b < 0) = false := (by simp; omega) | skip
        go_enter Ybvm.func7, Ybvm.ntmps7
        go_wp2_with fail
        refine (mul_bad a b _ HA.out HB.out HF.out).mono ?_
        rintro e w' ⟨rfl, rfl⟩
        go_wp2_with fail
        refine (kmag_is a ua _ HA.out HUA.out).mono ?_
        rintro e w' ⟨rfl, rfl⟩
        go_wp2_with fail
        refine (kmag_is b ub _ HB.out HUB.out).mono ?_
        rintro e w' ⟨rfl, rfl⟩
        go_wp2_with fail
        go_ret
        exact ⟨rfl, rfl⟩
end Go.Proofs.Ymbrbv
