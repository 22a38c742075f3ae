import Derived.Test.YmbrbuMulWalk
set_option linter.unusedVariables false
set_option linter.unusedSimpArgs false
set_option linter.unnecessarySimpa false
namespace Go.Proofs.Ymbrbu
open Go.RowKit

theorem ret2i {k l : IntKind} {a b c d : Int} (h : (a, c) = (b, d)) : Ending.returned (.tuple #[.int k a, .int l c]) = .returned (.tuple #[.int k b, .int l d]) := by cases h; rfl
def apR (op a b : Int) : Ending := .returned (.tuple #[.int .i64 (Ex.ap op a b).1, .int .i64 (Ex.ap op a b).2])
theorem apR_of {op a b v c : Int} (h : Ex.ap op a b = (v, c)) : apR op a b = .returned (.tuple #[.int .i64 v, .int .i64 c]) := by unfold apR; rw [h]

set_option maxHeartbeats 400000 in
theorem apply_add (a b : Int) (w : World) (ha : Ex.inI a) (hb : Ex.inI b) :
    Calls Ybum.prog 20 #[.int .u8 43, .int .i64 a, .int .i64 b] w fun e w' => e = apR 43 a b ∧ w' = w := by
  have a1 := ha.1
  have a2 := ha.2
  have b1 := hb.1
  have b2 := hb.2
  rcases Ex.fit_cases (a + b) with ⟨h, e⟩ | ⟨h, e⟩
  · rw [apR_of (Ex.ap_add a b ▸ e)]
    have h1 := h.1
    have h2 := h.2
    clear e ha hb h
    by_cases hn : 0 ≤ b
    · have ht : a ≤ a + b := by omega
      go_enter Ybum.func20, Ybum.ntmps20
      go_wp2_with fail
      go_ret2
      exact ⟨rfl, rfl⟩
    · have ht : ¬ a ≤ a + b := by omega
      go_enter Ybum.func20, Ybum.ntmps20
      go_wp2_with fail
      go_ret2
      exact ⟨rfl, rfl⟩
  · rw [apR_of (Ex.ap_add a b ▸ e)]
    unfold Ex.inI at h
    by_cases hn : 0 ≤ b
    · have ht : ¬ a ≤ wrap64 (a + b) := by unfold wrap64; omega
      clear e ha hb h
      go_enter Ybum.func20, Ybum.ntmps20
      go_wp2_with fail
      go_ret2
      exact ⟨rfl, rfl⟩
    · have ht : a ≤ wrap64 (a + b) := by unfold wrap64; omega
      clear e ha hb h
      go_enter Ybum.func20, Ybum.ntmps20
      go_wp2_with fail
      go_ret2
      exact ⟨rfl, rfl⟩

set_option maxHeartbeats 400000 in
theorem apply_sub (a b : Int) (w : World) (ha : Ex.inI a) (hb : Ex.inI b) :
    Calls Ybum.prog 20 #[.int .u8 45, .int .i64 a, .int .i64 b] w fun e w' => e = apR 45 a b ∧ w' = w := by
  have a1 := ha.1
  have a2 := ha.2
  have b1 := hb.1
  have b2 := hb.2
  rcases Ex.fit_cases (a - b) with ⟨h, e⟩ | ⟨h, e⟩
  · rw [apR_of (Ex.ap_sub a b ▸ e)]
    have h1 := h.1
    have h2 := h.2
    clear e ha hb h
    by_cases hn : 0 ≤ b
    · have ht : a - b ≤ a := by omega
      go_enter Ybum.func20, Ybum.ntmps20
      go_wp2_with fail
      go_ret2
      exact ⟨rfl, rfl⟩
    · have ht : ¬ a - b ≤ a := by omega
      go_enter Ybum.func20, Ybum.ntmps20
      go_wp2_with fail
      go_ret2
      exact ⟨rfl, rfl⟩
  · rw [apR_of (Ex.ap_sub a b ▸ e)]
    unfold Ex.inI at h
    by_cases hn : 0 ≤ b
    · have ht : ¬ wrap64 (a - b) ≤ a := by unfold wrap64; omega
      clear e ha hb h
      go_enter Ybum.func20, Ybum.ntmps20
      go_wp2_with fail
      go_ret2
      exact ⟨rfl, rfl⟩
    · have ht : wrap64 (a - b) ≤ a := by unfold wrap64; omega
      clear e ha hb h
      go_enter Ybum.func20, Ybum.ntmps20
      go_wp2_with fail
      go_ret2
      exact ⟨rfl, rfl⟩

set_option maxHeartbeats 400000 in
theorem apply_mul (a b : Int) (w : World) (ha : Ex.inI a) (hb : Ex.inI b) :
    Calls Ybum.prog 20 #[.int .u8 42, .int .i64 a, .int .i64 b] w fun e w' => e = apR 42 a b ∧ w' = w := by
  rcases Ex.fit_cases (a * b) with ⟨h, e⟩ | ⟨h, e⟩
  · rw [apR_of (Ex.ap_mul a b ▸ e)]
    clear e
    go_enter Ybum.func20, Ybum.ntmps20
    go_wp2_with fail
    refine (mul_ok a b _ ha hb h).mono ?_
    rintro e w' ⟨rfl, rfl⟩
    go_wp2_with fail
    go_ret2
    exact ⟨rfl, rfl⟩
  · rw [apR_of (Ex.ap_mul a b ▸ e)]
    clear e
    go_enter Ybum.func20, Ybum.ntmps20
    go_wp2_with fail
    refine (mul_bad a b _ ha hb h).mono ?_
    rintro e w' ⟨rfl, rfl⟩
    go_wp2_with fail
    go_ret2
    exact ⟨rfl, rfl⟩

set_option maxHeartbeats 400000 in
theorem apply_div (a b : Int) (w : World) (ha : Ex.inI a) (hb : Ex.inI b) :
    Calls Ybum.prog 20 #[.int .u8 47, .int .i64 a, .int .i64 b] w fun e w' => e = apR 47 a b ∧ w' = w := by
  by_cases h0 : b = 0
  · rw [apR_of (Ex.ap_div0 a b h0)]
    subst h0
    clear ha hb
    go_enter Ybum.func20, Ybum.ntmps20
    go_wp2_with fail
    go_ret2
    exact ⟨rfl, rfl⟩
  · have h0' : (b == 0) = false := by simpa using h0
    by_cases hm : a = -9223372036854775808 ∧ b = -1
    · have e : Ex.ap 47 a b = (0, 3) := by rw [Ex.ap_div a b h0]; exact Ex.fit_out (by obtain ⟨rfl, rfl⟩ := hm; simp [Ex.inI])
      rw [apR_of e]
      obtain ⟨rfl, rfl⟩ := hm
      clear e ha hb h0 h0'
      go_enter Ybum.func20, Ybum.ntmps20
      go_wp2_with fail
      go_ret2
      exact ⟨rfl, rfl⟩
    · have hin := Ex.tdiv_in ha hm
      have e : Ex.ap 47 a b = (a.tdiv b, 0) := by rw [Ex.ap_div a b h0]; exact Ex.fit_in hin
      rw [apR_of e]
      have hw : wrap64 (a.tdiv b) = a.tdiv b := by rw [wr64]; exact Ex.wr_in hin
      by_cases h1 : a = -9223372036854775808
      · have h2 : (b == -1) = false := by simpa using fun k => hm ⟨h1, k⟩
        subst h1
        have HW : Hid (wrap64 (-Int.tdiv 9223372036854775808 b) = (-9223372036854775808 : Int).tdiv b) := by
          show _ = _
          rw [← Int.neg_tdiv]; exact hw
        clear e hm ha hb hin hw
        go_enter Ybum.func20, Ybum.ntmps20
        go_wp2
        go_ret2
        refine ⟨?_, rfl⟩
        show Ending.returned (.tuple #[.int .i64 (wrap64 (-Int.tdiv 9223372036854775808 b)), .int .i64 0]) = _
        rw [HW.out]
      · have h2 : (a == -9223372036854775808) = false := by simpa using h1
        have HW : Hid (wrap64 (a.tdiv b) = a.tdiv b) := hw
        clear e hm ha hb hin h1 hw
        go_enter Ybum.func20, Ybum.ntmps20
        go_wp2
        go_ret2
        refine ⟨?_, rfl⟩
        show Ending.returned (.tuple #[.int .i64 (wrap64 (a.tdiv b)), .int .i64 0]) = _
        rw [HW.out]

set_option maxHeartbeats 400000 in
theorem apply_other (op a b : Int) (w : World) (h1 : op ≠ 43) (h2 : op ≠ 45) (h3 : op ≠ 42) (h4 : op ≠ 47) :
    Calls Ybum.prog 20 #[.int .u8 op, .int .i64 a, .int .i64 b] w fun e w' => e = apR op a b ∧ w' = w := by
  rw [apR_of (Ex.ap_other op a b h1 h2 h3 h4)]
  have k1 : (op == 43) = false := by simpa using h1
  have k2 : (op == 45) = false := by simpa using h2
  have k3 : (op == 42) = false := by simpa using h3
  have k4 : (op == 47) = false := by simpa using h4
  clear h1 h2 h3 h4
  go_enter Ybum.func20, Ybum.ntmps20
  go_wp2_with fail
  go_ret2
  exact ⟨rfl, rfl⟩

theorem apply_any (op a b : Int) (w : World) (ha : Ex.inI a) (hb : Ex.inI b) :
    Calls Ybum.prog 20 #[.int .u8 op, .int .i64 a, .int .i64 b] w fun e w' => e = apR op a b ∧ w' = w := by
  by_cases h1 : op = 43
  · subst h1; exact apply_add a b w ha hb
  by_cases h2 : op = 45
  · subst h2; exact apply_sub a b w ha hb
  by_cases h3 : op = 42
  · subst h3; exact apply_mul a b w ha hb
  by_cases h4 : op = 47
  · subst h4; exact apply_div a b w ha hb
  exact apply_other op a b w h1 h2 h3 h4

theorem apply_is (op a b v c : Int) (w : World) (ha : Ex.inI a) (hb : Ex.inI b) (h : Ex.ap op a b = (v, c)) :
    Calls Ybum.prog 20 #[.int .u8 op, .int .i64 a, .int .i64 b] w fun e w' => e = .returned (.tuple #[.int .i64 v, .int .i64 c]) ∧ w' = w := by
  have := apply_any op a b w ha hb
  rw [apR_of h] at this
  exact this
end Go.Proofs.Ymbrbu
