import Derived.Test.YmbrbuFBin
import Derived.BigQuiet
set_option linter.unusedVariables false
set_option linter.unusedSimpArgs false
set_option linter.unnecessarySimpa false
namespace Go.Proofs.Ymbrbu
open Go.RowKit

def ops4 : ByteArray := ⟨#[43, 45, 42, 47]⟩
def opc (k : Nat) : Int := if k = 0 then 43 else if k = 1 then 45 else if k = 2 then 42 else 47
theorem sb_op4 (k : Nat) (h : k < 4) : sb (ops4.extract k (k + 1)) = [opc k] := by
  match k, h with
  | 0, _ => rfl
  | 1, _ => rfl
  | 2, _ => rfl
  | 3, _ => rfl
theorem opc_prec (k : Nat) : 0 < Ex.prec (opc k) := by
  unfold opc
  split
  · decide
  · split
    · decide
    · split <;> decide
def ftext (B : ByteArray) (a b k : Nat) : ByteArray := B ++ dS a ++ B ++ ops4.extract k (k + 1) ++ B ++ dS b ++ B
theorem dS_size (n : Nat) : (dS n).size ≤ 20 := by
  have h1 := Ex.dg_len20 n
  rw [← sb_dS n, sb_len] at h1
  exact h1
theorem ba_size_append (a b : ByteArray) : (a ++ b).size = a.size + b.size := by simp
theorem ftext_size (B : ByteArray) (a b k : Nat) (hB : B.size ≤ 2) (hk : k < 4) : (ftext B a b k).size ≤ 100 := by
  have h1 := dS_size a
  have h2 := dS_size b
  have h3 := congrArg List.length (sb_op4 k hk)
  rw [sb_len] at h3
  simp only [List.length_singleton] at h3
  unfold ftext
  simp only [ba_size_append]
  omega
theorem ev_ftext (B : ByteArray) (a b k : Nat) (hB : ∀ c ∈ sb B, c = 32 ∨ c = 9) (ha : a ≤ 18446744073709551615) (hb : b ≤ 18446744073709551615) (hk : k < 4) :
    evS (sb (ftext B a b k)) = if a ≤ 9223372036854775807 ∧ b ≤ 9223372036854775807 then Ex.ap (opc k) a b else (0, 3) := by
  unfold ftext
  simp only [sb_append, sb_dS, sb_op4 k hk]
  exact ev_bin (sb B) a b (opc k) hB (by omega) (by omega) (opc_prec k)
set_option maxRecDepth 100000 in
set_option maxHeartbeats 4000000 in
theorem fbinary_any (a b : Nat) (o : Int) (gap : Bool) (w : World) (ha : a ≤ 18446744073709551615) (hb : b ≤ 18446744073709551615) (ho : 0 ≤ o) (ho2 : o ≤ 255) :
    Calls Ybum.prog 6 #[.int .u64 a, .int .u64 b, .int .u8 o, .bool gap] w fun e w' => e = .returned (.bool true) ∧ Below w.heap.size w w' := by
  have hz1 := dS_size a
  have hz2 := dS_size b
  obtain ⟨k, hk⟩ : ∃ k : Nat, o % 4 = (k : Int) := ⟨(o % 4).toNat, by omega⟩
  have hk4 : k < 4 := by omega
  have HB0 : Hid (∀ c ∈ sb ⟨#[]⟩, c = 32 ∨ c = 9) := fun c hc => by cases hc
  have HB1 : Hid (∀ c ∈ sb ⟨#[32, 9]⟩, c = 32 ∨ c = 9) := fun c hc => by
    have e : sb ⟨#[32, 9]⟩ = [32, 9] := rfl
    rw [e] at hc; simp at hc; exact hc
  by_cases h1 : 9223372036854775807 < a
  · have HE : Hid ((if a ≤ 9223372036854775807 ∧ b ≤ 9223372036854775807 then Ex.ap (opc k) a b else (0, 3)) = (0, 3)) := by show _ = _; rw [if_neg (by omega)]
    have d1 : (9223372036854775807 : Int) < (a : Int) := by omega
    cases gap
    · go_enter Ybum.func6, Ybum.ntmps6
      go_wp2_with fail
      go_quiet (first | (go_at_call 19; exact Calls.quiet_of_same (fdec_fn _ _ ha)) | (go_at_call 19; exact Calls.quiet_of_same (fdec_fn _ _ hb)))
      go_wp2_with fail
      refine (eval_any (ftext ⟨#[]⟩ a b k) 0 3 (w.drewN nq) (by have := ftext_size ⟨#[]⟩ a b k (by decide) (by omega); omega) (by rw [ev_ftext ⟨#[]⟩ a b k HB0.out ha hb (by omega)]; exact HE.out)).mono ?_
      rintro e w5 ⟨rfl, hb5⟩
      go_wp2_with fail
      go_ret
      exact ⟨rfl, (below_drewN (Below.refl _ _) nq).trans hb5⟩
    · go_enter Ybum.func6, Ybum.ntmps6
      go_wp2_with fail
      go_quiet (first | (go_at_call 19; exact Calls.quiet_of_same (fdec_fn _ _ ha)) | (go_at_call 19; exact Calls.quiet_of_same (fdec_fn _ _ hb)))
      go_wp2_with fail
      refine (eval_any (ftext ⟨#[32, 9]⟩ a b k) 0 3 (w.drewN nq) (by have := ftext_size ⟨#[32, 9]⟩ a b k (by decide) (by omega); omega) (by rw [ev_ftext ⟨#[32, 9]⟩ a b k HB1.out ha hb (by omega)]; exact HE.out)).mono ?_
      rintro e w5 ⟨rfl, hb5⟩
      go_wp2_with fail
      go_ret
      exact ⟨rfl, (below_drewN (Below.refl _ _) nq).trans hb5⟩
  have d1 : decide ((9223372036854775807 : Int) < (a : Int)) = false := decide_eq_false (by omega)
  by_cases h2 : 9223372036854775807 < b
  · have HE : Hid ((if a ≤ 9223372036854775807 ∧ b ≤ 9223372036854775807 then Ex.ap (opc k) a b else (0, 3)) = (0, 3)) := by show _ = _; rw [if_neg (by omega)]
    have d2 : (9223372036854775807 : Int) < (b : Int) := by omega
    cases gap
    · go_enter Ybum.func6, Ybum.ntmps6
      go_wp2_with fail
      go_quiet (first | (go_at_call 19; exact Calls.quiet_of_same (fdec_fn _ _ ha)) | (go_at_call 19; exact Calls.quiet_of_same (fdec_fn _ _ hb)))
      go_wp2_with fail
      refine (eval_any (ftext ⟨#[]⟩ a b k) 0 3 (w.drewN nq) (by have := ftext_size ⟨#[]⟩ a b k (by decide) (by omega); omega) (by rw [ev_ftext ⟨#[]⟩ a b k HB0.out ha hb (by omega)]; exact HE.out)).mono ?_
      rintro e w5 ⟨rfl, hb5⟩
      go_wp2_with fail
      go_ret
      exact ⟨rfl, (below_drewN (Below.refl _ _) nq).trans hb5⟩
    · go_enter Ybum.func6, Ybum.ntmps6
      go_wp2_with fail
      go_quiet (first | (go_at_call 19; exact Calls.quiet_of_same (fdec_fn _ _ ha)) | (go_at_call 19; exact Calls.quiet_of_same (fdec_fn _ _ hb)))
      go_wp2_with fail
      refine (eval_any (ftext ⟨#[32, 9]⟩ a b k) 0 3 (w.drewN nq) (by have := ftext_size ⟨#[32, 9]⟩ a b k (by decide) (by omega); omega) (by rw [ev_ftext ⟨#[32, 9]⟩ a b k HB1.out ha hb (by omega)]; exact HE.out)).mono ?_
      rintro e w5 ⟨rfl, hb5⟩
      go_wp2_with fail
      go_ret
      exact ⟨rfl, (below_drewN (Below.refl _ _) nq).trans hb5⟩
  have d2 : decide ((9223372036854775807 : Int) < (b : Int)) = false := decide_eq_false (by omega)
  have hkc : k = 0 ∨ k = 1 ∨ k = 2 ∨ k = 3 := by omega
  rcases hkc with rfl | rfl | rfl | rfl
  · by_cases h3 : 9223372036854775807 < a + b
    · have HE : Hid ((if a ≤ 9223372036854775807 ∧ b ≤ 9223372036854775807 then Ex.ap (opc 0) a b else (0, 3)) = (0, 3)) := by show _ = _; rw [if_pos (by omega)]; exact Ex.fit_out (by simp [Ex.inI]; omega)
      have d3 : (9223372036854775807 : Int) < (a : Int) + (b : Int) := by omega
      cases gap
      · go_enter Ybum.func6, Ybum.ntmps6
        go_wp2_with fail
        go_quiet (first | (go_at_call 19; exact Calls.quiet_of_same (fdec_fn _ _ ha)) | (go_at_call 19; exact Calls.quiet_of_same (fdec_fn _ _ hb)))
        go_wp2_with fail
        refine (eval_any (ftext ⟨#[]⟩ a b 0) 0 3 (w.drewN nq) (by have := ftext_size ⟨#[]⟩ a b 0 (by decide) (by omega); omega) (by rw [ev_ftext ⟨#[]⟩ a b 0 HB0.out ha hb (by omega)]; exact HE.out)).mono ?_
        rintro e w5 ⟨rfl, hb5⟩
        go_wp2_with fail
        go_ret
        exact ⟨rfl, (below_drewN (Below.refl _ _) nq).trans hb5⟩
      · go_enter Ybum.func6, Ybum.ntmps6
        go_wp2_with fail
        go_quiet (first | (go_at_call 19; exact Calls.quiet_of_same (fdec_fn _ _ ha)) | (go_at_call 19; exact Calls.quiet_of_same (fdec_fn _ _ hb)))
        go_wp2_with fail
        refine (eval_any (ftext ⟨#[32, 9]⟩ a b 0) 0 3 (w.drewN nq) (by have := ftext_size ⟨#[32, 9]⟩ a b 0 (by decide) (by omega); omega) (by rw [ev_ftext ⟨#[32, 9]⟩ a b 0 HB1.out ha hb (by omega)]; exact HE.out)).mono ?_
        rintro e w5 ⟨rfl, hb5⟩
        go_wp2_with fail
        go_ret
        exact ⟨rfl, (below_drewN (Below.refl _ _) nq).trans hb5⟩
    · have HE : Hid ((if a ≤ 9223372036854775807 ∧ b ≤ 9223372036854775807 then Ex.ap (opc 0) a b else (0, 3)) = ((a : Int) + b, 0)) := by show _ = _; rw [if_pos (by omega)]; exact Ex.fit_in (by simp [Ex.inI]; omega)
      have d3 : decide ((9223372036854775807 : Int) < (a : Int) + (b : Int)) = false := decide_eq_false (by omega)
      cases gap
      · go_enter Ybum.func6, Ybum.ntmps6
        go_wp2_with fail
        go_quiet (first | (go_at_call 19; exact Calls.quiet_of_same (fdec_fn _ _ ha)) | (go_at_call 19; exact Calls.quiet_of_same (fdec_fn _ _ hb)))
        go_wp2_with fail
        refine (eval_any (ftext ⟨#[]⟩ a b 0) ((a : Int) + b) 0 (w.drewN nq) (by have := ftext_size ⟨#[]⟩ a b 0 (by decide) (by omega); omega) (by rw [ev_ftext ⟨#[]⟩ a b 0 HB0.out ha hb (by omega)]; exact HE.out)).mono ?_
        rintro e w5 ⟨rfl, hb5⟩
        go_wp2_with fail
        go_ret
        exact ⟨rfl, (below_drewN (Below.refl _ _) nq).trans hb5⟩
      · go_enter Ybum.func6, Ybum.ntmps6
        go_wp2_with fail
        go_quiet (first | (go_at_call 19; exact Calls.quiet_of_same (fdec_fn _ _ ha)) | (go_at_call 19; exact Calls.quiet_of_same (fdec_fn _ _ hb)))
        go_wp2_with fail
        refine (eval_any (ftext ⟨#[32, 9]⟩ a b 0) ((a : Int) + b) 0 (w.drewN nq) (by have := ftext_size ⟨#[32, 9]⟩ a b 0 (by decide) (by omega); omega) (by rw [ev_ftext ⟨#[32, 9]⟩ a b 0 HB1.out ha hb (by omega)]; exact HE.out)).mono ?_
        rintro e w5 ⟨rfl, hb5⟩
        go_wp2_with fail
        go_ret
        exact ⟨rfl, (below_drewN (Below.refl _ _) nq).trans hb5⟩
  · have HE : Hid ((if a ≤ 9223372036854775807 ∧ b ≤ 9223372036854775807 then Ex.ap (opc 1) a b else (0, 3)) = ((a : Int) - b, 0)) := by show _ = _; rw [if_pos (by omega)]; exact Ex.fit_in (by simp [Ex.inI]; omega)
    cases gap
    · go_enter Ybum.func6, Ybum.ntmps6
      go_wp2_with fail
      go_quiet (first | (go_at_call 19; exact Calls.quiet_of_same (fdec_fn _ _ ha)) | (go_at_call 19; exact Calls.quiet_of_same (fdec_fn _ _ hb)))
      go_wp2_with fail
      refine (eval_any (ftext ⟨#[]⟩ a b 1) ((a : Int) - b) 0 (w.drewN nq) (by have := ftext_size ⟨#[]⟩ a b 1 (by decide) (by omega); omega) (by rw [ev_ftext ⟨#[]⟩ a b 1 HB0.out ha hb (by omega)]; exact HE.out)).mono ?_
      rintro e w5 ⟨rfl, hb5⟩
      go_wp2_with fail
      go_ret
      exact ⟨rfl, (below_drewN (Below.refl _ _) nq).trans hb5⟩
    · go_enter Ybum.func6, Ybum.ntmps6
      go_wp2_with fail
      go_quiet (first | (go_at_call 19; exact Calls.quiet_of_same (fdec_fn _ _ ha)) | (go_at_call 19; exact Calls.quiet_of_same (fdec_fn _ _ hb)))
      go_wp2_with fail
      refine (eval_any (ftext ⟨#[32, 9]⟩ a b 1) ((a : Int) - b) 0 (w.drewN nq) (by have := ftext_size ⟨#[32, 9]⟩ a b 1 (by decide) (by omega); omega) (by rw [ev_ftext ⟨#[32, 9]⟩ a b 1 HB1.out ha hb (by omega)]; exact HE.out)).mono ?_
      rintro e w5 ⟨rfl, hb5⟩
      go_wp2_with fail
      go_ret
      exact ⟨rfl, (below_drewN (Below.refl _ _) nq).trans hb5⟩
  · by_cases h4 : b = 0
    · subst h4
      have HE : Hid ((if a ≤ 9223372036854775807 ∧ (0 : Nat) ≤ 9223372036854775807 then Ex.ap (opc 2) a (0 : Nat) else (0, 3)) = (0, 0)) := by show _ = _; rw [if_pos (by omega)]; rw [show opc 2 = 42 from rfl, Ex.ap_mul, show (a : Int) * ((0 : Nat) : Int) = 0 by simp]; exact Ex.fit_in (by simp [Ex.inI])
      cases gap
      · go_enter Ybum.func6, Ybum.ntmps6
        go_wp2_with fail
        go_quiet (first | (go_at_call 19; exact Calls.quiet_of_same (fdec_fn _ _ ha)) | (go_at_call 19; exact Calls.quiet_of_same (fdec_fn _ _ hb)))
        go_wp2_with fail
        refine (eval_any (ftext ⟨#[]⟩ a 0 2) 0 0 (w.drewN nq) (by have := ftext_size ⟨#[]⟩ a 0 2 (by decide) (by omega); omega) (by rw [ev_ftext ⟨#[]⟩ a 0 2 HB0.out ha hb (by omega)]; exact HE.out)).mono ?_
        rintro e w5 ⟨rfl, hb5⟩
        go_wp2_with fail
        go_ret
        exact ⟨rfl, (below_drewN (Below.refl _ _) nq).trans hb5⟩
      · go_enter Ybum.func6, Ybum.ntmps6
        go_wp2_with fail
        go_quiet (first | (go_at_call 19; exact Calls.quiet_of_same (fdec_fn _ _ ha)) | (go_at_call 19; exact Calls.quiet_of_same (fdec_fn _ _ hb)))
        go_wp2_with fail
        refine (eval_any (ftext ⟨#[32, 9]⟩ a 0 2) 0 0 (w.drewN nq) (by have := ftext_size ⟨#[32, 9]⟩ a 0 2 (by decide) (by omega); omega) (by rw [ev_ftext ⟨#[32, 9]⟩ a 0 2 HB1.out ha hb (by omega)]; exact HE.out)).mono ?_
        rintro e w5 ⟨rfl, hb5⟩
        go_wp2_with fail
        go_ret
        exact ⟨rfl, (below_drewN (Below.refl _ _) nq).trans hb5⟩
    have d4 : ((b : Int) != 0) = true := by simpa using h4
    have hdm := Nat.div_add_mod 9223372036854775807 b
    have hml := Nat.mod_lt 9223372036854775807 (show b > 0 by omega)
    by_cases h5 : 9223372036854775807 / b < a
    · have hab : (9223372036854775807 : Int) < (a : Int) * (b : Int) := by
        have := Nat.mul_le_mul_left b (show 9223372036854775807 / b + 1 ≤ a from h5)
        rw [Nat.mul_add, Nat.mul_one] at this
        have e : (a : Int) * (b : Int) = ((b * a : Nat) : Int) := by push_cast; exact Int.mul_comm _ _
        rw [e]; omega
      have d5 : ((9223372036854775807 : Int) / (b : Int)) < (a : Int) := by
        have e : (9223372036854775807 : Int) / (b : Int) = ((9223372036854775807 / b : Nat) : Int) := by simp
        rw [e]; omega
      have HE : Hid ((if a ≤ 9223372036854775807 ∧ b ≤ 9223372036854775807 then Ex.ap (opc 2) a b else (0, 3)) = (0, 3)) := by show _ = _; rw [if_pos (by omega)]; exact Ex.fit_out (by simp only [Ex.inI]; omega)
      clear hdm hml h5
      cases gap
      · go_enter Ybum.func6, Ybum.ntmps6
        go_wp2_with fail
        go_quiet (first | (go_at_call 19; exact Calls.quiet_of_same (fdec_fn _ _ ha)) | (go_at_call 19; exact Calls.quiet_of_same (fdec_fn _ _ hb)))
        go_wp2_with fail
        refine (eval_any (ftext ⟨#[]⟩ a b 2) 0 3 (w.drewN nq) (by have := ftext_size ⟨#[]⟩ a b 2 (by decide) (by omega); omega) (by rw [ev_ftext ⟨#[]⟩ a b 2 HB0.out ha hb (by omega)]; exact HE.out)).mono ?_
        rintro e w5 ⟨rfl, hb5⟩
        go_wp2_with fail
        go_ret
        exact ⟨rfl, (below_drewN (Below.refl _ _) nq).trans hb5⟩
      · go_enter Ybum.func6, Ybum.ntmps6
        go_wp2_with fail
        go_quiet (first | (go_at_call 19; exact Calls.quiet_of_same (fdec_fn _ _ ha)) | (go_at_call 19; exact Calls.quiet_of_same (fdec_fn _ _ hb)))
        go_wp2_with fail
        refine (eval_any (ftext ⟨#[32, 9]⟩ a b 2) 0 3 (w.drewN nq) (by have := ftext_size ⟨#[32, 9]⟩ a b 2 (by decide) (by omega); omega) (by rw [ev_ftext ⟨#[32, 9]⟩ a b 2 HB1.out ha hb (by omega)]; exact HE.out)).mono ?_
        rintro e w5 ⟨rfl, hb5⟩
        go_wp2_with fail
        go_ret
        exact ⟨rfl, (below_drewN (Below.refl _ _) nq).trans hb5⟩
    · have hab : (a : Int) * (b : Int) ≤ 9223372036854775807 := by
        have := Nat.mul_le_mul_left b (show a ≤ 9223372036854775807 / b by omega)
        have e : (a : Int) * (b : Int) = ((b * a : Nat) : Int) := by push_cast; exact Int.mul_comm _ _
        rw [e]; omega
      have hab0 : 0 ≤ (a : Int) * (b : Int) := Int.mul_nonneg (by omega) (by omega)
      have d5 : decide (((9223372036854775807 : Int) / (b : Int)) < (a : Int)) = false := by
        have e : (9223372036854775807 : Int) / (b : Int) = ((9223372036854775807 / b : Nat) : Int) := by simp
        exact decide_eq_false (by rw [e]; omega)
      have HE : Hid ((if a ≤ 9223372036854775807 ∧ b ≤ 9223372036854775807 then Ex.ap (opc 2) a b else (0, 3)) = ((a : Int) * b, 0)) := by show _ = _; rw [if_pos (by omega)]; exact Ex.fit_in (by simp only [Ex.inI]; omega)
      clear hdm hml h5
      cases gap
      · go_enter Ybum.func6, Ybum.ntmps6
        go_wp2_with fail
        go_quiet (first | (go_at_call 19; exact Calls.quiet_of_same (fdec_fn _ _ ha)) | (go_at_call 19; exact Calls.quiet_of_same (fdec_fn _ _ hb)))
        go_wp2_with fail
        refine (eval_any (ftext ⟨#[]⟩ a b 2) ((a : Int) * b) 0 (w.drewN nq) (by have := ftext_size ⟨#[]⟩ a b 2 (by decide) (by omega); omega) (by rw [ev_ftext ⟨#[]⟩ a b 2 HB0.out ha hb (by omega)]; exact HE.out)).mono ?_
        rintro e w5 ⟨rfl, hb5⟩
        go_wp2_with fail
        go_ret
        exact ⟨rfl, (below_drewN (Below.refl _ _) nq).trans hb5⟩
      · go_enter Ybum.func6, Ybum.ntmps6
        go_wp2_with fail
        go_quiet (first | (go_at_call 19; exact Calls.quiet_of_same (fdec_fn _ _ ha)) | (go_at_call 19; exact Calls.quiet_of_same (fdec_fn _ _ hb)))
        go_wp2_with fail
        refine (eval_any (ftext ⟨#[32, 9]⟩ a b 2) ((a : Int) * b) 0 (w.drewN nq) (by have := ftext_size ⟨#[32, 9]⟩ a b 2 (by decide) (by omega); omega) (by rw [ev_ftext ⟨#[32, 9]⟩ a b 2 HB1.out ha hb (by omega)]; exact HE.out)).mono ?_
        rintro e w5 ⟨rfl, hb5⟩
        go_wp2_with fail
        go_ret
        exact ⟨rfl, (below_drewN (Below.refl _ _) nq).trans hb5⟩
  · by_cases h4 : b = 0
    · have d4 : ((b : Int) == 0) = true := by simpa using h4
      have HE : Hid ((if a ≤ 9223372036854775807 ∧ b ≤ 9223372036854775807 then Ex.ap (opc 3) a b else (0, 3)) = (0, 4)) := by show _ = _; rw [if_pos (by omega)]; exact Ex.ap_div0 _ _ (by omega)
      clear h4
      cases gap
      · go_enter Ybum.func6, Ybum.ntmps6
        go_wp2_with fail
        go_quiet (first | (go_at_call 19; exact Calls.quiet_of_same (fdec_fn _ _ ha)) | (go_at_call 19; exact Calls.quiet_of_same (fdec_fn _ _ hb)))
        go_wp2_with fail
        refine (eval_any (ftext ⟨#[]⟩ a b 3) 0 4 (w.drewN nq) (by have := ftext_size ⟨#[]⟩ a b 3 (by decide) (by omega); omega) (by rw [ev_ftext ⟨#[]⟩ a b 3 HB0.out ha hb (by omega)]; exact HE.out)).mono ?_
        rintro e w5 ⟨rfl, hb5⟩
        go_wp2_with fail
        go_ret
        exact ⟨rfl, (below_drewN (Below.refl _ _) nq).trans hb5⟩
      · go_enter Ybum.func6, Ybum.ntmps6
        go_wp2_with fail
        go_quiet (first | (go_at_call 19; exact Calls.quiet_of_same (fdec_fn _ _ ha)) | (go_at_call 19; exact Calls.quiet_of_same (fdec_fn _ _ hb)))
        go_wp2_with fail
        refine (eval_any (ftext ⟨#[32, 9]⟩ a b 3) 0 4 (w.drewN nq) (by have := ftext_size ⟨#[32, 9]⟩ a b 3 (by decide) (by omega); omega) (by rw [ev_ftext ⟨#[32, 9]⟩ a b 3 HB1.out ha hb (by omega)]; exact HE.out)).mono ?_
        rintro e w5 ⟨rfl, hb5⟩
        go_wp2_with fail
        go_ret
        exact ⟨rfl, (below_drewN (Below.refl _ _) nq).trans hb5⟩
    · have d4 : ((b : Int) == 0) = false := by simpa using h4
      have d6 : ¬ (b : Int) = 0 := by omega
      have hdl : a / b ≤ a := Nat.div_le_self _ _
      have hq0 : (0 : Int) ≤ (a : Int) / (b : Int) := Int.ediv_nonneg (by omega) (by omega)
      have hq1 : (a : Int) / (b : Int) ≤ 9223372036854775807 := by
        have e : (a : Int) / (b : Int) = ((a / b : Nat) : Int) := by simp
        rw [e]; omega
      clear hdl
      have HE : Hid ((if a ≤ 9223372036854775807 ∧ b ≤ 9223372036854775807 then Ex.ap (opc 3) a b else (0, 3)) = ((a : Int) / (b : Int), 0)) := by show _ = _; rw [if_pos (by omega)]; rw [show opc 3 = 47 from rfl, Ex.ap_div _ _ (by omega), Int.tdiv_eq_ediv_of_nonneg (by omega)]; exact Ex.fit_in (by simp only [Ex.inI]; omega)
      cases gap
      · go_enter Ybum.func6, Ybum.ntmps6
        go_wp2_with fail
        go_quiet (first | (go_at_call 19; exact Calls.quiet_of_same (fdec_fn _ _ ha)) | (go_at_call 19; exact Calls.quiet_of_same (fdec_fn _ _ hb)))
        go_wp2_with fail
        refine (eval_any (ftext ⟨#[]⟩ a b 3) ((a : Int) / (b : Int)) 0 (w.drewN nq) (by have := ftext_size ⟨#[]⟩ a b 3 (by decide) (by omega); omega) (by rw [ev_ftext ⟨#[]⟩ a b 3 HB0.out ha hb (by omega)]; exact HE.out)).mono ?_
        rintro e w5 ⟨rfl, hb5⟩
        go_wp2_with fail
        go_ret
        exact ⟨rfl, (below_drewN (Below.refl _ _) nq).trans hb5⟩
      · go_enter Ybum.func6, Ybum.ntmps6
        go_wp2_with fail
        go_quiet (first | (go_at_call 19; exact Calls.quiet_of_same (fdec_fn _ _ ha)) | (go_at_call 19; exact Calls.quiet_of_same (fdec_fn _ _ hb)))
        go_wp2_with fail
        refine (eval_any (ftext ⟨#[32, 9]⟩ a b 3) ((a : Int) / (b : Int)) 0 (w.drewN nq) (by have := ftext_size ⟨#[32, 9]⟩ a b 3 (by decide) (by omega); omega) (by rw [ev_ftext ⟨#[32, 9]⟩ a b 3 HB1.out ha hb (by omega)]; exact HE.out)).mono ?_
        rintro e w5 ⟨rfl, hb5⟩
        go_wp2_with fail
        go_ret
        exact ⟨rfl, (below_drewN (Below.refl _ _) nq).trans hb5⟩
end Go.Proofs.Ymbrbu
