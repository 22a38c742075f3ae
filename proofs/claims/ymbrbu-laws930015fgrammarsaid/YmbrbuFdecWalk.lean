import Derived.Test.YmbrbuEvalWalk
import Derived.Test.YmbrbuGvWalk
set_option linter.unusedVariables false
set_option linter.unusedSimpArgs false
set_option linter.unnecessarySimpa false
namespace Go.Proofs.Ymbrbu
open Go.RowKit

def digits10 : ByteArray := ⟨#[48, 49, 50, 51, 52, 53, 54, 55, 56, 57]⟩
theorem sb_one (d : Nat) (h : d < 10) : sb (digits10.extract d (d + 1)) = [48 + (d : Int)] := by
  match d, h with
  | 0, _ => rfl
  | 1, _ => rfl
  | 2, _ => rfl
  | 3, _ => rfl
  | 4, _ => rfl
  | 5, _ => rfl
  | 6, _ => rfl
  | 7, _ => rfl
  | 8, _ => rfl
  | 9, _ => rfl
theorem sb_append (a b : ByteArray) : sb (a ++ b) = sb a ++ sb b := by
  simp [sb]

def pd (m : Nat) : List Int := if m = 0 then [] else Ex.dg m
theorem dg_pd (n : Nat) (h : n < 10 ^ 20) : Ex.dg n = pd (n / 10) ++ [48 + ((n % 10 : Nat) : Int)] := by
  by_cases h10 : n < 10
  · rw [Ex.dg_small h10, pd, if_pos (by omega)]
    simp; omega
  · rw [Ex.dg_step (by omega) h, pd, if_neg (by omega)]

set_option maxHeartbeats 1000000 in
theorem fdec_any (n : Nat) (w : World) (hn : n ≤ 18446744073709551615) : Calls Ybum.prog 19 #[.int .u64 n] w fun e w' => (∃ t, e = .returned (.string t) ∧ sb t = Ex.dg n) ∧ w' = w := by
  go_enter Ybum.func19, Ybum.ntmps19
  go_wp2_with fail
  go_loop [0, 4, 5] (fun m _ v => ∃ (M : Nat) (t : ByteArray), m = .int .u64 M ∧ v = .string t ∧ M ≤ 18446744073709551615 ∧ Hid (Ex.dg n = pd M ++ sb t)) (fun m _ _ => (intOf m).toNat)
  case atStart => exact ⟨n / 10, digits10.extract (n % 10) (n % 10 + 1), by go_num, rfl, by omega, by show _ = _; rw [dg_pd n (by omega), sb_one _ (by omega)]⟩
  case round =>
    obtain ⟨M, t, rfl, rfl, hM, HT⟩ := hrel
    by_cases h0 : M = 0
    · have HE : Hid (sb t = Ex.dg n) := by
        show _ = _
        rw [HT.out, pd, if_pos h0]; rfl
      subst h0
      go_wp2_with fail
      go_ret
      exact ⟨⟨_, rfl, HE.out⟩, rfl⟩
    · have hM0 : (0 : Int) < (M : Int) := by omega
      have HN : Hid (Ex.dg n = pd (M / 10) ++ sb (digits10.extract (M % 10) (M % 10 + 1) ++ t)) := by
        show _ = _
        rw [HT.out, pd, if_neg h0, dg_pd M (by omega), sb_append, sb_one _ (by omega), List.append_assoc]
      have hts : t.size ≤ 20 := by
        have h1 := Ex.dg_len20 n
        rw [HT.out, List.length_append, sb_len] at h1
        omega
      clear h0
      go_wp2_with fail
      go_round
      case rel => exact ⟨M / 10, digits10.extract (M % 10) (M % 10 + 1) ++ t, by go_num, rfl, by omega, HN⟩
      case measure => simp [intOf]; omega
end Go.Proofs.Ymbrbu
