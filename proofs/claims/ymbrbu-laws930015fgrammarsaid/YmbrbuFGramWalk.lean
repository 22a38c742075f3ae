import Derived.Test.YmbrbuFGram
import Derived.Test.YmbrbuApplyWalk
import Derived.Deep.Cut
import Derived.Deep.CutRange
set_option linter.unusedVariables false
set_option linter.unusedSimpArgs false
set_option linter.unnecessarySimpa false
namespace Go.Proofs.Ymbrbu
open Go.RowKit

set_option maxHeartbeats 400000 in
theorem fdigit_any (c : Int) (w : World) : Calls Ybum.prog 40 #[.int .u8 c] w fun e w' => e = .returned (.bool (Ex.isD c)) ∧ w' = w := by
  by_cases h1 : 48 ≤ c
  · by_cases h2 : c ≤ 57
    · rw [Ex.isD_iff.2 ⟨h1, h2⟩]
      go_enter Ybum.func40, Ybum.ntmps40
      go_wp2
      go_ret
      exact ⟨rfl, rfl⟩
    · rw [Ex.isD_not.2 (by omega)]
      have d2 : decide (c ≤ 57) = false := by simpa using h2
      clear h2
      go_enter Ybum.func40, Ybum.ntmps40
      go_wp2
      go_ret
      exact ⟨rfl, rfl⟩
  · rw [Ex.isD_not.2 (by omega)]
    have d2 : decide (48 ≤ c) = false := by simpa using h1
    clear h1
    go_enter Ybum.func40, Ybum.ntmps40
    go_wp2
    go_ret
    exact ⟨rfl, rfl⟩
def isBl (c : Int) : Bool := c == 32 || c == 9
theorem isBl_iff {c : Int} : isBl c = true ↔ c = 32 ∨ c = 9 := by simp [isBl]
set_option maxHeartbeats 400000 in
theorem fblank_any (c : Int) (w : World) : Calls Ybum.prog 41 #[.int .u8 c] w fun e w' => e = .returned (.bool (isBl c)) ∧ w' = w := by
  by_cases h1 : c = 32
  · subst h1
    rw [show isBl 32 = true from rfl]
    go_enter Ybum.func41, Ybum.ntmps41
    go_wp2
    go_ret
    exact ⟨rfl, rfl⟩
  · have d1 : (c == 32) = false := by simpa using h1
    have e : isBl c = (c == 9) := by simp [isBl, d1]
    rw [e]
    clear e h1
    go_enter Ybum.func41, Ybum.ntmps41
    go_wp2
    go_ret
    exact ⟨rfl, rfl⟩

/-- no blank at J -/
def NB (bs : List Int) (J : Nat) : Prop := J < bs.length → isBl (Ex.iAt bs J) = false

set_option maxHeartbeats 1000000 in
theorem fskip_any (s : ByteArray) (i : Nat) (T : List Tk) (w : World) (hs : s.size ≤ 100000) (hi : i ≤ s.size) (hL : Lx (sb s) i T) :
    Calls Ybum.prog 51 #[.string s, .int .i64 i] w fun e w' => (∃ J : Nat, e = .returned (.int .i64 J) ∧ i ≤ J ∧ J ≤ s.size ∧ Lx (sb s) J T ∧ NB (sb s) J) ∧ w' = w := by
  have HL : Hid (Lx (sb s) i T) := hL
  have HS : Hid ((sb s).length = s.size) := sb_len s
  have hsb := sb_at s
  clear hL
  go_enter Ybum.func51, Ybum.ntmps51
  go_wp2_with fail
  go_loop [1] (fun j => ∃ (J : Nat), j = .int .i64 J ∧ i ≤ J ∧ J ≤ s.size ∧ Hid (Lx (sb s) J T)) (fun j => s.size - (intOf j).toNat)
  case atStart => exact ⟨i, rfl, by omega, hi, HL⟩
  case round =>
    obtain ⟨J, rfl, hij, hJ, HJ⟩ := hrel
    by_cases hlt : J < s.size
    · have hJi : (J : Int) < (s.size : Int) := by omega
      have hJ0 : (0 : Int) ≤ (J : Int) := by omega
      go_wp2_with fail
      refine (fblank_any _ _).mono ?_
      rintro e w' ⟨rfl, hw⟩
      subst hw
      cases hb : isBl (Ex.iAt (sb s) J) with
      | true =>
        have HN : Hid (Lx (sb s) (J + 1) T) := HJ.out.blank (by have := HS.out; omega) (isBl_iff.1 hb)
        go_wp2_with fail
        go_round
        case rel => exact ⟨J + 1, by go_num, by omega, by omega, HN⟩
        case measure => simp [intOf]; omega
      | false =>
        have HN : Hid (NB (sb s) J) := fun _ => hb
        go_wp2_with fail
        go_ret
        exact ⟨⟨J, rfl, hij, hJ, HJ.out, HN.out⟩, rfl⟩
    · have hd : decide ((J : Int) < (s.size : Int)) = false := decide_eq_false (by omega)
      have HN : Hid (NB (sb s) J) := fun h => by have := HS.out; omega
      go_wp2_with fail
      go_ret
      exact ⟨⟨J, rfl, hij, hJ, HJ.out, HN.out⟩, rfl⟩

set_option maxHeartbeats 1000000 in
theorem fjoin_any (op v c u d : Int) (w : World) (hv : Ex.inI v) (hu : Ex.inI u) :
    Calls Ybum.prog 43 #[.int .u8 op, .int .i64 v, .int .i64 c, .int .i64 u, .int .i64 d] w fun e w' => e = .returned (.tuple #[.int .i64 (jn op v c u d).1, .int .i64 (jn op v c u d).2]) ∧ w' = w := by
  by_cases hc : c = 0
  · have dc : (c != 0) = false := by simpa using hc
    by_cases hd : d = 0
    · have dd : (d != 0) = false := by simpa using hd
      obtain ⟨r, hr⟩ : ∃ r, Ex.ap op v u = r := ⟨_, rfl⟩
      obtain ⟨V, C⟩ := r
      have e : jn op v c u d = (V, C) := by simp [jn, hc, hd, hr]
      rw [e]
      have HR : Hid (Ex.ap op v u = (V, C)) := hr
      clear e hr hc hd
      go_enter Ybum.func43, Ybum.ntmps43
      go_wp2_with fail
      refine (apply_is op v u V C w hv hu HR.out).mono ?_
      rintro e w' ⟨rfl, hw⟩
      subst hw
      go_wp2_with fail
      go_ret2
      exact ⟨rfl, rfl⟩
    · have dd : (d != 0) = true := by simpa using hd
      have e : jn op v c u d = (0, d) := by simp [jn, hc, hd]
      rw [e]
      clear e hc hd
      go_enter Ybum.func43, Ybum.ntmps43
      go_wp2_with fail
      go_ret2
      exact ⟨rfl, rfl⟩
  · have dc : (c != 0) = true := by simpa using hc
    have e : jn op v c u d = (0, c) := by simp [jn, hc]
    rw [e]
    clear e hc
    go_enter Ybum.func43, Ybum.ntmps43
    go_wp2_with fail
    go_ret2
    exact ⟨rfl, rfl⟩
end Go.Proofs.Ymbrbu
