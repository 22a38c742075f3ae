import Derived.Test.YmbrbtABuildWalk
import Derived.Test.YmbrbtEvWalk
set_option linter.unusedVariables false
set_option linter.unusedSimpArgs false
set_option linter.unnecessarySimpa false
namespace Go.Proofs.Ymbrbt
open Go.RowKit

theorem ap_codes {op a b : Int} (h : 0 < Ex.prec op) : (Ex.ap op a b).2 = 0 ∨ ((Ex.ap op a b).1 = 0 ∧ ((Ex.ap op a b).2 = 3 ∨ (Ex.ap op a b).2 = 4)) := by
  have hf : ∀ r, (Ex.fit r).2 = 0 ∨ ((Ex.fit r).1 = 0 ∧ ((Ex.fit r).2 = 3 ∨ (Ex.fit r).2 = 4)) := fun r => by
    rcases Ex.fit_cases r with ⟨_, e⟩ | ⟨_, e⟩ <;> rw [e] <;> simp
  rcases Ex.prec_cases op with ⟨_, rfl | rfl⟩ | ⟨_, rfl | rfl⟩ | ⟨h0, _⟩
  · simpa [Ex.ap] using hf (a + b)
  · simpa [Ex.ap] using hf (a - b)
  · simpa [Ex.ap] using hf (a * b)
  · by_cases hb : b = 0
    · simp [Ex.ap, hb]
    · simpa [Ex.ap, hb] using hf (a.tdiv b)
  · omega
theorem er_codes : ∀ (ts : List (Int × Int)) (st : List Int) (m : Nat), Ex.vrun st.length ts = some m → (Ex.er st ts).2 = 0 ∨ ((Ex.er st ts).1 = 0 ∧ ((Ex.er st ts).2 = 3 ∨ (Ex.er st ts).2 = 4))
  | [], st, m, h => by left; simp [Ex.er]
  | (k, v) :: ts, st, m, h => by
    by_cases h48 : k = 48
    · rw [Ex.er_num h48]
      rw [Ex.vrun_num h48] at h
      exact er_codes ts (v :: st) m (by simpa using h)
    · by_cases hp : 0 < Ex.prec k ∧ 2 ≤ st.length
      · obtain ⟨hp, h2⟩ := hp
        rw [Ex.vrun_op h48 hp h2] at h
        match st, h2, h with
        | b :: a :: r, _, h =>
          by_cases h0 : (Ex.ap k a b).2 = 0
          · rw [Ex.er_ok h48 h0]
            exact er_codes ts (_ :: r) m (by simpa using h)
          · rw [Ex.er_fail h48 h0]
            rcases ap_codes (a := a) (b := b) hp with h | h
            · exact absurd h h0
            · exact .inr ⟨rfl, h.2⟩
      · rw [Ex.vrun_bad h48 (by omega)] at h
        cases h
theorem evP_codes (ts : List (Int × Int)) (h : Ex.vpB ts = true) : (Ex.evP ts).2 = 0 ∨ ((Ex.evP ts).1 = 0 ∧ ((Ex.evP ts).2 = 3 ∨ (Ex.evP ts).2 = 4)) := by
  unfold Ex.evP
  rw [if_pos h]
  exact er_codes ts [] 1 (Ex.vpB_iff.1 h)

/-- what the backward count knows -/
def Back (ts : List (Int × Int)) (q : Nat) (nd : Int) (g : Bool) : Prop :=
  (g = true → 0 ≤ nd ∧ Ex.rrun 1 ts.reverse = Ex.rrun nd.toNat (ts.take q).reverse) ∧ (g = false → Ex.vpB ts = false)
theorem back_init (ts : List (Int × Int)) : Back ts ts.length 1 true := ⟨fun _ => ⟨by omega, by rw [List.take_length]; rfl⟩, fun h => by cases h⟩
theorem back_low {ts : List (Int × Int)} {q : Nat} {nd : Int} {g : Bool} (h : Back ts (q + 1) nd g) (hq : q < ts.length) (hn : nd < 1) : Ex.vpB ts = false := by
  cases g with
  | false => exact h.2 rfl
  | true =>
    obtain ⟨h0, h1⟩ := h.1 rfl
    have : nd = 0 := by omega
    subst this
    rw [Ex.vpB_right, h1, Ex.take_rev ts q hq]
    simp [Ex.rrun]
theorem back_num {ts : List (Int × Int)} {q : Nat} {nd : Int} {g : Bool} (h : Back ts (q + 1) nd g) (hq : q < ts.length) (hn : 1 ≤ nd) (hk : Ex.kAt ts q = 48) : Back ts q (nd - 1) g := by
  refine ⟨fun hg => ?_, h.2⟩
  obtain ⟨h0, h1⟩ := h.1 hg
  refine ⟨by omega, ?_⟩
  rw [h1, Ex.take_rev ts q hq]
  simp only [Ex.rrun]
  rw [if_neg (by omega), if_pos hk]
  congr 1; omega
theorem back_op {ts : List (Int × Int)} {q : Nat} {nd : Int} {g : Bool} (h : Back ts (q + 1) nd g) (hq : q < ts.length) (hn : 1 ≤ nd) (hk : 0 < Ex.prec (Ex.kAt ts q)) : Back ts q (nd + 1) g := by
  refine ⟨fun hg => ?_, h.2⟩
  obtain ⟨h0, h1⟩ := h.1 hg
  refine ⟨by omega, ?_⟩
  rw [h1, Ex.take_rev ts q hq]
  simp only [Ex.rrun]
  rw [if_neg (by omega), if_neg (by intro e; rw [e] at hk; simp [Ex.prec] at hk), if_pos hk]
  congr 1; omega
theorem back_bad {ts : List (Int × Int)} {q : Nat} {nd : Int} {g : Bool} (h : Back ts (q + 1) nd g) (hq : q < ts.length) (hk : Ex.kAt ts q ≠ 48) (hp : Ex.prec (Ex.kAt ts q) = 0) : Ex.vpB ts = false := by
  cases g with
  | false => exact h.2 rfl
  | true =>
    obtain ⟨h0, h1⟩ := h.1 rfl
    rw [Ex.vpB_right, h1, Ex.take_rev ts q hq]
    simp only [Ex.rrun]
    by_cases h0 : nd.toNat = 0
    · rw [if_pos h0]; rfl
    · rw [if_neg h0, if_neg hk, if_neg (by omega)]; rfl
theorem back_false {ts : List (Int × Int)} {q : Nat} {nd : Int} (h : Ex.vpB ts = false) : Back ts q nd false := ⟨fun h => (by cases h), fun _ => h⟩
theorem back_end {ts : List (Int × Int)} {nd : Int} {g : Bool} (h : Back ts 0 nd g) : Ex.vpB ts = (g && nd == 0) := by
  cases g with
  | false => exact h.2 rfl
  | true =>
    obtain ⟨h0, h1⟩ := h.1 rfl
    rw [Ex.vpB_right, h1]
    simp only [List.take_zero, List.reverse_nil, Ex.rrun, Bool.true_and]
    by_cases hn : nd = 0
    · simp [hn]
    · have e : ¬ nd.toNat = 0 := by omega
      have e1 : (some nd.toNat == some 0) = false := by simpa using e
      have e2 : (nd == 0) = false := by simpa using hn
      rw [e1, e2]
theorem tokOk_snoc {ts : List (Int × Int)} {k v : Int} (h : TokOk ts) (h0 : 0 ≤ k) (h1 : k ≤ 255) (hv : Ex.inI v) : TokOk (ts ++ [(k, v)]) := fun t ht => by
  rcases List.mem_append.1 ht with h' | h'
  · exact h t h'
  · simp at h'; subst h'; exact ⟨h0, h1, hv⟩
end Go.Proofs.Ymbrbt
