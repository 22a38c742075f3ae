import Derived.Test.YmbrbuScanWalk
import Derived.Test.YmbrbuTokWalk
set_option linter.unusedVariables false
set_option linter.unusedSimpArgs false
set_option linter.unnecessarySimpa false
namespace Go.Proofs.Ymbrbu
open Go.RowKit

/- Tokenize as a machine that reads byte by byte; the second part of its state: the literal in hand -/
def isSym (c : Int) : Bool := decide (0 < Ex.prec c) || c == 40 || c == 41
def flush : Option Nat → List (Int × Int)
  | none => []
  | some v => [(48, (v : Int))]
def bz : List Int → List (Int × Int) → Option Nat → Int × List (Int × Int)
  | [], T, cur => (0, T ++ flush cur)
  | c :: cs, T, cur =>
    if c = 32 ∨ c = 9 then bz cs (T ++ flush cur) none
    else if isSym c = true then bz cs (T ++ flush cur ++ [(c, 0)]) none
    else if Ex.isD c = true then
      (if cur.getD 0 * 10 + (c - 48).toNat ≤ 9223372036854775807 then bz cs T (some (cur.getD 0 * 10 + (c - 48).toNat)) else (3, []))
    else (1, [])
theorem sym_not {c : Int} (h : isSym c = true) : ¬ (c = 32 ∨ c = 9) ∧ Ex.isD c = false := by
  unfold isSym at h
  simp at h
  have hc : c = 43 ∨ c = 45 ∨ c = 42 ∨ c = 47 ∨ c = 40 ∨ c = 41 := by
    rcases h with (h | h) | h
    · rcases Ex.prec_cases c with ⟨_, h'⟩ | ⟨_, h'⟩ | ⟨h0, _⟩ <;> omega
    · omega
    · omega
  refine ⟨by omega, ?_⟩
  rw [Ex.isD_not]; omega
theorem dig_not {c : Int} (h : Ex.isD c = true) : ¬ (c = 32 ∨ c = 9) ∧ isSym c = false := by
  rw [Ex.isD_iff] at h
  refine ⟨by omega, ?_⟩
  cases hs : isSym c with
  | false => rfl
  | true =>
    have := (sym_not hs).2
    rw [Ex.isD_not] at this
    exact absurd h this
/-- a literal in hand is a token as soon as no digit follows -/
theorem bz_flush {cs : List Int} (T : List (Int × Int)) (v : Nat) (h : ∀ c, cs.head? = some c → Ex.isD c = false) : bz cs T (some v) = bz cs (T ++ [(48, (v : Int))]) none := by
  cases cs with
  | nil => simp [bz, flush]
  | cons c cs =>
    have hd := h c rfl
    simp only [bz, hd]
    simp [flush]
theorem dval_mono (D : List Int) : ∀ acc, acc ≤ Ex.dval acc D := by
  induction D with
  | nil => intro acc; exact Nat.le_refl _
  | cons c D ih => intro acc; exact Nat.le_trans (by omega) (ih _)
theorem bz_dig {c : Int} (cs : List Int) (T : List (Int × Int)) (cur : Option Nat) (h : Ex.isD c = true) : bz (c :: cs) T cur = if cur.getD 0 * 10 + (c - 48).toNat ≤ 9223372036854775807 then bz cs T (some (cur.getD 0 * 10 + (c - 48).toNat)) else (3, []) := by
  obtain ⟨n1, n2⟩ := dig_not h
  rw [bz, if_neg n1, if_neg (by rw [n2]; simp), if_pos h]
theorem bz_blank {c : Int} (cs : List Int) (T : List (Int × Int)) (h : c = 32 ∨ c = 9) : bz (c :: cs) T none = bz cs T none := by
  rw [bz, if_pos h]; simp [flush]
theorem bz_sym {c : Int} (cs : List Int) (T : List (Int × Int)) (h : isSym c = true) : bz (c :: cs) T none = bz cs (T ++ [(c, 0)]) none := by
  rw [bz, if_neg (sym_not h).1, if_pos h]; simp [flush]
theorem bz_bad {c : Int} (cs : List Int) (T : List (Int × Int)) (cur : Option Nat) (h1 : ¬ (c = 32 ∨ c = 9)) (h2 : isSym c = false) (h3 : Ex.isD c = false) : bz (c :: cs) T cur = (1, []) := by
  rw [bz, if_neg h1, if_neg (by rw [h2]; simp), if_neg (by rw [h3]; simp)]
/-- a run of digits -/
theorem bz_digits (cs : List Int) (T : List (Int × Int)) : ∀ (D : List Int) (cur : Option Nat), (∀ c ∈ D, Ex.isD c = true) → D ≠ [] → bz (D ++ cs) T cur = if Ex.dval (cur.getD 0) D ≤ 9223372036854775807 then bz cs T (some (Ex.dval (cur.getD 0) D)) else (3, [])
  | [], cur, _, h => absurd rfl h
  | c :: D, cur, hD, _ => by
    have hc := hD c (by simp)
    obtain ⟨x, hx⟩ : ∃ x, cur.getD 0 * 10 + (c - 48).toNat = x := ⟨_, rfl⟩
    have e : Ex.dval (cur.getD 0) (c :: D) = Ex.dval x D := by rw [← hx]; rfl
    rw [e, List.cons_append, bz_dig _ _ _ hc, hx]
    by_cases hf : x ≤ 9223372036854775807
    · rw [if_pos hf]
      cases D with
      | nil => show bz cs T (some x) = if x ≤ _ then bz cs T (some x) else _; rw [if_pos hf]
      | cons d D' => exact bz_digits cs T (d :: D') (some x) (fun y hy => hD y (by simp [hy])) (by simp)
    · have h2 : ¬ Ex.dval x D ≤ 9223372036854775807 := fun h => hf (Nat.le_trans (dval_mono D _) h)
      rw [if_neg hf, if_neg h2]
end Go.Proofs.Ymbrbu
