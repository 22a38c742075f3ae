/- plain: the grown texts of FNested -/
import Derived.Test.YmbrbuFBinWalk
import Derived.Test.YmbrbuTree
set_option linter.unusedVariables false
set_option linter.unusedSimpArgs false
set_option linter.unnecessarySimpa false
namespace Go.Proofs.Ymbrbu
open Go.RowKit

/-- the text is cut into the tokens I, whatever stands behind it but a digit -/
def Lex (bs : List Int) (I : List Tk) : Prop := ∀ cs T, (∀ c, cs.head? = some c → Ex.isD c = false) → bz (bs ++ cs) T none = bz cs (T ++ I) none
theorem Lex.num (n : Nat) (hn : n ≤ 9223372036854775807) : Lex (Ex.dg n) [(48, (n : Int))] := fun cs T h => by
  rw [bz_num n cs T (by omega) h, if_pos hn]
theorem Lex.cons {bs : List Int} {I : List Tk} (c : Int) (hc : isSym c = true) (h : Lex bs I) : Lex (c :: bs) ((c, 0) :: I) := fun cs T hd => by
  rw [List.cons_append, bz_sym _ _ hc, h cs _ hd]; simp
theorem Lex.join {bs bs' : List Int} {I J : List Tk} (h : Lex bs I) (c : Int) (hc : isSym c = true) (h' : Lex bs' J) : Lex (bs ++ c :: bs') (I ++ (c, 0) :: J) := fun cs T hd => by
  rw [List.append_assoc, h _ _ (fun x hx => by simp at hx; subst hx; exact (sym_not hc).2), List.cons_append, bz_sym _ _ hc, h' cs _ hd]; simp
theorem Lex.nil : Lex [] [] := fun cs T _ => by simp
theorem Lex.all {bs : List Int} {I : List Tk} (h : Lex bs I) : bz bs [] none = (0, I) := by
  have := h [] [] (fun c hc => by cases hc)
  rw [List.append_nil] at this
  rw [this]; simp [bz, flush]

/-- the text has the value V, or the code C of the first fault -/
def FI (bs : List Int) (V C : Int) : Prop := ∃ I post, Lex bs I ∧ Expr 1 I post ∧ Val post V C ∧ (C ≠ 0 → V = 0)
theorem FI.num (n : Nat) (hn : n ≤ 9223372036854775807) : FI (Ex.dg n) n 0 := ⟨_, _, Lex.num n hn, Expr.num _ _, Val.num _, fun h => absurd rfl h⟩
theorem FI.ev {bs : List Int} {V C : Int} (h : FI bs V C) : evS bs = (V, C) := by
  obtain ⟨I, post, h1, h2, h3, h4⟩ := h
  rw [evS_good h1.all (h2.tp (Int.le_refl _)), h3.ev h4]
theorem jn_zero {k v c w d : Int} (hk : 0 < Ex.prec k) : (jn k v c w d).2 ≠ 0 → (jn k v c w d).1 = 0 := by
  unfold jn
  split
  · intro _; rfl
  · split
    · intro _; rfl
    · exact ap_zero hk
theorem FI.left {bs : List Int} {V C : Int} (h : FI bs V C) (k n : Nat) (hn : n ≤ 9223372036854775807) : FI ([40] ++ bs ++ [41] ++ [opc k] ++ Ex.dg n) (jn (opc k) V C n 0).1 (jn (opc k) V C n 0).2 := by
  obtain ⟨I, post, h1, h2, h3, h4⟩ := h
  have hk := opc_prec k
  refine ⟨((40, 0) :: I ++ [(41, 0)]) ++ (opc k, 0) :: [(48, (n : Int))], _, ?_, Expr.mono (Expr.join (h2.paren 0 0 3 (Int.le_refl _)) (Expr.num _ 3) rfl hk (by rcases Ex.prec_cases (opc k) with h | h | h <;> omega) (by rcases Ex.prec_cases (opc k) with h | h | h <;> omega)) hk, h3.join (Val.num _) hk, jn_zero hk⟩
  have e : [40] ++ bs ++ [41] ++ [opc k] ++ Ex.dg n = (40 :: (bs ++ 41 :: [])) ++ opc k :: Ex.dg n := by simp
  rw [e]
  have := Lex.join (Lex.cons 40 (by decide) (Lex.join h1 41 (by decide) Lex.nil)) (opc k) (by simp [isSym, hk]) (Lex.num n hn)
  simpa using this
theorem FI.right {bs : List Int} {V C : Int} (h : FI bs V C) (k n : Nat) (hn : n ≤ 9223372036854775807) : FI (Ex.dg n ++ [opc k] ++ [40] ++ bs ++ [41]) (jn (opc k) n 0 V C).1 (jn (opc k) n 0 V C).2 := by
  obtain ⟨I, post, h1, h2, h3, h4⟩ := h
  have hk := opc_prec k
  refine ⟨[(48, (n : Int))] ++ (opc k, 0) :: ((40, 0) :: I ++ [(41, 0)]), _, ?_, Expr.mono (Expr.join (Expr.num _ 3) (h2.paren 0 0 3 (Int.le_refl _)) rfl hk (by rcases Ex.prec_cases (opc k) with h | h | h <;> omega) (by rcases Ex.prec_cases (opc k) with h | h | h <;> omega)) hk, (Val.num _).join h3 hk, jn_zero hk⟩
  have e : Ex.dg n ++ [opc k] ++ [40] ++ bs ++ [41] = Ex.dg n ++ opc k :: (40 :: (bs ++ 41 :: [])) := by simp
  rw [e]
  have := Lex.join (Lex.num n hn) (opc k) (by simp [isSym, hk]) (Lex.cons 40 (by decide) (Lex.join h1 41 (by decide) Lex.nil))
  simpa using this
theorem FI.keep {bs : List Int} {V C : Int} (h : FI bs V C) (hC : C ≠ 0) : V = 0 := by
  obtain ⟨I, post, h1, h2, h3, h4⟩ := h
  exact h4 hC
end Go.Proofs.Ymbrbu
