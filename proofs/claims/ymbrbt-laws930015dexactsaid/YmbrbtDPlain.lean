/- plain: a postfix expression and its fully parenthesised infix form -/
import Derived.Test.YmbrbtTree
set_option linter.unusedVariables false
set_option linter.unusedSimpArgs false
set_option linter.unnecessarySimpa false
namespace Go.Proofs.Ymbrbt
open Go.RowKit

inductive PX : List Tk → List Tk → Prop
  | num (v : Int) : PX [(48, v)] [(48, v)]
  | op {pl il pr ir : List Tk} {k x : Int} : PX pl il → PX pr ir → 0 < Ex.prec k → PX (pl ++ pr ++ [(k, x)]) ((40, 0) :: il ++ [(k, x)] ++ ir ++ [(41, 0)])
theorem PX.expr {p i : List Tk} (h : PX p i) : Expr 3 i p := by
  induction h with
  | num v => exact Expr.num v 3
  | @op pl il pr ir k x hl hr hk a b =>
    have hp : Ex.prec k ≤ 2 := by rcases Ex.prec_cases k with h | h | h <;> omega
    have := (Expr.join a b (k := k) (v := x) rfl (by omega) (by omega) (by omega)).paren 0 0 3 (by omega)
    simpa using this
theorem PX.tp {p i : List Tk} (h : PX p i) : tp i = some p := h.expr.tp (by omega)
def isize (ts : List Tk) : Nat := (ts.map fun t => if t.1 = 48 then 1 else 3).sum
theorem isize_app (a b : List Tk) : isize (a ++ b) = isize a + isize b := by simp [isize]
theorem PX.len {p i : List Tk} (h : PX p i) : i.length = isize p := by
  induction h with
  | num v => simp [isize]
  | @op pl il pr ir k x hl hr hk a b =>
    have hn := (prec_ne hk).1
    have e : isize [(k, x)] = 3 := by simp [isize, hn]
    rw [isize_app, isize_app, e, ← a, ← b]
    simp
    omega
theorem isize_le (ts : List Tk) : isize ts ≤ 3 * ts.length := by
  induction ts with
  | nil => simp [isize]
  | cons t ts ih =>
    have : isize (t :: ts) = isize [t] + isize ts := isize_app [t] ts
    have h2 : isize [t] ≤ 3 := by simp only [isize, List.map_cons, List.map_nil, List.sum_cons, List.sum_nil]; split <;> omega
    rw [this, List.length_cons]; omega
theorem PX.len_le {p i : List Tk} (h : PX p i) : i.length ≤ 3 * p.length := by rw [h.len]; exact isize_le p
theorem PX.pos {p i : List Tk} (h : PX p i) : 0 < p.length := by
  cases h with
  | num v => simp
  | op a b c => simp; omega

/-- what the next token asks of the run -/
theorem vrun_next {d : Nat} {k v : Int} {ts : List Tk} (h : Ex.vrun d ((k, v) :: ts) = some 1) : (k = 48 ∧ Ex.vrun (d + 1) ts = some 1) ∨ (k ≠ 48 ∧ 0 < Ex.prec k ∧ 2 ≤ d ∧ Ex.vrun (d - 1) ts = some 1) := by
  simp only [Ex.vrun] at h
  split at h
  · rename_i h1; exact .inl ⟨h1, h⟩
  · rename_i h1
    split at h
    · rename_i h2; exact .inr ⟨h1, h2.1, h2.2, h⟩
    · cases h
/-- the stack, the top first: (slice, postfix part, infix form); done is what has been read -/
abbrev Ent := Value × List Tk × List Tk
def posts (E : List Ent) : List Tk := (E.reverse.map fun p => p.2.1).flatten
theorem posts_cons (p : Ent) (E : List Ent) : posts (p :: E) = posts E ++ p.2.1 := by simp [posts]
theorem posts_le {E : List Ent} {p : Ent} (h : p ∈ E) : p.2.1.length ≤ (posts E).length := by
  induction E with
  | nil => cases h
  | cons q E ih =>
    rw [posts_cons, List.length_append]
    rcases List.mem_cons.1 h with rfl | h
    · omega
    · have := ih h; omega
def vals (E : List Ent) : List (List Value) := E.reverse.map fun p => [p.1]
theorem vals_len (E : List Ent) : (vals E).length = E.length := by simp [vals]
theorem vals_cons (p : Ent) (E : List Ent) : vals (p :: E) = vals E ++ [[p.1]] := by simp [vals]
theorem vals_two (a b : Ent) (S : List Ent) : vals (b :: a :: S) = vals S ++ [[a.1], [b.1]] := by simp [vals]
theorem vals_at (a b : Ent) (S : List Ent) : (vals (b :: a :: S))[S.length]? = some [a.1] ∧ (vals (b :: a :: S))[S.length + 1]? = some [b.1] := by
  rw [vals_two, ← vals_len S]
  constructor
  · rw [List.getElem?_append_right (Nat.le_refl _), Nat.sub_self]; rfl
  · rw [List.getElem?_append_right (by omega), show (vals S).length + 1 - (vals S).length = 1 by omega]; rfl
theorem vals_set (a b c : Ent) (S : List Ent) : ((vals (b :: a :: S)).set S.length [c.1]).take (S.length + 1) = vals (c :: S) := by
  rw [vals_two, vals_cons, ← vals_len S, List.set_append_right _ _ (Nat.le_refl _), Nat.sub_self]
  simp only [List.set_cons_zero]
  rw [List.take_append, List.take_of_length_le (by omega), show (vals S).length + 1 - (vals S).length = 1 by omega]
  rfl
end Go.Proofs.Ymbrbt
