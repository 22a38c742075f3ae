/- append as one step of a region that draws its order -/
import Derived.Test.YmbrbuOwnInt
import Derived.Deep.RegionHeld3
import Derived.Deep.DrawnRows
import Derived.Deep.RegionLaw
set_option linter.unusedVariables false
set_option linter.unusedSimpArgs false
set_option linter.unnecessarySimpa false
namespace Go.Proofs.Ymbrbu
open Go.RowKit

theorem step_tok {ops : Array Oper} {o : Oper} {a : Act} {w : World} {K : Act → World → Prop} {Q : Exit → Act → World → Prop} {E : Prop} (hgd : o.guard = none) (s x : Operand)
    (ho : o.op = .call { callee := .builtin .append, args := #[s, x], argTypes := #[51, 51] })
    (base : Nat) (v : Value) (ts : List (Int × Int)) (hs : a.eval s = v) (hown : OwnT w base v ts)
    (g : Nat) (k u : Int) (hx : a.eval x = .slice (some ⟨g, 0, none⟩) 1 1) (c0 : w.cell? ⟨g, 0, none⟩ = some (.int .u8 k)) (c1 : w.cell? ⟨g, 1, none⟩ = some (.int .i64 u))
    (hlen : ts.length < 1000000000000) (hbase : base ≤ w.heap.size)
    (h : ∀ v' w', OwnT w' base v' (ts ++ [(k, u)]) → OwnT w' base v ts → Grew w w' v v' → K (a.put o.dst v') w') :
    if Region.wanted o (yielded ops a.tmps) = true then Oper.wp Ybum.prog o a w K Q else E := by
  have hw : Region.wanted o (yielded ops a.tmps) = true := by simp [Region.wanted, hgd]
  rw [if_pos hw]
  obtain ⟨i0, hi, hz0, hz1, hz2⟩ := info_parts Ybum.infoTok
  obtain ⟨v', w', hr, h2, h3, h4⟩ := run_app (P := Ybum.prog) w base 51 o.type 58 i0 (.agg #[.int .u8 0, .int .i64 0]) 2 16 Ybum.underlying51 hi hz0 hz1 hz2 rfl (by decide) v ts.length (flat ts) hown (some ⟨g, 0, none⟩) 1 1 [.int .u8 k, .int .i64 u] rfl (fun h => by cases h) (by
    intro j u' hj
    refine ⟨_, rfl, ?_⟩
    match j, hj with
    | 0, hj => simp at hj; subst hj; simpa [Addr.add] using c0
    | 1, hj => simp at hj; subst hj; simpa [Addr.add] using c1
    | j + 2, hj => simp at hj) (by
    intro y hy
    simp at hy
    rcases hy with rfl | rfl <;> rfl) (by unfold maxLen; omega) (by omega) hbase
  unfold Oper.wp execOp
  simp only [ho, resolve, invoke, builtin, Sem.run_bind, Sem.run_pure, Result.andThen_ok, List.map_toArray, List.map_cons, List.map_nil, hs, hx, hr]
  refine h v' w' ?_ h3 h4
  unfold OwnT
  rw [flat_append, flat_one, List.length_append]
  exact h2
end Go.Proofs.Ymbrbu
