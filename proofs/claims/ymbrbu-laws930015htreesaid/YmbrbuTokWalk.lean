import Derived.Test.YmbrbuProg
import Derived.Test.YmbrbuTok
import Derived.Test.YmbrbuArith
import Derived.WalkKit
import Derived.WalkSpells
import Derived.WalkSmall
import Derived.Handy
import Derived.BigQuiet
import Derived.Deep.QuietTactic
set_option linter.unusedVariables false
set_option linter.unusedSimpArgs false
set_option linter.unnecessarySimpa false
namespace Go.Proofs.Ymbrbu
open Go.RowKit

theorem retI {k : IntKind} {a b : Int} (h : a = b) : Ending.returned (.int k a) = .returned (.int k b) := by rw [h]
theorem retB {a b : Bool} (h : a = b) : Ending.returned (.bool a) = .returned (.bool b) := by rw [h]

/-- A slice of tokens that is read: its elements are 'ts'. -/
def Toks (w : World) (a : Option Addr) (n cap : Nat) (ts : List (Int × Int)) : Prop :=
  ts.length = n ∧ n ≤ cap ∧ cap ≤ maxLen ∧ (0 < n → ∃ b off, a = some ⟨b, off, none⟩ ∧
    ∀ i, i < n → w.cell? ⟨b, off + i * 2, none⟩ = some (.int .u8 (Ex.kAt ts i)) ∧ w.cell? ⟨b, off + i * 2 + 1, none⟩ = some (.int .i64 (Ex.vAt ts i)))

theorem Toks.below {w w' : World} {a : Option Addr} {n cap : Nat} {ts : List (Int × Int)} (h : Toks w a n cap ts) (hb : Below w.heap.size w w') : Toks w' a n cap ts := by
  obtain ⟨h1, h2, h3, h4⟩ := h
  refine ⟨h1, h2, h3, fun hn => ?_⟩
  obtain ⟨b, off, rfl, hc⟩ := h4 hn
  refine ⟨b, off, rfl, fun i hi => ?_⟩
  obtain ⟨c1, c2⟩ := hc i hi
  exact ⟨(hb.cell (World.block_lt_of_cell? w _ c1)).trans c1, (hb.cell (World.block_lt_of_cell? w _ c2)).trans c2⟩

set_option maxHeartbeats 400000 in
theorem prec_any (k : Int) (w : World) :
    Calls Ybum.prog 46 #[.int .u8 k] w fun e w' => e = .returned (.int .i64 (Ex.prec k)) ∧ w' = w := by
  rcases Ex.prec_cases k with ⟨e, rfl | rfl⟩ | ⟨e, rfl | rfl⟩ | ⟨e, h1, h2, h3, h4⟩
  case inr.inr =>
    rw [e]
    have k1 : (k == 43) = false := by simpa using h1
    have k2 : (k == 45) = false := by simpa using h2
    have k3 : (k == 42) = false := by simpa using h3
    have k4 : (k == 47) = false := by simpa using h4
    clear h1 h2 h3 h4 e
    go_enter Ybum.func46, Ybum.ntmps46
    go_wp2
    go_ret
    exact ⟨rfl, rfl⟩
  all_goals
    rw [e]
    clear e
    go_enter Ybum.func46, Ybum.ntmps46
    go_wp2
    go_ret
    exact ⟨rfl, rfl⟩
end Go.Proofs.Ymbrbu
