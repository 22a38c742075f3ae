import Derived.Test.YmbrbtRows
import Derived.WalkKit
import Derived.ProofKit
import Derived.OpenShut
import Derived.ShutString
import Derived.ChangeOld
import Derived.Below
import Derived.Test.YmbrbtBMachineWalk
namespace Go.Proofs.Ymbrbt.lawS930015BMachine
open Go.ChangeShapes Go.WideShapes Go.ChangeAt Go.RowKit
open Go.ChangeMaps (open_string shut_string)
set_option linter.unusedVariables false

theorem own : ownKnob Ybtm.prog.godebug = none := by kernel_rfl
theorem laidOut : laidOutB Ybtm.prog = true := by kernel_rfl

theorem walk (a0 : ByteArray) (w : World) (w0 : a0.size ≤ maxLen) :
    Calls Ybtm.prog 6 #[.string a0] w fun e w' => e = .returned (.bool true) ∧ Below w.heap.size w w' := by
  exact bmachine_any a0 w w0

set_option maxRecDepth 100000 in
theorem lifted (os : Os) (started : os.Started) (H : Type) (enc : TypeId × Value → H) :
    ReturnsInHanded {} Ybtm.checked os 6 .any (Rows.lawS930015BMachineSpec.pre6 enc Ybtm.prog Ybtm.f6 Rows.lawS930015BMachineRow.domain false) (Rows.lawS930015BMachineSpec.post enc Ybtm.prog Ybtm.f6 false true false false) := by
  refine returnsInHanded_of_change (C := Ybtm.checked) own started (by kernel_rfl) Ybtm.func6
    (ChangeSpec.witness6 (enc := enc) (C := Ybtm.checked) false ⟨#[], #[.string ByteArray.empty], []⟩ 8 (by kernel_rfl) (by kernel_rfl) (by kernel_rfl) (by kernel_rfl)) ?_
  intro W base args ds gs before hval0 hW hcnd _
  have hval : ∀ (j : Nat) t v, Ybtm.f6.params[j]? = some t → args[j]? = some v → Value.okWide Ybtm.prog W .any base t v := hval0
  have hW' := hW
  obtain ⟨p, q, hA0, hV, rfl, hfz, hnd⟩ := hW
  have hA : DataW.TrodAll enc Ybtm.prog W 0 (fun _ => true) true Ybtm.f6.params.toList args.toList ds p := hA0
  rw [Ybtm.params6] at hA hval
  obtain ⟨v0, vs0, d0, ds0, p0, q0, hargs, rfl, rfl, h0, r0⟩ := trodAll_cons hA
  obtain ⟨rfl, rfl, rfl⟩ := trodAll_nil r0
  obtain rfl : args = #[v0] := by cases args; simp_all
  obtain ⟨rfl, rfl⟩ := trodVars_none hV
  obtain ⟨a0, rfl, rfl, rfl, w0⟩ := open_string Ybtm.underlying9 (hval 0 9 v0 rfl rfl) h0
  clear hA0 hval0
  refine (walk a0 W w0).mono fun e W' ⟨he, bel⟩ => ?_
  subst he
  exact ⟨_, rfl, _, _, _, [], _, [], hW', trodAll_mk1 (shut_bool Ybtm.underlying4 _), (trodAll_cons_mk (shut_string Ybtm.underlying9 w0) trodAll_mk0), rfl, bel.frame _, fun h => by cases h⟩

theorem over : Rows.lawS930015BMachineRow.holds Ybtm.pinned (OpenSpec.ofChange Rows.lawS930015BMachineSpec) :=
  OpenClaim.holds_of_wide 6 Ybtm.f6 rfl rfl rfl rfl rfl rfl rfl ⟨rfl, rfl, rfl, rfl, rfl⟩ rfl rfl rfl rfl rfl (by kernel_rfl) Ybtm.func6 (by kernel_rfl)
    (of_decide_eq_true (by kernel_rfl)) (by unfold Func.isWrapper; first | (rw [if_pos (by decide +kernel)]; kernel_rfl) | (rw [if_neg (by decide +kernel)]; exact ⟨rfl, rfl⟩))
    (fun os started H enc _ => lifted os started H enc)

theorem proved : Rows.LawS930015BMachineSaid := over
end Go.Proofs.Ymbrbt.lawS930015BMachine
