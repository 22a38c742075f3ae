import Derived.Test.YmbrbtRows
import Derived.WalkKit
import Derived.ProofKit
import Derived.OpenShut
import Derived.ShutString
import Derived.ChangeOld
import Derived.Below
import Derived.Test.YmbrbtDExactWalk
namespace Go.Proofs.Ymbrbt.lawS930015DExact
open Go.ChangeShapes Go.WideShapes Go.ChangeAt Go.RowKit
open Go.ChangeMaps (open_string shut_string)
set_option linter.unusedVariables false

theorem own : ownKnob Ybtm.prog.godebug = none := by kernel_rfl
theorem laidOut : laidOutB Ybtm.prog = true := by kernel_rfl

theorem walk (a0 : Option Addr) (len0 cap0 : Nat) (z0 : List (Int × Int)) (w : World) (w0 : Toks w a0 len0 cap0 z0) (o0 : TokOk z0) :
    Calls Ybtm.prog 11 #[.slice a0 len0 cap0] w fun e w' => e = .returned (.bool true) ∧ Below w.heap.size w w' := by
  exact dexact_any a0 len0 cap0 z0 w w0 o0

set_option maxRecDepth 100000 in
theorem lifted (os : Os) (started : os.Started) (H : Type) (enc : TypeId × Value → H) :
    ReturnsInHanded {} Ybtm.checked os 11 .any (Rows.lawS930015DExactSpec.pre6 enc Ybtm.prog Ybtm.f11 Rows.lawS930015DExactRow.domain false) (Rows.lawS930015DExactSpec.post enc Ybtm.prog Ybtm.f11 false true false false) := by
  refine returnsInHanded_of_change (C := Ybtm.checked) own started (by kernel_rfl) Ybtm.func11
    (ChangeSpec.witness6 (enc := enc) (C := Ybtm.checked) false ⟨#[], #[.slice none 0 0], []⟩ 8 (by kernel_rfl) (by kernel_rfl) (by kernel_rfl) (by kernel_rfl)) ?_
  intro W base args ds gs before hval0 hW hcnd _
  have hval : ∀ (j : Nat) t v, Ybtm.f11.params[j]? = some t → args[j]? = some v → Value.okWide Ybtm.prog W .any base t v := hval0
  have hW' := hW
  obtain ⟨p, q, hA0, hV, rfl, hfz, hnd⟩ := hW
  have hA : DataW.TrodAll enc Ybtm.prog W 0 (fun _ => true) true Ybtm.f11.params.toList args.toList ds p := hA0
  rw [Ybtm.params11] at hA hval
  obtain ⟨v0, vs0, d0, ds0, p0, q0, hargs, rfl, rfl, h0, r0⟩ := trodAll_cons hA
  obtain ⟨rfl, rfl, rfl⟩ := trodAll_nil r0
  obtain rfl : args = #[v0] := by cases args; simp_all
  obtain ⟨rfl, rfl⟩ := trodVars_none hV
  obtain ⟨a0, len0, cap0, rfl⟩ := okWide_slice Ybtm.underlying55 (hval 0 55 v0 rfl rfl)
  have k0 := h0
  have lt0 : ∀ x ∈ p0, x.block < W.heap.size := by obtain ⟨m, hm⟩ := k0; exact DataW.trod_lt m _ _ _ hm
  obtain ⟨z0, w0, o0⟩ : ∃ ts, Toks W a0 len0 cap0 ts ∧ TokOk ts := by
    obtain ⟨fuel, hf⟩ := h0
    exact open_pairs Ybtm.underlying55 Ybtm.underlying64 (by kernel_rfl) rfl rfl (by kernel_rfl) (by kernel_rfl) (by kernel_rfl) (by kernel_rfl) hf
  clear hA0 hval0
  refine (walk a0 len0 cap0 z0 W w0 o0).mono fun e W' ⟨he, bel⟩ => ?_
  subst he
  exact ⟨_, rfl, _, _, _, [], _, [], hW', trodAll_mk1 (shut_bool Ybtm.underlying4 _), (trodAll_cons_mk (Below.trod laidOut (by kernel_rfl) (of_decide_eq_true (by kernel_rfl)) k0 bel lt0) trodAll_mk0), rfl, bel.frame _, fun h => by cases h⟩

theorem over : Rows.lawS930015DExactRow.holds Ybtm.pinned (OpenSpec.ofChange Rows.lawS930015DExactSpec) :=
  OpenClaim.holds_of_wide 11 Ybtm.f11 rfl rfl rfl rfl rfl rfl rfl ⟨rfl, rfl, rfl, rfl, rfl⟩ rfl rfl rfl rfl rfl (by kernel_rfl) Ybtm.func11 (by kernel_rfl)
    (of_decide_eq_true (by kernel_rfl)) (by unfold Func.isWrapper; first | (rw [if_pos (by decide +kernel)]; kernel_rfl) | (rw [if_neg (by decide +kernel)]; exact ⟨rfl, rfl⟩))
    (fun os started H enc _ => lifted os started H enc)

theorem proved : Rows.LawS930015DExactSaid := over
end Go.Proofs.Ymbrbt.lawS930015DExact
