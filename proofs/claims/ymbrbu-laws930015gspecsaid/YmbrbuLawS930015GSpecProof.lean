import Derived.Test.YmbrbuRows
import Derived.WalkKit
import Derived.ProofKit
import Derived.OpenShut
import Derived.ShutString
import Derived.ChangeOld
import Derived.Below
import Derived.Test.YmbrbuGSpecWalk
namespace Go.Proofs.Ymbrbu.lawS930015GSpec
open Go.ChangeShapes Go.WideShapes Go.ChangeAt Go.RowKit
open Go.ChangeMaps (open_string shut_string)
set_option linter.unusedVariables false

theorem own : ownKnob Ybum.prog.godebug = none := by kernel_rfl
theorem laidOut : laidOutB Ybum.prog = true := by kernel_rfl

theorem walk (a0 : ByteArray) (a1 : Int) (a2 : Bool) (a3 : Bool) (w : World) (w0 : a0.size ≤ maxLen) (w1 : (Lit.int .i64 a1).wf = true) :
    Calls Ybum.prog 7 #[.string a0, .int .i64 a1, .bool a2, .bool a3] w fun e w' => e = .returned (.bool true) ∧ Below w.heap.size w w' := by
  have b1 := bounds_i64 w1
  exact gspec_any a0 a1 a2 a3 w w0 b1.1 b1.2

set_option maxRecDepth 100000 in
theorem lifted (os : Os) (started : os.Started) (H : Type) (enc : TypeId × Value → H) :
    ReturnsInHanded {} Ybum.checked os 7 .any (Rows.lawS930015GSpecSpec.pre6 enc Ybum.prog Ybum.f7 Rows.lawS930015GSpecRow.domain false) (Rows.lawS930015GSpecSpec.post enc Ybum.prog Ybum.f7 false true false false) := by
  refine returnsInHanded_of_change (C := Ybum.checked) own started (by kernel_rfl) Ybum.func7
    (ChangeSpec.witness6 (enc := enc) (C := Ybum.checked) false ⟨#[], #[.string ByteArray.empty, .int .i64 0, .bool false, .bool false], []⟩ 8 (by kernel_rfl) (by kernel_rfl) (by kernel_rfl) (by kernel_rfl)) ?_
  intro W base args ds gs before hval0 hW hcnd _
  have hval : ∀ (j : Nat) t v, Ybum.f7.params[j]? = some t → args[j]? = some v → Value.okWide Ybum.prog W .any base t v := hval0
  have hW' := hW
  obtain ⟨p, q, hA0, hV, rfl, hfz, hnd⟩ := hW
  have hA : DataW.TrodAll enc Ybum.prog W 0 (fun _ => true) true Ybum.f7.params.toList args.toList ds p := hA0
  rw [Ybum.params7] at hA hval
  obtain ⟨v0, vs0, d0, ds0, p0, q0, hargs, rfl, rfl, h0, r0⟩ := trodAll_cons hA
  obtain ⟨v1, vs1, d1, ds1, p1, q1, rfl, rfl, rfl, h1, r1⟩ := trodAll_cons r0
  obtain ⟨v2, vs2, d2, ds2, p2, q2, rfl, rfl, rfl, h2, r2⟩ := trodAll_cons r1
  obtain ⟨v3, vs3, d3, ds3, p3, q3, rfl, rfl, rfl, h3, r3⟩ := trodAll_cons r2
  obtain ⟨rfl, rfl, rfl⟩ := trodAll_nil r3
  obtain rfl : args = #[v0, v1, v2, v3] := by cases args; simp_all
  obtain ⟨rfl, rfl⟩ := trodVars_none hV
  obtain ⟨a0, rfl, rfl, rfl, w0⟩ := open_string Ybum.underlying9 (hval 0 9 v0 rfl rfl) h0
  obtain ⟨a1, rfl, rfl, rfl, w1⟩ := open_int Ybum.underlying3 (hval 1 3 v1 rfl rfl) h1
  obtain ⟨a2, rfl, rfl, rfl⟩ := open_bool Ybum.underlying4 (hval 2 4 v2 rfl rfl) h2
  obtain ⟨a3, rfl, rfl, rfl⟩ := open_bool Ybum.underlying4 (hval 3 4 v3 rfl rfl) h3
  clear hA0 hval0
  refine (walk a0 a1 a2 a3 W w0 w1).mono fun e W' ⟨he, bel⟩ => ?_
  subst he
  exact ⟨_, rfl, _, _, _, [], _, [], hW', trodAll_mk1 (shut_bool Ybum.underlying4 _), (trodAll_cons_mk (shut_string Ybum.underlying9 w0) (trodAll_cons_mk (shut_int Ybum.underlying3 w1) (trodAll_cons_mk (shut_bool Ybum.underlying4 _) (trodAll_cons_mk (shut_bool Ybum.underlying4 _) trodAll_mk0)))), rfl, bel.frame _, fun h => by cases h⟩

theorem over : Rows.lawS930015GSpecRow.holds Ybum.pinned (OpenSpec.ofChange Rows.lawS930015GSpecSpec) :=
  OpenClaim.holds_of_wide 7 Ybum.f7 rfl rfl rfl rfl rfl rfl rfl ⟨rfl, rfl, rfl, rfl, rfl⟩ rfl rfl rfl rfl rfl (by kernel_rfl) Ybum.func7 (by kernel_rfl)
    (of_decide_eq_true (by kernel_rfl)) (by unfold Func.isWrapper; first | (rw [if_pos (by decide +kernel)]; kernel_rfl) | (rw [if_neg (by decide +kernel)]; exact ⟨rfl, rfl⟩))
    (fun os started H enc _ => lifted os started H enc)

theorem proved : Rows.LawS930015GSpecSaid := over
end Go.Proofs.Ymbrbu.lawS930015GSpec
