import Derived.Test.YmbrbuRows
import Derived.WalkKit
import Derived.ProofKit
import Derived.OpenShut
import Derived.ShutString
import Derived.ChangeOld
import Derived.Below
import Derived.Test.YmbrbuHTreeWalk
namespace Go.Proofs.Ymbrbu.lawS930015HTree
open Go.ChangeShapes Go.WideShapes Go.ChangeAt Go.RowKit
open Go.ChangeMaps (open_string shut_string)
set_option linter.unusedVariables false

theorem own : ownKnob Ybum.prog.godebug = none := by kernel_rfl
theorem laidOut : laidOutB Ybum.prog = true := by kernel_rfl

theorem walk (a0 : Int) (a1 : Option Addr) (len1 cap1 : Nat) (z1 : List (Int × Int)) (w : World) (w0 : (Lit.int .i64 a0).wf = true) (w1 : Toks w a1 len1 cap1 z1) (o1 : TokOk z1) :
    Calls Ybum.prog 12 #[.int .i64 a0, .slice a1 len1 cap1] w fun e w' => e = .returned (.bool true) ∧ Below w.heap.size w w' := by
  exact htree_any a0 a1 len1 cap1 z1 w w1 o1

set_option maxRecDepth 100000 in
theorem lifted (os : Os) (started : os.Started) (H : Type) (enc : TypeId × Value → H) :
    ReturnsInHanded {} Ybum.checked os 12 .any (Rows.lawS930015HTreeSpec.pre6 enc Ybum.prog Ybum.f12 Rows.lawS930015HTreeRow.domain false) (Rows.lawS930015HTreeSpec.post enc Ybum.prog Ybum.f12 false true false false) := by
  refine returnsInHanded_of_change (C := Ybum.checked) own started (by kernel_rfl) Ybum.func12
    (ChangeSpec.witness6 (enc := enc) (C := Ybum.checked) false ⟨#[], #[.int .i64 0, .slice none 0 0], []⟩ 8 (by kernel_rfl) (by kernel_rfl) (by kernel_rfl) (by kernel_rfl)) ?_
  intro W base args ds gs before hval0 hW hcnd _
  have hval : ∀ (j : Nat) t v, Ybum.f12.params[j]? = some t → args[j]? = some v → Value.okWide Ybum.prog W .any base t v := hval0
  have hW' := hW
  obtain ⟨p, q, hA0, hV, rfl, hfz, hnd⟩ := hW
  have hA : DataW.TrodAll enc Ybum.prog W 0 (fun _ => true) true Ybum.f12.params.toList args.toList ds p := hA0
  rw [Ybum.params12] at hA hval
  obtain ⟨v0, vs0, d0, ds0, p0, q0, hargs, rfl, rfl, h0, r0⟩ := trodAll_cons hA
  obtain ⟨v1, vs1, d1, ds1, p1, q1, rfl, rfl, rfl, h1, r1⟩ := trodAll_cons r0
  obtain ⟨rfl, rfl, rfl⟩ := trodAll_nil r1
  obtain rfl : args = #[v0, v1] := by cases args; simp_all
  obtain ⟨rfl, rfl⟩ := trodVars_none hV
  obtain ⟨a0, rfl, rfl, rfl, w0⟩ := open_int Ybum.underlying2 (hval 0 2 v0 rfl rfl) h0
  obtain ⟨a1, len1, cap1, rfl⟩ := okWide_slice Ybum.underlying50 (hval 1 50 v1 rfl rfl)
  have k1 := h1
  have lt1 : ∀ x ∈ p1, x.block < W.heap.size := by obtain ⟨m, hm⟩ := k1; exact DataW.trod_lt m _ _ _ hm
  obtain ⟨z1, w1, o1⟩ : ∃ ts, Toks W a1 len1 cap1 ts ∧ TokOk ts := by
    obtain ⟨fuel, hf⟩ := h1
    exact open_pairs Ybum.underlying50 Ybum.underlying61 (by kernel_rfl) rfl rfl (by kernel_rfl) (by kernel_rfl) (by kernel_rfl) (by kernel_rfl) hf
  clear hA0 hval0
  refine (walk a0 a1 len1 cap1 z1 W w0 w1 o1).mono fun e W' ⟨he, bel⟩ => ?_
  subst he
  exact ⟨_, rfl, _, _, _, [], _, [], hW', trodAll_mk1 (shut_bool Ybum.underlying4 _), (trodAll_cons_mk (shut_int Ybum.underlying2 w0) (trodAll_cons_mk (Below.trod laidOut (by kernel_rfl) (of_decide_eq_true (by kernel_rfl)) k1 bel lt1) trodAll_mk0)), rfl, bel.frame _, fun h => by cases h⟩

theorem over : Rows.lawS930015HTreeRow.holds Ybum.pinned (OpenSpec.ofChange Rows.lawS930015HTreeSpec) :=
  OpenClaim.holds_of_wide 12 Ybum.f12 rfl rfl rfl rfl rfl rfl rfl ⟨rfl, rfl, rfl, rfl, rfl⟩ rfl rfl rfl rfl rfl (by kernel_rfl) Ybum.func12 (by kernel_rfl)
    (of_decide_eq_true (by kernel_rfl)) (by unfold Func.isWrapper; first | (rw [if_pos (by decide +kernel)]; kernel_rfl) | (rw [if_neg (by decide +kernel)]; exact ⟨rfl, rfl⟩))
    (fun os started H enc _ => lifted os started H enc)

theorem proved : Rows.LawS930015HTreeSaid := over
end Go.Proofs.Ymbrbu.lawS930015HTree
