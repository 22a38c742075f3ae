import Derived.Test.YmbrbuRows
import Derived.WalkKit
import Derived.ProofKit
import Derived.OpenShut
import Derived.ShutString
import Derived.ChangeOld
import Derived.Below
import Derived.Test.YmbrbuGRtWalk
namespace Go.Proofs.Ymbrbu.lawS930015GRoundTrip
open Go.ChangeShapes Go.WideShapes Go.ChangeAt Go.RowKit
open Go.ChangeMaps (open_string shut_string)
set_option linter.unusedVariables false

theorem own : ownKnob Ybum.prog.godebug = none := by kernel_rfl
theorem laidOut : laidOutB Ybum.prog = true := by kernel_rfl

theorem walk (a0 : Int) (a1 : Bool) (a2 : Int) (a3 : ByteArray) (a4 : ByteArray) (w : World) (w0 : (Lit.int .u64 a0).wf = true) (w2 : (Lit.int .u8 a2).wf = true) (w3 : a3.size ≤ maxLen) (w4 : a4.size ≤ maxLen) :
    Calls Ybum.prog 9 #[.int .u64 a0, .bool a1, .int .u8 a2, .string a3, .string a4] w fun e w' => e = .returned (.bool true) ∧ Below w.heap.size w w' := by
  have b0 := bounds_u64 w0
  have b2 := bounds_u8 w2
  obtain ⟨B, rfl⟩ : ∃ B : Nat, a0 = (B : Int) := ⟨a0.toNat, by omega⟩
  exact groundtrip_any B a1 a2 a3 a4 w (by omega) b2.1 b2.2 w3 w4

set_option maxRecDepth 100000 in
theorem lifted (os : Os) (started : os.Started) (H : Type) (enc : TypeId × Value → H) :
    ReturnsInHanded {} Ybum.checked os 9 .any (Rows.lawS930015GRoundTripSpec.pre6 enc Ybum.prog Ybum.f9 Rows.lawS930015GRoundTripRow.domain false) (Rows.lawS930015GRoundTripSpec.post enc Ybum.prog Ybum.f9 false true false false) := by
  refine returnsInHanded_of_change (C := Ybum.checked) own started (by kernel_rfl) Ybum.func9
    (ChangeSpec.witness6 (enc := enc) (C := Ybum.checked) false ⟨#[], #[.int .u64 0, .bool false, .int .u8 0, .string ByteArray.empty, .string ByteArray.empty], []⟩ 8 (by kernel_rfl) (by kernel_rfl) (by kernel_rfl) (by kernel_rfl)) ?_
  intro W base args ds gs before hval0 hW hcnd _
  have hval : ∀ (j : Nat) t v, Ybum.f9.params[j]? = some t → args[j]? = some v → Value.okWide Ybum.prog W .any base t v := hval0
  have hW' := hW
  obtain ⟨p, q, hA0, hV, rfl, hfz, hnd⟩ := hW
  have hA : DataW.TrodAll enc Ybum.prog W 0 (fun _ => true) true Ybum.f9.params.toList args.toList ds p := hA0
  rw [Ybum.params9] at hA hval
  obtain ⟨v0, vs0, d0, ds0, p0, q0, hargs, rfl, rfl, h0, r0⟩ := trodAll_cons hA
  obtain ⟨v1, vs1, d1, ds1, p1, q1, rfl, rfl, rfl, h1, r1⟩ := trodAll_cons r0
  obtain ⟨v2, vs2, d2, ds2, p2, q2, rfl, rfl, rfl, h2, r2⟩ := trodAll_cons r1
  obtain ⟨v3, vs3, d3, ds3, p3, q3, rfl, rfl, rfl, h3, r3⟩ := trodAll_cons r2
  obtain ⟨v4, vs4, d4, ds4, p4, q4, rfl, rfl, rfl, h4, r4⟩ := trodAll_cons r3
  obtain ⟨rfl, rfl, rfl⟩ := trodAll_nil r4
  obtain rfl : args = #[v0, v1, v2, v3, v4] := by cases args; simp_all
  obtain ⟨rfl, rfl⟩ := trodVars_none hV
  obtain ⟨a0, rfl, rfl, rfl, w0⟩ := open_int Ybum.underlying33 (hval 0 33 v0 rfl rfl) h0
  obtain ⟨a1, rfl, rfl, rfl⟩ := open_bool Ybum.underlying4 (hval 1 4 v1 rfl rfl) h1
  obtain ⟨a2, rfl, rfl, rfl, w2⟩ := open_int Ybum.underlying5 (hval 2 5 v2 rfl rfl) h2
  obtain ⟨a3, rfl, rfl, rfl, w3⟩ := open_string Ybum.underlying9 (hval 3 9 v3 rfl rfl) h3
  obtain ⟨a4, rfl, rfl, rfl, w4⟩ := open_string Ybum.underlying9 (hval 4 9 v4 rfl rfl) h4
  clear hA0 hval0
  refine (walk a0 a1 a2 a3 a4 W w0 w2 w3 w4).mono fun e W' ⟨he, bel⟩ => ?_
  subst he
  exact ⟨_, rfl, _, _, _, [], _, [], hW', trodAll_mk1 (shut_bool Ybum.underlying4 _), (trodAll_cons_mk (shut_int Ybum.underlying33 w0) (trodAll_cons_mk (shut_bool Ybum.underlying4 _) (trodAll_cons_mk (shut_int Ybum.underlying5 w2) (trodAll_cons_mk (shut_string Ybum.underlying9 w3) (trodAll_cons_mk (shut_string Ybum.underlying9 w4) trodAll_mk0))))), rfl, bel.frame _, fun h => by cases h⟩

theorem over : Rows.lawS930015GRoundTripRow.holds Ybum.pinned (OpenSpec.ofChange Rows.lawS930015GRoundTripSpec) :=
  OpenClaim.holds_of_wide 9 Ybum.f9 rfl rfl rfl rfl rfl rfl rfl ⟨rfl, rfl, rfl, rfl, rfl⟩ rfl rfl rfl rfl rfl (by kernel_rfl) Ybum.func9 (by kernel_rfl)
    (of_decide_eq_true (by kernel_rfl)) (by unfold Func.isWrapper; first | (rw [if_pos (by decide +kernel)]; kernel_rfl) | (rw [if_neg (by decide +kernel)]; exact ⟨rfl, rfl⟩))
    (fun os started H enc _ => lifted os started H enc)

theorem proved : Rows.LawS930015GRoundTripSaid := over
end Go.Proofs.Ymbrbu.lawS930015GRoundTrip
