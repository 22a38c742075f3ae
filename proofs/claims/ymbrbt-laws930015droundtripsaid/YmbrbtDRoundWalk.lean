import Derived.Test.YmbrbtDBuildWalk
import Derived.Test.YmbrbtDeqWalk
set_option linter.unusedVariables false
set_option linter.unusedSimpArgs false
set_option linter.unnecessarySimpa false
namespace Go.Proofs.Ymbrbt
open Go.RowKit

set_option maxRecDepth 100000 in
set_option maxHeartbeats 8000000 in
theorem dround_any (a : Option Addr) (n cap : Nat) (rs : List Tk) (w : World) (ht : Toks w a n cap rs) (hok : TokOk rs) :
    Calls Ybtm.prog 12 #[.slice a n cap] w fun e w' => e = .returned (.bool true) ∧ Below w.heap.size w w' := by
  have hnc := ht.2.1
  have hcm := ht.2.2.1
  unfold maxLen at hcm
  have HT : Hid (Toks w a n cap rs) := ht
  have HOK : Hid (TokOk rs) := hok
  have hln := ht.1
  clear ht hok
  by_cases hbig : 512 < n
  · go_enter Ybtm.func12, Ybtm.ntmps12
    go_wp2_with fail
    go_ret
    exact ⟨rfl, Below.refl _ _⟩
  have d0 : decide ((512 : Int) < (n : Int)) = false := decide_eq_false (by omega)
  obtain ⟨hvp, hdl⟩ := dB_ok rs
  rw [hln] at hdl
  have HVP : Hid (Ex.vpB (dB rs) = true) := hvp
  have HDL : Hid ((dB rs).length ≤ 2 * n + 1) := hdl
  clear hvp hdl hln
  go_enter Ybtm.func12, Ybtm.ntmps12
  go_wp2_with fail
  refine (dbuild_any a n cap rs w HT.out HOK.out (by omega)).mono ?_
  rintro e w1 ⟨v1, rfl, hown1, hb1⟩
  obtain ⟨a1, c1, rfl, hn1, ht1⟩ := hown1.toks'
  obtain ⟨L1, hL1⟩ : ∃ L1, (dB rs).length = L1 := ⟨_, rfl⟩
  have hL1b : L1 ≤ 2 * n + 1 := by have := HDL.out; omega
  rw [hL1] at ht1 ⊢
  have HL1 : Hid ((dB rs).length = L1) := hL1
  clear hown1 hL1
  go_wp2_with fail
  refine (toinfix_any a1 L1 c1 (dB rs) w1 ht1 (by omega)).mono ?_
  rintro e w2 ⟨v2, b2, rfl, hb2, hr2⟩
  have hz : b2 = true ∧ ∃ I, PX (dB rs) I ∧ OwnT w2 w1.heap.size v2 I := by
    rcases hr2 with ⟨h1, _⟩ | ⟨_, h1, h2⟩
    · rw [HVP.out] at h1; cases h1
    · exact ⟨h1, h2⟩
  obtain ⟨rfl, I, hpx, hI⟩ := hz
  obtain ⟨a2, c2, rfl, hn2, ht2⟩ := hI.toks'
  have HTP : Hid (tp I = some (dB rs)) := hpx.tp
  have hIl : I.length ≤ 3 * L1 := by have := hpx.len_le; rw [HL1.out] at this; exact this
  obtain ⟨L2, hL2⟩ : ∃ L2, I.length = L2 := ⟨_, rfl⟩
  rw [hL2] at ht2 hIl ⊢
  have hx2 := hb1.trans (hb2.mono hb1.size)
  clear hr2 hI hpx hL2
  go_wp2_with fail
  refine (topost_any a2 L2 c2 I w2 ht2 (by omega)).mono ?_
  rintro e w3 ⟨v3, k3, rfl, hb3, hr3⟩
  have hx3 := hx2.trans (hb3.mono hx2.size)
  have hz : k3 = 0 ∧ OwnT w3 w2.heap.size v3 (dB rs) := by
    rcases hr3 with ⟨h1, _⟩ | ⟨out, h1, h2, h3⟩
    · rw [HTP.out] at h1; cases h1
    · rw [HTP.out] at h1; cases h1; exact ⟨h2, h3⟩
  obtain ⟨rfl, hown3⟩ := hz
  clear hr3
  have HT3 := HT.out.below hx3
  obtain ⟨L3, c3, hv3⟩ : ∃ a c, v3 = .slice a L1 c := by
    obtain ⟨a, c, e, _⟩ := hown3.toks'
    exact ⟨a, c, by rw [e, HL1.out]⟩
  subst hv3
  go_wp2_with fail
  refine (dbuild_any a n cap rs w3 HT3 HOK.out (by omega)).mono ?_
  rintro e w4 ⟨v4, rfl, hown4, hb4⟩
  have hx4 := hx3.trans (hb4.mono hx3.size)
  have ht3 := (hown3.below hb4).toksAt
  obtain ⟨a4, c4, rfl, hn4, ht4⟩ := hown4.toks'
  rw [HL1.out] at ht4 ⊢
  clear hown4 hown3
  go_wp2_with fail
  refine (deq_any L3 a4 L1 L1 c3 c4 (dB rs) (dB rs) w4 ht3 ht4).mono ?_
  rintro e w5 ⟨rfl, hb5⟩
  have d3 : decide (dB rs = dB rs) = true := by simp
  rw [d3]
  go_wp2_with fail
  go_ret
  exact ⟨rfl, hx4.trans (hb5.mono hx4.size)⟩
end Go.Proofs.Ymbrbt
