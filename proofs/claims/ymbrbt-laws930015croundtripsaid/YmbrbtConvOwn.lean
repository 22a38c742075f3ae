import Derived.Test.YmbrbtOwnInt
import Derived.Test.YmbrbtScanWalk
import Derived.Laws.BytesArg
set_option linter.unusedVariables false
set_option linter.unusedSimpArgs false
set_option linter.unnecessarySimpa false
namespace Go.Proofs.Ymbrbt
open Go.RowKit

theorem sb_nums (bs : List Int) (h : ∀ c ∈ bs, 0 ≤ c ∧ c ≤ 255) : sb (strOfNums bs) = bs := by
  unfold sb
  rw [strOfNums_data, List.map_map]
  conv => rhs; rw [← List.map_id bs]
  refine List.map_congr_left fun c hc => ?_
  have := h c hc
  simp
  omega

/-- 'string(b)' -/
theorem conv_own {w : World} {base : Nat} {a : Option Addr} {n cap : Nat} {bs : List Int} (h : OwnB w base (.slice a n cap) bs) (hb : ∀ c ∈ bs, 0 ≤ c ∧ c ≤ 255) :
    ∃ s : ByteArray, (convert 39 9 (.slice a n cap)).run Ybtm.prog w = .ok (.string s) w ∧ sb s = bs ∧ s.size = n := by
  obtain ⟨h1, h2, h3⟩ := h.len
  rcases h.2 with ⟨h0, h0'⟩ | ⟨g, cap', cur, hv, _⟩
  · simp at h0
    obtain ⟨rfl, rfl, rfl⟩ := h0
    have : bs = [] := List.eq_nil_of_length_eq_zero h1
    subst this
    exact ⟨ByteArray.empty, run_convert_bytes_nil w 39 5 Ybtm.underlying39 Ybtm.underlying5 0 0 9 Ybtm.underlying9, rfl, rfl⟩
  · simp at hv
    obtain ⟨rfl, _, _⟩ := hv
    refine ⟨strOfNums bs, run_convert_bytes_arg w 39 5 Ybtm.underlying39 Ybtm.underlying5 g 0 n cap bs h1 (fun i hi => ?_) 9 Ybtm.underlying9, sb_nums bs hb, by rw [strOfNums_size, h1]⟩
    rw [Nat.zero_add]
    exact h.cellsAt i (by omega)
end Go.Proofs.Ymbrbt
