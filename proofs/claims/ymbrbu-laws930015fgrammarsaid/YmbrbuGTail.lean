import Derived.Test.YmbrbuAppStr
import Derived.Laws.BytesArg
set_option linter.unusedVariables false
set_option linter.unusedSimpArgs false
set_option linter.unnecessarySimpa false
namespace Go.Proofs.Ymbrbu
open Go.RowKit

theorem sb_nums (bs : List Int) (h : ∀ c ∈ bs, 0 ≤ c ∧ c ≤ 255) : sb (strOfNums bs) = bs := by
  unfold sb
  rw [strOfNums_data, List.map_map]
  conv => rhs; rw [← List.map_id bs]
  refine List.map_congr_left fun c hc => ?_
  have := h c hc
  simp
  omega

/-- 'string(b)' -/
theorem conv_own {w : World} {base : Nat} {a : Option Addr} {n cap : Nat} {bs : List Int} (h : OwnB w base (.slice a n cap) bs) (hb : ∀ c ∈ bs, 0 ≤ c ∧ c ≤ 255) :
    ∃ s : ByteArray, (convert 22 9 (.slice a n cap)).run Ybum.prog w = .ok (.string s) w ∧ sb s = bs ∧ s.size = n := by
  obtain ⟨h1, h2, h3⟩ := h.len
  rcases h.2 with ⟨h0, h0'⟩ | ⟨g, cap', cur, hv, _⟩
  · simp at h0
    obtain ⟨rfl, rfl, rfl⟩ := h0
    have : bs = [] := List.eq_nil_of_length_eq_zero h1
    subst this
    exact ⟨ByteArray.empty, run_convert_bytes_nil w 22 5 Ybum.underlying22 Ybum.underlying5 0 0 9 Ybum.underlying9, rfl, rfl⟩
  · simp at hv
    obtain ⟨rfl, _, _⟩ := hv
    refine ⟨strOfNums bs, run_convert_bytes_arg w 22 5 Ybum.underlying22 Ybum.underlying5 g 0 n cap bs h1 (fun i hi => ?_) 9 Ybum.underlying9, sb_nums bs hb, by rw [strOfNums_size, h1]⟩
    rw [Nat.zero_add]
    exact h.cellsAt i (by omega)

set_option maxHeartbeats 400000 in
theorem gdigit_any (c : Int) (w : World) : Calls Ybum.prog 22 #[.int .u8 c] w fun e w' => e = .returned (.bool (Ex.isD c)) ∧ w' = w := by
  by_cases h1 : 48 ≤ c
  · by_cases h2 : c ≤ 57
    · rw [Ex.isD_iff.2 ⟨h1, h2⟩]
      go_enter Ybum.func22, Ybum.ntmps22
      go_wp2
      go_ret
      exact ⟨rfl, rfl⟩
    · rw [Ex.isD_not.2 (by omega)]
      have d2 : decide (c ≤ 57) = false := by simpa using h2
      clear h2
      go_enter Ybum.func22, Ybum.ntmps22
      go_wp2
      go_ret
      exact ⟨rfl, rfl⟩
  · rw [Ex.isD_not.2 (by omega)]
    have d2 : decide (48 ≤ c) = false := by simpa using h1
    clear h1
    go_enter Ybum.func22, Ybum.ntmps22
    go_wp2
    go_ret
    exact ⟨rfl, rfl⟩

set_option maxHeartbeats 1000000 in
theorem gtail_any (base : Nat) (b : Value) (bs : List Int) (post : ByteArray) (w : World) (hown : OwnB w base b bs) (hp : post.size ≤ 1024) (hl : bs.length < 100000000) (hbase : base ≤ w.heap.size) :
    Calls Ybum.prog 24 #[b, .string post] w fun e w' => ∃ v' T, e = .returned v' ∧ OwnB w' base v' (bs ++ T) ∧ Grew w w' b v' ∧ (T = [] ∨ Ex.isD (Ex.iAt T 0) = false) ∧ T.length ≤ 1025 ∧ (∀ c ∈ T, 0 ≤ c ∧ c ≤ 255) := by
  have hbt := sb_at post
  have HSL : Hid ((sb post).length = post.size) := sb_len post
  have HSB : Hid (∀ c ∈ sb post, 0 ≤ c ∧ c ≤ 255) := sb_byte post
  by_cases h0 : post.size = 0
  · have hd0 : decide ((0 : Int) < (post.size : Int)) = false := decide_eq_false (by omega)
    have HE : Hid (sb post = []) := List.eq_nil_of_length_eq_zero (by have := HSL.out; omega)
    go_enter Ybum.func24, Ybum.ntmps24
    go_wp2_with (first | (at_builtin; go_must (refine app_str _ rfl (.tmp 16) (.tmp 17) rfl base _ bs rfl hown post rfl (by omega) hbase ?_; intro v' w2 hown2 hold2 hgr)))
    go_ret
    exact ⟨_, sb post, rfl, hown2, hgr, .inl HE.out, by rw [HE.out]; simp, HSB.out⟩
  · have hpos : 0 < post.size := by omega
    have hd0 : (0 : Int) < (post.size : Int) := by omega
    cases hD : Ex.isD (Ex.iAt (sb post) 0) with
    | true =>
      go_enter Ybum.func24, Ybum.ntmps24
      go_wp2_with fail
      refine (gdigit_any _ _).mono ?_
      rw [hD]
      rintro e w' ⟨rfl, rfl⟩
      go_wp2_with (first
        | (at_builtin; refine app_int _ 22 5 .u8 1 Ybum.underlying22 Ybum.infoU8 (by omega) rfl (.tmp 13) (.tmp 14) rfl base _ bs rfl (hown.alloc _) _ 120 rfl (by simp) (by omega) (by simp; omega) ?_; intro v2 w2 hown2 hold2 hgr2; have hs2 := hgr2.after_alloc.size)
        | (at_builtin; refine app_str _ rfl (.tmp 16) (.tmp 17) rfl base _ (bs ++ [120]) rfl hown2 post rfl (by simp; omega) (by omega) ?_; intro v3 w3 hown3 hold3 hgr3))
      go_ret
      refine ⟨_, [120] ++ sb post, rfl, by rw [← List.append_assoc]; exact hown3, hgr2.after_alloc.trans hgr3, .inr (by simp [Ex.iAt]; decide), by have := HSL.out; simp; omega, ?_⟩
      intro c hc
      rcases List.mem_append.1 hc with h | h
      · simp at h; omega
      · exact HSB.out c h
    | false =>
      go_enter Ybum.func24, Ybum.ntmps24
      go_wp2_with fail
      refine (gdigit_any _ _).mono ?_
      rw [hD]
      rintro e w' ⟨rfl, rfl⟩
      go_wp2_with (first | (at_builtin; go_must (refine app_str _ rfl (.tmp 16) (.tmp 17) rfl base _ bs rfl hown post rfl (by omega) hbase ?_; intro v2 w2 hown2 hold2 hgr2)))
      go_ret
      exact ⟨_, sb post, rfl, hown2, hgr2, .inr hD, by have := HSL.out; omega, HSB.out⟩
end Go.Proofs.Ymbrbu
