import Derived.Test.YmbrbuFdecWalk
import Derived.Test.YmbrbuHFlat
set_option linter.unusedVariables false
set_option linter.unusedSimpArgs false
set_option linter.unnecessarySimpa false
namespace Go.Proofs.Ymbrbu
open Go.RowKit

theorem sb_inj {s t : ByteArray} (h : sb s = sb t) : s = t := by
  have hl : ∀ (a b : List UInt8), (a.map fun x => (x.toNat : Int)) = (b.map fun x => (x.toNat : Int)) → a = b := by
    intro a
    induction a with
    | nil => intro b hb; cases b with
      | nil => rfl
      | cons y b => simp at hb
    | cons x a ih =>
      intro b hb
      cases b with
      | nil => simp at hb
      | cons y b =>
        simp at hb
        have h1 : x = y := UInt8.toNat_inj.1 (by omega)
        rw [h1, ih b hb.2]
  have := hl _ _ h
  have h2 : s.data = t.data := Array.toList_inj.1 this
  cases s; cases t
  simp at h2
  rw [h2]
def dS (n : Nat) : ByteArray := ⟨((Ex.dg n).map fun c => UInt8.ofNat c.toNat).toArray⟩
theorem sb_dS (n : Nat) : sb (dS n) = Ex.dg n := by
  have hl : ∀ l : List Int, (∀ c ∈ l, 48 ≤ c ∧ c ≤ 57) → (l.map fun c => UInt8.ofNat c.toNat).map (fun b => (b.toNat : Int)) = l := by
    intro l
    induction l with
    | nil => intro _; rfl
    | cons c l ih =>
      intro h
      have h0 := h c (by simp)
      simp only [List.map_cons]
      rw [ih (fun x hx => h x (by simp [hx]))]
      congr 1
      simp
      omega
  simp only [sb, dS]
  exact hl _ (Ex.dg_dig n)
theorem fdec_fn (n : Nat) (w : World) (hn : n ≤ 18446744073709551615) : Calls Ybum.prog 19 #[.int .u64 n] w fun e w' => e = .returned (.string (dS n)) ∧ w' = w := by
  refine (fdec_any n w hn).mono ?_
  rintro e w' ⟨⟨t, rfl, ht⟩, rfl⟩
  exact ⟨by rw [sb_inj (ht.trans (sb_dS n).symm)], rfl⟩

theorem ap_codes' {op a b : Int} (h : 0 < Ex.prec op) : (Ex.ap op a b).2 = 0 ∨ ((Ex.ap op a b).1 = 0 ∧ ((Ex.ap op a b).2 = 3 ∨ (Ex.ap op a b).2 = 4)) := by
  have hf : ∀ r, (Ex.fit r).2 = 0 ∨ ((Ex.fit r).1 = 0 ∧ ((Ex.fit r).2 = 3 ∨ (Ex.fit r).2 = 4)) := fun r => by
    rcases Ex.fit_cases r with ⟨_, e⟩ | ⟨_, e⟩ <;> rw [e] <;> simp
  rcases Ex.prec_cases op with ⟨_, rfl | rfl⟩ | ⟨_, rfl | rfl⟩ | ⟨h0, _⟩
  · simpa [Ex.ap] using hf (a + b)
  · simpa [Ex.ap] using hf (a - b)
  · simpa [Ex.ap] using hf (a * b)
  · by_cases hb : b = 0
    · simp [Ex.ap, hb]
    · simpa [Ex.ap, hb] using hf (a.tdiv b)
  · omega
theorem bz_blanks : ∀ (B cs : List Int) (T : List (Int × Int)), (∀ c ∈ B, c = 32 ∨ c = 9) → bz (B ++ cs) T none = bz cs T none
  | [], cs, T, _ => rfl
  | c :: B, cs, T, h => by
    rw [List.cons_append, bz_blank _ _ (h c (by simp))]
    exact bz_blanks B cs T (fun x hx => h x (by simp [hx]))
theorem bz_num (n : Nat) (cs : List Int) (T : List (Int × Int)) (hn : n < 10 ^ 20) (h : ∀ c, cs.head? = some c → Ex.isD c = false) :
    bz (Ex.dg n ++ cs) T none = if n ≤ 9223372036854775807 then bz cs (T ++ [(48, (n : Int))]) none else (3, []) := by
  rw [bz_digits cs T (Ex.dg n) none (fun c hc => Ex.isD_iff.2 (Ex.dg_dig n c hc)) (by have := Ex.dg_pos n; intro e; rw [e] at this; simp at this)]
  show (if Ex.dval 0 (Ex.dg n) ≤ _ then _ else _) = _
  have e := Ex.dval_dg n hn
  by_cases hf : n ≤ 9223372036854775807
  · rw [if_pos (by rw [e]; exact hf), if_pos hf]
    show bz cs T (some (Ex.dval 0 (Ex.dg n))) = _
    rw [e, bz_flush T n h]
  · rw [if_neg (by rw [e]; exact hf), if_neg hf]
theorem blank_not {c : Int} (h : c = 32 ∨ c = 9) : Ex.isD c = false := by rw [Ex.isD_not]; omega
theorem evS_bad {bs : List Int} {c : Int} {ts : List (Int × Int)} (h : bz bs [] none = (c, ts)) (hc : c ≠ 0) : evS bs = (0, c) := by
  unfold evS; rw [h]; exact if_pos hc
theorem evS_good {bs : List Int} {ts p : List (Int × Int)} (h : bz bs [] none = (0, ts)) (ht : tp ts = some p) : evS bs = Ex.evP p := by
  unfold evS; rw [h]; simp [ht]
/-- the text of the law -/
theorem ev_bin (B : List Int) (a b : Nat) (o : Int) (hB : ∀ c ∈ B, c = 32 ∨ c = 9) (ha : a < 10 ^ 20) (hb : b < 10 ^ 20) (ho : 0 < Ex.prec o) :
    evS (B ++ Ex.dg a ++ B ++ [o] ++ B ++ Ex.dg b ++ B) = if a ≤ 9223372036854775807 ∧ b ≤ 9223372036854775807 then Ex.ap o a b else (0, 3) := by
  have hs : isSym o = true := by simp [isSym, ho]
  have hhead : ∀ (x : Int) (rest : List Int), Ex.isD x = false → ∀ c, (B ++ x :: rest).head? = some c → Ex.isD c = false := by
    intro x rest hx c hc
    cases B with
    | nil => simp at hc; subst hc; exact hx
    | cons y B => simp at hc; subst hc; exact blank_not (hB y (by simp))
  have hhead2 : ∀ c, B.head? = some c → Ex.isD c = false := by
    intro c hc
    cases B with
    | nil => cases hc
    | cons y B => simp at hc; subst hc; exact blank_not (hB y (by simp))
  have e1 : bz (B ++ Ex.dg a ++ B ++ [o] ++ B ++ Ex.dg b ++ B) [] none = if a ≤ 9223372036854775807 then (if b ≤ 9223372036854775807 then (0, [(48, (a : Int)), (o, 0), (48, (b : Int))]) else (3, [])) else (3, []) := by
    simp only [List.append_assoc, List.cons_append, List.nil_append]
    rw [bz_blanks B _ _ hB, bz_num a _ _ ha (hhead o _ (sym_not hs).2)]
    by_cases h1 : a ≤ 9223372036854775807
    · rw [if_pos h1, if_pos h1, bz_blanks B _ _ hB, bz_sym _ _ hs, bz_blanks B _ _ hB, bz_num b _ _ hb hhead2]
      by_cases h2 : b ≤ 9223372036854775807
      · rw [if_pos h2, if_pos h2]
        have := bz_blanks B [] ([] ++ [((48 : Int), (a : Int))] ++ [(o, 0)] ++ [(48, (b : Int))]) hB
        rw [List.append_nil] at this
        rw [this]
        simp [bz, flush]
      · rw [if_neg h2, if_neg h2]
    · rw [if_neg h1, if_neg h1]
  by_cases h1 : a ≤ 9223372036854775807
  · rw [if_pos h1] at e1
    by_cases h2 : b ≤ 9223372036854775807
    · rw [if_pos h2] at e1
      rw [if_pos (And.intro h1 h2)]
      have hn := prec_ne ho
      have ht : tp [(48, (a : Int)), (o, 0), (48, (b : Int))] = some [(48, (a : Int)), (48, (b : Int)), (o, 0)] := by
        have h1p : ge 1 (o, 0) = true := by simp [ge]; omega
        unfold tp
        simp only [tpRun, tpStep_num, Option.bind_some]
        rw [tpStep_op _ _ _ _ ho]
        simp only [Option.bind_some, List.takeWhile, List.dropWhile, tpStep_num]
        simp [tpEnd, List.takeWhile, List.dropWhile, h1p]
      rw [evS_good e1 ht]
      unfold Ex.evP
      rw [if_pos (by simp [Ex.vpB, Ex.vrun, hn.1, ho])]
      rw [Ex.er_num rfl, Ex.er_num rfl]
      by_cases h0 : (Ex.ap o a b).2 = 0
      · rw [Ex.er_ok hn.1 h0]
        show ((Ex.ap o a b).1, (0 : Int)) = _
        rw [← h0]
      · rw [Ex.er_fail hn.1 h0]
        rcases ap_codes' (a := a) (b := b) ho with h | h
        · exact absurd h h0
        · rw [← h.1]
    · rw [if_neg h2] at e1
      rw [if_neg (fun h => h2 h.2)]
      exact evS_bad e1 (by decide)
  · rw [if_neg h1] at e1
    rw [if_neg (fun h => h1 h.1)]
    exact evS_bad e1 (by decide)
end Go.Proofs.Ymbrbu
