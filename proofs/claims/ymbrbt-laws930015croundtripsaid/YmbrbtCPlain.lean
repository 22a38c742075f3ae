/- plain: Format's text -/
import Derived.Test.YmbrbtBz
set_option linter.unusedVariables false
set_option linter.unusedSimpArgs false
set_option linter.unnecessarySimpa false
namespace Go.Proofs.Ymbrbt
open Go.RowKit

def lawB (t : Int × Int) : Bool := if t.1 = 48 then decide (0 ≤ t.2) else isSym t.1 && decide (t.2 = 0)
def spell (t : Int × Int) : List Int := if t.1 = 48 then Ex.dg t.2.toNat else [t.1]
/-- every token followed by a blank -/
def blanked (ts : List (Int × Int)) : List Int := ts.flatMap fun t => spell t ++ [32]
def joined (ts : List (Int × Int)) : List Int := (blanked ts).dropLast
theorem blanked_snoc (ts : List (Int × Int)) (t : Int × Int) : blanked (ts ++ [t]) = blanked ts ++ spell t ++ [32] := by simp [blanked]
theorem joined_snoc (ts : List (Int × Int)) (t : Int × Int) : joined (ts ++ [t]) = blanked ts ++ spell t := by
  rw [joined, blanked_snoc, List.dropLast_concat]
theorem blanked_joined (ts : List (Int × Int)) (h : ts ≠ []) : blanked ts = joined ts ++ [32] := by
  obtain ⟨a, t, rfl⟩ : ∃ a t, ts = a ++ [t] := ⟨ts.dropLast, ts.getLast h, (List.dropLast_concat_getLast h).symm⟩
  rw [blanked_snoc, joined_snoc]
theorem spell_len (t : Int × Int) : (spell t).length ≤ 20 := by
  unfold spell; split
  · exact Ex.dg_len20 _
  · simp
theorem blanked_len : ∀ ts : List (Int × Int), (blanked ts).length ≤ 21 * ts.length
  | [] => by simp [blanked]
  | t :: ts => by
    have := blanked_len ts
    have h2 := spell_len t
    simp [blanked] at this ⊢
    omega
theorem joined_len (ts : List (Int × Int)) : (joined ts).length ≤ 21 * ts.length := by
  have := blanked_len ts
  unfold joined; simp; omega
theorem spell_byte {t : Int × Int} (h : 0 ≤ t.1 ∧ t.1 ≤ 255) : ∀ c ∈ spell t, 0 ≤ c ∧ c ≤ 255 := by
  unfold spell; split
  · intro c hc; have := Ex.dg_dig _ c hc; omega
  · intro c hc; simp at hc; subst hc; exact h
theorem blanked_byte {ts : List (Int × Int)} (h : ∀ t ∈ ts, 0 ≤ t.1 ∧ t.1 ≤ 255) : ∀ c ∈ blanked ts, 0 ≤ c ∧ c ≤ 255 := by
  intro c hc
  simp only [blanked, List.mem_flatMap, List.mem_append] at hc
  obtain ⟨t, ht, hc | hc⟩ := hc
  · exact spell_byte (h t ht) c hc
  · simp at hc; omega
theorem joined_byte {ts : List (Int × Int)} (h : ∀ t ∈ ts, 0 ≤ t.1 ∧ t.1 ≤ 255) : ∀ c ∈ joined ts, 0 ≤ c ∧ c ≤ 255 := fun c hc => blanked_byte h c (List.dropLast_subset _ hc)

/-- the text read again -/
theorem bz_spell (t : Int × Int) (cs : List Int) (T : List (Int × Int)) (hl : lawB t = true) (hi : t.2 ≤ 9223372036854775807) (hd : ∀ c, cs.head? = some c → Ex.isD c = false) : bz (spell t ++ cs) T none = bz cs (T ++ [t]) none := by
  obtain ⟨k, v⟩ := t
  unfold lawB at hl
  unfold spell
  simp only at hl hi ⊢
  split at hl
  · rename_i h48
    subst h48
    simp only [if_true]
    have h0 : 0 ≤ v := of_decide_eq_true hl
    rw [bz_digits cs T _ none (fun c hc => Ex.isD_iff.2 (Ex.dg_dig _ c hc)) (by have := Ex.dg_pos v.toNat; intro e; rw [e] at this; simp at this)]
    show (if Ex.dval 0 (Ex.dg v.toNat) ≤ _ then bz _ _ (some (Ex.dval 0 (Ex.dg v.toNat))) else _) = _
    rw [Ex.dval_dg _ (by omega), if_pos (by omega), bz_flush T _ hd, Int.toNat_of_nonneg h0]
  · rename_i h48
    rw [if_neg h48]
    simp at hl
    rw [List.singleton_append, bz_sym _ _ hl.1, hl.2]
theorem bz_blanked : ∀ (ts : List (Int × Int)) (cs : List Int) (T : List (Int × Int)), (∀ t ∈ ts, lawB t = true ∧ t.2 ≤ 9223372036854775807) → bz (blanked ts ++ cs) T none = bz cs (T ++ ts) none
  | [], cs, T, _ => by simp [blanked]
  | t :: ts, cs, T, h => by
    have h0 := h t (by simp)
    have e : blanked (t :: ts) ++ cs = spell t ++ (32 :: (blanked ts ++ cs)) := by simp [blanked]
    rw [e, bz_spell t _ T h0.1 h0.2 (fun c hc => by simp at hc; subst hc; decide), bz_blank _ _ (.inl rfl), bz_blanked ts cs _ (fun x hx => h x (by simp [hx]))]
    simp
theorem bz_joined (ts : List (Int × Int)) (h : ∀ t ∈ ts, lawB t = true ∧ t.2 ≤ 9223372036854775807) : bz (joined ts) [] none = (0, ts) := by
  rcases List.eq_nil_or_concat ts with rfl | ⟨a, t, rfl⟩
  · simp [joined, blanked, bz, flush]
  · rw [List.concat_eq_append] at h ⊢
    have ht := h t (by simp)
    rw [joined_snoc, bz_blanked a _ [] (fun x hx => h x (by simp [hx]))]
    have := bz_spell t [] ([] ++ a) ht.1 ht.2 (fun c hc => by cases hc)
    rw [List.append_nil] at this
    rw [this]
    simp [bz, flush]

/-! ### the items -/
def symK (x : Int) : Int := if x % 6 = 0 then 43 else if x % 6 = 1 then 45 else if x % 6 = 2 then 42 else if x % 6 = 3 then 47 else if x % 6 = 4 then 40 else 41
def goodT (s v : Int) : Int × Int := if s % 2 = 1 then (symK (s / 2), 0) else (48, if v < 0 then -1 - v else v)
def rawT (q : Int × Int × Int) : Int × Int := if q.1 % 4 = 0 then (48, q.2.2) else if q.1 % 4 = 1 then (symK q.2.1, q.2.2) else if q.1 % 4 = 2 then goodT q.2.1 q.2.2 else (q.2.1, q.2.2)
theorem symK_sym (x : Int) : isSym (symK x) = true := by
  unfold symK
  repeat' split
  all_goals decide
theorem symK_ne (x : Int) : symK x ≠ 48 := by
  unfold symK
  repeat' split
  all_goals decide
theorem symK_byte (x : Int) : 0 ≤ symK x ∧ symK x ≤ 255 := by
  unfold symK
  repeat' split
  all_goals omega
theorem goodT_law {s v : Int} (hv : Ex.inI v) : lawB (goodT s v) = true ∧ (goodT s v).2 ≤ 9223372036854775807 := by
  unfold Ex.inI at hv
  unfold goodT
  split
  · exact ⟨by simp [lawB, symK_ne, symK_sym], by simp⟩
  · refine ⟨?_, ?_⟩
    · simp only [lawB]
      rw [if_pos trivial]
      apply decide_eq_true
      split <;> omega
    · show (if v < 0 then -1 - v else v) ≤ _
      split <;> omega
theorem goodT_ok {s v : Int} (hv : Ex.inI v) : 0 ≤ (goodT s v).1 ∧ (goodT s v).1 ≤ 255 ∧ Ex.inI (goodT s v).2 := by
  unfold Ex.inI at *
  unfold goodT
  have := symK_byte (s / 2)
  split
  · exact ⟨this.1, this.2, by simp⟩
  · refine ⟨by simp, by simp, ?_⟩
    show _ ≤ (if v < 0 then -1 - v else v) ∧ (if v < 0 then -1 - v else v) ≤ _
    split <;> omega
end Go.Proofs.Ymbrbt
