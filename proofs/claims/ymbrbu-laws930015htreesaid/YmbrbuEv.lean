/- plain: what EvalPostfix answers -/
import Derived.Test.YmbrbuTok
import Derived.Test.YmbrbuArith
set_option linter.unusedVariables false
set_option linter.unusedSimpArgs false
set_option linter.unnecessarySimpa false
namespace Ex
/-- the stack machine, the top first -/
def er : List Int → List (Int × Int) → Int × Int
  | st, [] => (st.headD 0, 0)
  | st, t :: ts => if t.1 = 48 then er (t.2 :: st) ts else
      match st with
      | b :: a :: r => if (ap t.1 a b).2 = 0 then er ((ap t.1 a b).1 :: r) ts else (0, (ap t.1 a b).2)
      | _ => (0, 2)
def evP (ts : List (Int × Int)) : Int × Int := if vpB ts = true then er [] ts else (0, 2)
theorem er_num {st : List Int} {k v : Int} {ts : List (Int × Int)} (h : k = 48) : er st ((k, v) :: ts) = er (v :: st) ts := by
  rw [er.eq_def]; simp [h]
theorem er_ok {a b k v : Int} {r : List Int} {ts : List (Int × Int)} (h : k ≠ 48) (h0 : (ap k a b).2 = 0) : er (b :: a :: r) ((k, v) :: ts) = er ((ap k a b).1 :: r) ts := by
  rw [er.eq_def]; simp [h, h0]
theorem er_fail {a b k v : Int} {r : List Int} {ts : List (Int × Int)} (h : k ≠ 48) (h0 : (ap k a b).2 ≠ 0) : er (b :: a :: r) ((k, v) :: ts) = (0, (ap k a b).2) := by
  rw [er.eq_def]; simp [h, h0]
theorem er_nil (st : List Int) : er st [] = (st.headD 0, 0) := by rw [er.eq_def]
/-- the row of a stack -/
theorem two_at (r : List Int) (a b : Int) : iAt (r.reverse ++ [a, b]) r.length = a ∧ iAt (r.reverse ++ [a, b]) (r.length + 1) = b := by
  have h1 := iAt_app' r.reverse [a, b] 0
  have h2 := iAt_app' r.reverse [a, b] 1
  rw [List.length_reverse] at h1 h2
  exact ⟨by simpa [iAt] using h1, by simpa [iAt] using h2⟩
theorem two_set (r : List Int) (a b v : Int) : ((r.reverse ++ [a, b]).set r.length v).take (r.length + 1) = (v :: r).reverse := by
  have h : (r.reverse ++ [a, b]).set r.length v = r.reverse ++ [v] ++ [b] := by
    rw [List.set_append_right _ _ (by simp)]
    simp
  rw [h]
  have : (r.reverse ++ [v]).length = r.length + 1 := by simp
  rw [← this, List.take_left]
  simp

/-! ### valid expressions, taken apart -/
theorem vrun_pos (q : List (Int × Int)) : ∀ d m, 1 ≤ d → vrun d q = some m → 1 ≤ m := by
  induction q with
  | nil => intro d m h1 h; simp [vrun] at h; omega
  | cons t q ih =>
    intro d m h1 h
    simp only [vrun] at h
    split at h
    · exact ih _ _ (by omega) h
    · split at h
      · rename_i hp; exact ih _ _ (by omega) h
      · cases h
theorem vrun_zero (q : List (Int × Int)) (h : vrun 0 q = some 0) : q = [] := by
  cases q with
  | nil => rfl
  | cons t q =>
    simp only [vrun] at h
    split at h
    · have := vrun_pos q _ _ (by omega) h; omega
    · split at h
      · omega
      · cases h
/-- the last token of a run that goes through -/
theorem vrun_last (q : List (Int × Int)) (t : Int × Int) (d m : Nat) (h : vrun d (q ++ [t]) = some m) :
    (t.1 = 48 ∧ 1 ≤ m ∧ vrun d q = some (m - 1)) ∨ (t.1 ≠ 48 ∧ 0 < prec t.1 ∧ 1 ≤ m ∧ vrun d q = some (m + 1)) := by
  rw [vrun_append] at h
  cases hq : vrun d q with
  | none => rw [hq] at h; cases h
  | some e =>
    rw [hq] at h
    simp only [Option.bind_some, vrun] at h
    split at h
    · rename_i h48
      left
      simp at h
      exact ⟨h48, by omega, by congr 1; omega⟩
    · rename_i h48
      split at h
      · rename_i hp
        right
        simp at h
        exact ⟨h48, hp.1, by omega, by congr 1; omega⟩
      · cases h
theorem snoc_of (q : List (Int × Int)) (h : q ≠ []) : ∃ q' t, q = q' ++ [t] := ⟨q.dropLast, q.getLast h, (List.dropLast_concat_getLast h).symm⟩
theorem valid_cat {a b : List (Int × Int)} {m : Nat} (ha : vrun 0 a = some m) (hb : vrun 0 b = some 1) : vrun 0 (a ++ b) = some (m + 1) := by
  rw [vrun_append, ha]
  have := vrun_shift b 0 1 m hb
  simp only [Option.bind_some]
  rw [Nat.zero_add] at this
  rw [this, Nat.add_comm]
/-- the last expression on the stack is split off -/
theorem split_last : ∀ (n : Nat) (q : List (Int × Int)) (m : Nat), q.length ≤ n → vrun 0 q = some (m + 1) → ∃ a b, q = a ++ b ∧ vrun 0 a = some m ∧ vrun 0 b = some 1 := by
  intro n
  induction n with
  | zero =>
    intro q m hl h
    have : q = [] := List.eq_nil_of_length_eq_zero (by omega)
    subst this
    simp [vrun] at h
  | succ n ih =>
    intro q m hl h
    have hne : q ≠ [] := by rintro rfl; simp [vrun] at h
    obtain ⟨q', t, rfl⟩ := snoc_of q hne
    rw [List.length_append, List.length_singleton] at hl
    rcases vrun_last q' t 0 (m + 1) h with ⟨h48, _, hq⟩ | ⟨h48, hp, _, hq⟩
    · refine ⟨q', [t], rfl, by simpa using hq, ?_⟩
      simp [vrun, h48]
    · obtain ⟨a1, b1, rfl, ha1, hb1⟩ := ih q' (m + 1) (by omega) hq
      rw [List.length_append] at hl
      obtain ⟨a2, b2, rfl, ha2, hb2⟩ := ih a1 m (by omega) ha1
      refine ⟨a2, b2 ++ b1 ++ [t], by simp, ha2, ?_⟩
      have h2 := valid_cat hb2 hb1
      rw [vrun_append, h2]
      simp [vrun, h48, hp]
/-- a valid expression is a number, or two valid ones and an operator -/
theorem valid_cases (p : List (Int × Int)) (h : vrun 0 p = some 1) : (∃ v, p = [(48, v)]) ∨ ∃ a b k v, p = a ++ b ++ [(k, v)] ∧ k ≠ 48 ∧ 0 < prec k ∧ vrun 0 a = some 1 ∧ vrun 0 b = some 1 := by
  have hne : p ≠ [] := by rintro rfl; simp [vrun] at h
  obtain ⟨q, t, rfl⟩ := snoc_of p hne
  rcases vrun_last q t 0 1 h with ⟨h48, _, hq⟩ | ⟨h48, hp, _, hq⟩
  · left
    have := vrun_zero q (by simpa using hq)
    subst this
    exact ⟨t.2, by simp; exact Prod.ext h48 rfl⟩
  · right
    obtain ⟨a, b, rfl, ha, hb⟩ := split_last _ q 1 (Nat.le_refl _) hq
    exact ⟨a, b, t.1, t.2, rfl, h48, hp, ha, hb⟩
theorem valid_len {p : List (Int × Int)} (h : vrun 0 p = some 1) : 0 < p.length := by
  cases p with
  | nil => simp [vrun] at h
  | cons t p => simp
/-- induction over valid expressions -/
theorem valid_ind {M : List (Int × Int) → Prop} (h1 : ∀ v, M [(48, v)]) (h2 : ∀ a b k v, k ≠ 48 → 0 < prec k → vrun 0 a = some 1 → vrun 0 b = some 1 → M a → M b → M (a ++ b ++ [(k, v)])) :
    ∀ (n : Nat) (p : List (Int × Int)), p.length ≤ n → vrun 0 p = some 1 → M p := by
  intro n
  induction n with
  | zero => intro p hl h; have := valid_len h; omega
  | succ n ih =>
    intro p hl h
    rcases valid_cases p h with ⟨v, rfl⟩ | ⟨a, b, k, v, rfl, h48, hp, ha, hb⟩
    · exact h1 v
    · have la := valid_len ha
      have lb := valid_len hb
      simp only [List.length_append, List.length_singleton] at hl
      exact h2 a b k v h48 hp ha hb (ih a (by omega) ha) (ih b (by omega) hb)
theorem ap_fail {k a b : Int} (h : (ap k a b).2 ≠ 0) : (ap k a b).1 = 0 := by
  have hf : ∀ r, (fit r).2 ≠ 0 → (fit r).1 = 0 := fun r hr => by
    rcases fit_cases r with ⟨_, e⟩ | ⟨_, e⟩
    · rw [e] at hr; exact absurd rfl hr
    · rw [e]
  unfold ap at h ⊢
  repeat' split
  all_goals first | rfl | (apply hf; simp_all)
theorem er_split : ∀ (p : List (Int × Int)), vrun 0 p = some 1 → ∀ st q, er st (p ++ q) = if (er [] p).2 = 0 then er ((er [] p).1 :: st) q else (0, (er [] p).2) := by
  intro p hp
  refine valid_ind (M := fun p => ∀ st q, er st (p ++ q) = if (er [] p).2 = 0 then er ((er [] p).1 :: st) q else (0, (er [] p).2)) ?_ ?_ p.length p (Nat.le_refl _) hp
  · intro v st q
    have e : er [] [(48, v)] = (v, 0) := by rw [er_num rfl, er_nil]; rfl
    rw [e]
    simp only [List.cons_append, List.nil_append]
    rw [er_num rfl]; simp
  · intro a b k v h48 hk ha hb ia ib st q
    have e1 : ∀ st q, er st (a ++ b ++ [(k, v)] ++ q) = if (er [] a).2 = 0 then (if (er [] b).2 = 0 then er ((er [] b).1 :: (er [] a).1 :: st) ((k, v) :: q) else (0, (er [] b).2)) else (0, (er [] a).2) := by
      intro st q
      rw [List.append_assoc, List.append_assoc, ia]
      by_cases h : (er [] a).2 = 0
      · rw [if_pos h, if_pos h, ib]; rfl
      · rw [if_neg h, if_neg h]
    have e2 := e1 [] []
    rw [List.append_nil] at e2
    rw [e1 st q, e2]
    by_cases h1 : (er [] a).2 = 0
    · by_cases h2 : (er [] b).2 = 0
      · simp only [if_pos h1, if_pos h2]
        by_cases h3 : (ap k (er [] a).1 (er [] b).1).2 = 0
        · rw [er_ok h48 h3, er_ok h48 h3, er_nil]
          simp
        · rw [er_fail h48 h3, er_fail h48 h3]
          simp [h3]
      · simp [h1, h2]
    · simp [h1]
/-- the value of a b op -/
theorem er_join {a b : List (Int × Int)} {k v : Int} (h48 : k ≠ 48) (ha : vrun 0 a = some 1) (hb : vrun 0 b = some 1) :
    er [] (a ++ b ++ [(k, v)]) = if (er [] a).2 ≠ 0 then (0, (er [] a).2) else if (er [] b).2 ≠ 0 then (0, (er [] b).2) else ap k (er [] a).1 (er [] b).1 := by
  rw [List.append_assoc, er_split a ha]
  by_cases h1 : (er [] a).2 = 0
  · rw [if_pos h1, if_neg (by simp [h1]), er_split b hb]
    by_cases h2 : (er [] b).2 = 0
    · rw [if_pos h2, if_neg (by simp [h2])]
      by_cases h3 : (ap k (er [] a).1 (er [] b).1).2 = 0
      · rw [er_ok h48 h3, er_nil]
        exact Prod.ext rfl h3.symm
      · rw [er_fail h48 h3]
        exact Prod.ext (ap_fail h3).symm rfl
    · rw [if_neg h2, if_pos h2]
  · rw [if_neg h1, if_pos h1]

/-! ### the reading from the root -/
def atN (ts : List (Int × Int)) : Nat → Nat → Int × Int × Nat
  | 0, _ => (0, 2, 0)
  | f + 1, e => if e = 0 then (0, 2, 0) else if kAt ts (e - 1) = 48 then (vAt ts (e - 1), 0, e - 1) else
      if (atN ts f (atN ts f (e - 1)).2.2).2.1 ≠ 0 then (0, (atN ts f (atN ts f (e - 1)).2.2).2.1, (atN ts f (atN ts f (e - 1)).2.2).2.2) else
      if (atN ts f (e - 1)).2.1 ≠ 0 then (0, (atN ts f (e - 1)).2.1, (atN ts f (atN ts f (e - 1)).2.2).2.2) else
      ((ap (kAt ts (e - 1)) (atN ts f (atN ts f (e - 1)).2.2).1 (atN ts f (e - 1)).1).1, (ap (kAt ts (e - 1)) (atN ts f (atN ts f (e - 1)).2.2).1 (atN ts f (e - 1)).1).2, (atN ts f (atN ts f (e - 1)).2.2).2.2)
theorem atN_le (ts : List (Int × Int)) : ∀ f e, (atN ts f e).2.2 ≤ e := by
  intro f
  induction f with
  | zero => intro e; simp [atN]
  | succ f ih =>
    intro e
    have h1 := ih (e - 1)
    have h2 := ih (atN ts f (e - 1)).2.2
    rw [atN]
    repeat' split
    all_goals simp
    all_goals omega
theorem atN_in (ts : List (Int × Int)) (hv : ∀ t ∈ ts, inI t.2) : ∀ f e, e ≤ ts.length → inI (atN ts f e).1 := by
  have hz : inI (0 : Int) := by unfold inI; omega
  intro f
  induction f with
  | zero => intro e _; exact hz
  | succ f ih =>
    intro e he
    rw [atN]
    repeat' split
    · exact hz
    · exact hv _ (at_mem ts (e - 1) (by omega))
    · exact hz
    · exact hz
    · exact ap_in
theorem kAt_mid (A p B : List (Int × Int)) (i : Nat) (h : i < p.length) : kAt (A ++ p ++ B) (A.length + i) = kAt p i ∧ vAt (A ++ p ++ B) (A.length + i) = vAt p i := by
  simp [kAt, vAt, List.getD_eq_getElem?_getD, List.append_assoc, List.getElem?_append_right, List.getElem?_append_left h]
theorem kAt_last (q : List (Int × Int)) (k v : Int) : kAt (q ++ [(k, v)]) q.length = k ∧ vAt (q ++ [(k, v)]) q.length = v := by
  simp [kAt, vAt, List.getD_eq_getElem?_getD]
theorem atN_valid (p : List (Int × Int)) (hp : vrun 0 p = some 1) : ∀ f A B, p.length ≤ f → atN (A ++ p ++ B) f (A.length + p.length) = ((er [] p).1, (er [] p).2, A.length) := by
  refine valid_ind (M := fun p => ∀ f A B, p.length ≤ f → atN (A ++ p ++ B) f (A.length + p.length) = ((er [] p).1, (er [] p).2, A.length)) ?_ ?_ p.length p (Nat.le_refl _) hp
  · intro v f A B hf
    obtain ⟨f, rfl⟩ : ∃ g, f = g + 1 := ⟨f - 1, by simp at hf; omega⟩
    have e : er [] [(48, v)] = (v, 0) := by rw [er_num rfl, er_nil]; rfl
    have hk := kAt_mid A [(48, v)] B 0 (by simp)
    rw [atN, e, if_neg (by simp)]
    simp only [List.length_singleton, Nat.add_sub_cancel]
    rw [Nat.add_zero] at hk
    rw [hk.1, hk.2]
    simp [kAt, vAt]
  · intro a b k v h48 hk ha hb ia ib f A B hf
    obtain ⟨f, rfl⟩ : ∃ g, f = g + 1 := ⟨f - 1, by simp at hf; omega⟩
    have lf : a.length ≤ f ∧ b.length ≤ f := by simp at hf; omega
    have hl := kAt_mid A (a ++ b ++ [(k, v)]) B (a ++ b).length (by simp)
    have hl2 := kAt_last (a ++ b) k v
    have he : A.length + (a ++ b ++ [(k, v)]).length - 1 = A.length + (a ++ b).length := by simp; omega
    have r1 : atN (A ++ (a ++ b ++ [(k, v)]) ++ B) f (A.length + (a ++ b).length) = ((er [] b).1, (er [] b).2, A.length + a.length) := by
      have := ib f (A ++ a) ([(k, v)] ++ B) lf.2
      simp only [List.length_append, List.append_assoc] at this ⊢
      rw [← Nat.add_assoc]; exact this
    have r2 : atN (A ++ (a ++ b ++ [(k, v)]) ++ B) f (A.length + a.length) = ((er [] a).1, (er [] a).2, A.length) := by
      have := ia f A (b ++ [(k, v)] ++ B) lf.1
      simp only [List.append_assoc] at this ⊢
      exact this
    rw [atN, if_neg (by simp), he, hl.1, hl2.1, if_neg h48, r1]
    simp only [r2]
    rw [er_join h48 ha hb]
    by_cases h1 : (er [] a).2 = 0
    · by_cases h2 : (er [] b).2 = 0
      · simp [h1, h2]
      · simp [h1, h2]
    · simp [h1]
end Ex
