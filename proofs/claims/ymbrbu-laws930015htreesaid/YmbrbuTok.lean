/- plain: tokens as pairs (kind, value); no Go in sight -/
set_option linter.unusedVariables false
set_option linter.unusedSimpArgs false
set_option linter.unnecessarySimpa false
namespace Ex
def prec (k : Int) : Int := if k = 43 ∨ k = 45 then 1 else if k = 42 ∨ k = 47 then 2 else 0
theorem prec_1 {k : Int} (h : k = 43 ∨ k = 45) : prec k = 1 := if_pos h
theorem prec_2 {k : Int} (h : k = 42 ∨ k = 47) : prec k = 2 := by unfold prec; rw [if_neg (by omega), if_pos h]
theorem prec_0 {k : Int} (h1 : k ≠ 43) (h2 : k ≠ 45) (h3 : k ≠ 42) (h4 : k ≠ 47) : prec k = 0 := by unfold prec; rw [if_neg (by omega), if_neg (by omega)]
theorem prec_cases (k : Int) : (prec k = 1 ∧ (k = 43 ∨ k = 45)) ∨ (prec k = 2 ∧ (k = 42 ∨ k = 47)) ∨ (prec k = 0 ∧ k ≠ 43 ∧ k ≠ 45 ∧ k ≠ 42 ∧ k ≠ 47) := by
  unfold prec
  by_cases h1 : k = 43 ∨ k = 45
  · rw [if_pos h1]; exact .inl ⟨rfl, h1⟩
  · rw [if_neg h1]
    by_cases h2 : k = 42 ∨ k = 47
    · rw [if_pos h2]; exact .inr (.inl ⟨rfl, h2⟩)
    · rw [if_neg h2]; exact .inr (.inr ⟨rfl, by omega, by omega, by omega, by omega⟩)
theorem prec_nonneg (k : Int) : 0 ≤ prec k := by rcases prec_cases k with h | h | h <;> omega
theorem prec_le (k : Int) : prec k ≤ 2 := by rcases prec_cases k with h | h | h <;> omega

/-- the kind and the value at an index -/
def kAt (ts : List (Int × Int)) (i : Nat) : Int := (ts.getD i (0, 0)).1
def vAt (ts : List (Int × Int)) (i : Nat) : Int := (ts.getD i (0, 0)).2
theorem at_eq (ts : List (Int × Int)) (i : Nat) (h : i < ts.length) : (kAt ts i, vAt ts i) = ts[i] := by
  simp [kAt, vAt, List.getD_eq_getElem?_getD, h]
theorem drop_at (ts : List (Int × Int)) (i : Nat) (h : i < ts.length) : ts.drop i = (kAt ts i, vAt ts i) :: ts.drop (i + 1) := by
  rw [at_eq ts i h]; exact List.drop_eq_getElem_cons h
theorem take_at (ts : List (Int × Int)) (i : Nat) (h : i < ts.length) : ts.take (i + 1) = ts.take i ++ [(kAt ts i, vAt ts i)] := by
  rw [at_eq ts i h]; exact List.take_succ_eq_append_getElem h
theorem at_mem (ts : List (Int × Int)) (i : Nat) (h : i < ts.length) : (kAt ts i, vAt ts i) ∈ ts := by
  rw [at_eq ts i h]; exact List.getElem_mem h

/-- ValidPostfix, from the left -/
def vrun : Nat → List (Int × Int) → Option Nat
  | d, [] => some d
  | d, t :: ts => if t.1 = 48 then vrun (d + 1) ts else if 0 < prec t.1 ∧ 2 ≤ d then vrun (d - 1) ts else none
def vpB (ts : List (Int × Int)) : Bool := vrun 0 ts == some 1
theorem vrun_num {d : Nat} {k v : Int} {ts : List (Int × Int)} (h : k = 48) : vrun d ((k, v) :: ts) = vrun (d + 1) ts := by simp [vrun, h]
theorem vrun_op {d : Nat} {k v : Int} {ts : List (Int × Int)} (h : k ≠ 48) (h1 : 0 < prec k) (h2 : 2 ≤ d) : vrun d ((k, v) :: ts) = vrun (d - 1) ts := by simp [vrun, h, h1, h2]
theorem vrun_bad {d : Nat} {k v : Int} {ts : List (Int × Int)} (h : k ≠ 48) (h1 : ¬ (0 < prec k ∧ 2 ≤ d)) : vrun d ((k, v) :: ts) = none := by simp [vrun, h, h1]

/-- an integer at an index -/
def iAt (zs : List Int) (i : Nat) : Int := zs.getD i 0
theorem iAt_eq (zs : List Int) (i : Nat) (h : i < zs.length) : iAt zs i = zs[i] := by simp [iAt, List.getD_eq_getElem?_getD, h]
theorem idrop_at (zs : List Int) (i : Nat) (h : i < zs.length) : zs.drop i = iAt zs i :: zs.drop (i + 1) := by
  rw [iAt_eq zs i h]; exact List.drop_eq_getElem_cons h
theorem itake_at (zs : List Int) (i : Nat) (h : i < zs.length) : zs.take (i + 1) = zs.take i ++ [iAt zs i] := by
  rw [iAt_eq zs i h]; exact List.take_succ_eq_append_getElem h
theorem iAt_mem (zs : List Int) (i : Nat) (h : i < zs.length) : iAt zs i ∈ zs := by
  rw [iAt_eq zs i h]; exact List.getElem_mem h

/-- is the byte one of + - * / -/
def opB (k : Int) : Bool := decide (0 < prec k)
theorem opB_iff {k : Int} : opB k = true ↔ 0 < prec k := by unfold opB; simp
theorem opB_cases (k : Int) : (opB k = true ∧ (k = 43 ∨ k = 45 ∨ k = 42 ∨ k = 47)) ∨ (opB k = false ∧ k ≠ 43 ∧ k ≠ 45 ∧ k ≠ 42 ∧ k ≠ 47) := by
  rcases prec_cases k with ⟨h, e⟩ | ⟨h, e⟩ | ⟨h, e⟩
  · left; exact ⟨by rw [opB_iff]; omega, by omega⟩
  · left; exact ⟨by rw [opB_iff]; omega, by omega⟩
  · right; exact ⟨by unfold opB; simp; omega, e⟩
/-- a reader from the right: on the reversed list, so many expressions still wanted -/
def rrun : Nat → List (Int × Int) → Option Nat
  | d, [] => some d
  | d, t :: ts => if d = 0 then none else if t.1 = 48 then rrun (d - 1) ts else if 0 < prec t.1 then rrun (d + 1) ts else none
theorem rrun_append (a b : List (Int × Int)) : ∀ d, rrun d (a ++ b) = (rrun d a).bind fun e => rrun e b := by
  induction a with
  | nil => intro d; simp [rrun]
  | cons t a ih =>
    intro d
    simp only [List.cons_append, rrun]
    split
    · rfl
    · split
      · exact ih _
      · split
        · exact ih _
        · rfl
/-- from the left and from the right -/
theorem vrun_rrun (ts : List (Int × Int)) : ∀ d m, vrun d ts = some m ↔ rrun m ts.reverse = some d := by
  induction ts with
  | nil => intro d m; simp [vrun, rrun]; exact eq_comm
  | cons t ts ih =>
    intro d m
    rw [List.reverse_cons, rrun_append]
    simp only [vrun]
    by_cases h48 : t.1 = 48
    · rw [if_pos h48, ih]
      constructor
      · intro h; rw [h]; simp [rrun, h48]
      · intro h
        cases hr : rrun m ts.reverse with
        | none => rw [hr] at h; simp at h
        | some e =>
          rw [hr] at h
          simp [rrun, h48] at h
          obtain ⟨h1, h2⟩ := h
          congr 1; omega
    · rw [if_neg h48]
      by_cases hp : 0 < prec t.1
      · by_cases hd : 2 ≤ d
        · rw [if_pos ⟨hp, hd⟩, ih]
          constructor
          · intro h; rw [h]; simp [rrun, h48, hp]; omega
          · intro h
            cases hr : rrun m ts.reverse with
            | none => rw [hr] at h; simp at h
            | some e =>
              rw [hr] at h
              simp [rrun, h48, hp] at h
              congr 1; omega
        · rw [if_neg (by omega)]
          constructor
          · intro h; cases h
          · intro h
            cases hr : rrun m ts.reverse with
            | none => rw [hr] at h; simp at h
            | some e =>
              rw [hr] at h
              simp [rrun, h48, hp] at h
              omega
      · rw [if_neg (by omega)]
        constructor
        · intro h; cases h
        · intro h
          cases hr : rrun m ts.reverse with
          | none => rw [hr] at h; simp at h
          | some e =>
            rw [hr] at h
            simp [rrun, h48, hp] at h
theorem vpB_right (ts : List (Int × Int)) : vpB ts = (rrun 1 ts.reverse == some 0) := by
  unfold vpB
  rw [Bool.eq_iff_iff]
  simp [vrun_rrun]
theorem take_rev (ts : List (Int × Int)) (i : Nat) (h : i < ts.length) : (ts.take (i + 1)).reverse = (kAt ts i, vAt ts i) :: (ts.take i).reverse := by
  rw [take_at ts i h]; simp

theorem vrun_append (a b : List (Int × Int)) : ∀ d, vrun d (a ++ b) = (vrun d a).bind fun e => vrun e b := by
  induction a with
  | nil => intro d; simp [vrun]
  | cons t a ih =>
    intro d
    simp only [List.cons_append, vrun]
    split
    · exact ih _
    · split
      · exact ih _
      · rfl
theorem vrun_snoc_num {ts : List (Int × Int)} {d e : Nat} {v : Int} (h : vrun d ts = some e) : vrun d (ts ++ [(48, v)]) = some (e + 1) := by
  rw [vrun_append, h]; simp [vrun]
theorem vrun_snoc_op {ts : List (Int × Int)} {d e : Nat} {k v : Int} (h : vrun d ts = some e) (h1 : 0 < prec k) (h2 : 2 ≤ e) : vrun d (ts ++ [(k, v)]) = some (e - 1) := by
  have h48 : k ≠ 48 := by rintro rfl; simp [prec] at h1
  rw [vrun_append, h]; simp [vrun, h48, h1, h2]
theorem prec_48 : prec 48 = 0 := by simp [prec]
/-- how many numbers, how many operators -/
def nums (ts : List (Int × Int)) : Nat := (ts.filter fun t => t.1 == 48).length
theorem nums_append (a b : List (Int × Int)) : nums (a ++ b) = nums a + nums b := by simp [nums]
theorem vrun_count (ts : List (Int × Int)) : ∀ d m, vrun d ts = some m → m + ts.length = d + 2 * nums ts := by
  induction ts with
  | nil => intro d m h; simp [vrun] at h; simp [nums, h]
  | cons t ts ih =>
    intro d m h
    simp only [vrun] at h
    by_cases h48 : t.1 = 48
    · rw [if_pos h48] at h
      have := ih _ _ h
      simp [nums, h48] at this ⊢
      omega
    · rw [if_neg h48] at h
      by_cases hp : 0 < prec t.1 ∧ 2 ≤ d
      · rw [if_pos hp] at h
        have := ih _ _ h
        simp [nums, h48] at this ⊢
        omega
      · rw [if_neg hp] at h; cases h
theorem vpB_iff {ts : List (Int × Int)} : vpB ts = true ↔ vrun 0 ts = some 1 := by unfold vpB; simp
theorem vpB_of_not {ts : List (Int × Int)} (h : vrun 0 ts ≠ some 1) : vpB ts = false := by
  cases hv : vpB ts with
  | false => rfl
  | true => exact absurd (vpB_iff.1 hv) h
/-- every token of a run that goes through is a number or an operator -/
theorem vrun_kinds (ts : List (Int × Int)) : ∀ d m, vrun d ts = some m → ∀ t ∈ ts, t.1 = 48 ∨ 0 < prec t.1 := by
  induction ts with
  | nil => intro d m h t ht; cases ht
  | cons u ts ih =>
    intro d m h t ht
    simp only [vrun] at h
    by_cases h48 : u.1 = 48
    · rw [if_pos h48] at h
      rcases List.mem_cons.1 ht with rfl | ht
      · exact .inl h48
      · exact ih _ _ h t ht
    · rw [if_neg h48] at h
      by_cases hp : 0 < prec u.1 ∧ 2 ≤ d
      · rw [if_pos hp] at h
        rcases List.mem_cons.1 ht with rfl | ht
        · exact .inr hp.1
        · exact ih _ _ h t ht
      · rw [if_neg hp] at h; cases h
/-- deeper below, the run goes on alike -/
theorem vrun_shift (ts : List (Int × Int)) : ∀ d m c, vrun d ts = some m → vrun (d + c) ts = some (m + c) := by
  induction ts with
  | nil => intro d m c h; simp [vrun] at h ⊢; omega
  | cons t ts ih =>
    intro d m c h
    simp only [vrun] at h ⊢
    by_cases h48 : t.1 = 48
    · rw [if_pos h48] at h ⊢
      have := ih _ _ c h
      rw [show d + c + 1 = d + 1 + c by omega]; exact this
    · rw [if_neg h48] at h ⊢
      by_cases hp : 0 < prec t.1 ∧ 2 ≤ d
      · rw [if_pos hp] at h
        rw [if_pos ⟨hp.1, by omega⟩]
        have := ih _ _ c h
        rw [show d + c - 1 = d - 1 + c by omega]; exact this
      · rw [if_neg hp] at h; cases h
theorem set_at (ts : List (Int × Int)) (p : Nat) (h : p < ts.length) (x : Int × Int) : ts.set p x = ts.take p ++ x :: ts.drop (p + 1) := List.set_eq_take_append_cons_drop.trans (if_pos h)
theorem split_at (ts : List (Int × Int)) (p : Nat) (h : p < ts.length) : ts = ts.take p ++ (kAt ts p, vAt ts p) :: ts.drop (p + 1) := by
  rw [← drop_at ts p h]; exact (List.take_append_drop p ts).symm
/-- one token flipped between number and operator: no longer valid -/
theorem flip_bad {ts : List (Int × Int)} (h : vrun 0 ts = some 1) (p : Nat) (hp : p < ts.length) (k v : Int) (hk : (kAt ts p = 48 ∧ k ≠ 48) ∨ (kAt ts p ≠ 48 ∧ k = 48)) : vrun 0 (ts.set p (k, v)) ≠ some 1 := by
  intro h2
  have c1 := vrun_count _ _ _ h
  have c2 := vrun_count _ _ _ h2
  have e : nums ts = nums (ts.take p) + (nums [(kAt ts p, vAt ts p)] + nums (ts.drop (p + 1))) := by
    conv => lhs; rw [split_at ts p hp]
    rw [nums_append]
    congr 1
    exact nums_append [(kAt ts p, vAt ts p)] (ts.drop (p + 1))
  have e2 : nums (ts.set p (k, v)) = nums (ts.take p) + (nums [(k, v)] + nums (ts.drop (p + 1))) := by
    rw [set_at ts p hp, nums_append]
    congr 1
    exact nums_append [(k, v)] (ts.drop (p + 1))
  rw [List.length_set] at c2
  rcases hk with ⟨a, b⟩ | ⟨a, b⟩
  · have x1 : nums [(kAt ts p, vAt ts p)] = 1 := by simp [nums, a]
    have x2 : nums [(k, v)] = 0 := by simp [nums, b]
    omega
  · have x1 : nums [(kAt ts p, vAt ts p)] = 0 := by simp [nums, a]
    have x2 : nums [(k, v)] = 1 := by simp [nums, b]
    omega
theorem put_bad {ts : List (Int × Int)} (p : Nat) (hp : p < ts.length) (k v : Int) (hk : k ≠ 48) (hk2 : ¬ 0 < prec k) : vrun 0 (ts.set p (k, v)) ≠ some 1 := by
  intro h2
  have := vrun_kinds _ _ _ h2 (k, v) (by rw [set_at ts p hp]; simp)
  rcases this with h | h
  · exact hk h
  · exact hk2 h

/-- decimal digits, as bytes -/
def dgF : Nat → Nat → List Int
  | 0, _ => []
  | f + 1, n => if n < 10 then [48 + (n : Int)] else dgF f (n / 10) ++ [48 + ((n % 10 : Nat) : Int)]
theorem dgF_stable : ∀ f n, n < 10 ^ f → dgF (f + 1) n = dgF f n ∨ f = 0 := by
  intro f
  induction f with
  | zero => intro n h; exact .inr rfl
  | succ f ih =>
    intro n h
    left
    have u1 : ∀ g, dgF (g + 1) n = if n < 10 then [48 + (n : Int)] else dgF g (n / 10) ++ [48 + ((n % 10 : Nat) : Int)] := fun g => rfl
    rw [u1 (f + 1), u1 f]
    by_cases hn : n < 10
    · rw [if_pos hn, if_pos hn]
    · rw [if_neg hn, if_neg hn]
      have h10 : n / 10 < 10 ^ f := by rw [Nat.pow_succ] at h; omega
      rcases ih (n / 10) h10 with e | e
      · rw [e]
      · subst e; simp at h10; omega
def dg (n : Nat) : List Int := dgF 20 n
theorem dgF_succ (f n : Nat) : dgF (f + 1) n = if n < 10 then [48 + (n : Int)] else dgF f (n / 10) ++ [48 + ((n % 10 : Nat) : Int)] := rfl
theorem dg_small {n : Nat} (h : n < 10) : dg n = [48 + (n : Int)] := by unfold dg; rw [dgF_succ, if_pos h]
theorem dg_step {n : Nat} (h : 10 ≤ n) (hb : n < 10 ^ 20) : dg n = dg (n / 10) ++ [48 + ((n % 10 : Nat) : Int)] := by
  unfold dg
  conv => lhs; rw [dgF_succ 19, if_neg (by omega)]
  rcases dgF_stable 19 (n / 10) (by omega) with e | e
  · rw [e]
  · omega
theorem dgF_len : ∀ f n, (dgF f n).length ≤ f := by
  intro f
  induction f with
  | zero => intro n; simp [dgF]
  | succ f ih =>
    intro n
    rw [dgF_succ]
    split
    · simp
    · have := ih (n / 10)
      simp; omega
theorem dg_len20 (n : Nat) : (dg n).length ≤ 20 := dgF_len 20 n
theorem dg_pos (n : Nat) : 0 < (dg n).length := by
  unfold dg; rw [dgF_succ]; split <;> simp
theorem dg_len (n : Nat) (h : n < 10 ^ 20) : (dg n).length ≤ 20 := dg_len20 n
/-- with f + 1 digits or fewer -/
theorem dg_lenF : ∀ f n, n < 10 ^ (f + 1) → n < 10 ^ 20 → (dg n).length ≤ f + 1 := by
  intro f
  induction f with
  | zero => intro n h h2; rw [dg_small (by omega)]; simp
  | succ f ih =>
    intro n h h2
    by_cases h10 : n < 10
    · rw [dg_small h10]; simp
    · rw [dg_step (by omega) h2, List.length_append]
      have := ih (n / 10) (by rw [Nat.pow_succ] at h; omega) (by omega)
      simp; omega
/-- each is a digit -/
theorem dgF_dig : ∀ f n, ∀ c ∈ dgF f n, 48 ≤ c ∧ c ≤ 57 := by
  intro f
  induction f with
  | zero => intro n c h; simp [dgF] at h
  | succ f ih =>
    intro n c h
    rw [dgF_succ] at h
    split at h
    · simp at h; omega
    · rw [List.mem_append] at h
      rcases h with h | h
      · exact ih _ c h
      · simp at h; omega
theorem dg_dig (n : Nat) : ∀ c ∈ dg n, 48 ≤ c ∧ c ≤ 57 := dgF_dig 20 n
/-- the value of a text of digits, from the left -/
def dval (acc : Nat) : List Int → Nat
  | [] => acc
  | c :: cs => dval (acc * 10 + (c - 48).toNat) cs
theorem dval_append (a b : List Int) : ∀ acc, dval acc (a ++ b) = dval (dval acc a) b := by
  induction a with
  | nil => intro acc; rfl
  | cons c a ih => intro acc; exact ih _
theorem dval_dgF : ∀ f n, n < 10 ^ f → dval 0 (dgF f n) = n := by
  intro f
  induction f with
  | zero => intro n h; simp at h; simp [dgF, dval, h]
  | succ f ih =>
    intro n h
    rw [dgF_succ]
    split
    · simp [dval]; omega
    · rw [dval_append, ih (n / 10) (by rw [Nat.pow_succ] at h; omega)]
      simp [dval]; omega
theorem dval_dg (n : Nat) (h : n < 10 ^ 20) : dval 0 (dg n) = n := dval_dgF 20 n h
/-- no leading zero but for a lone one -/
theorem dgF_lead : ∀ f n, n < 10 ^ f → ∀ c cs, dgF f n = c :: cs → c = 48 → cs = [] := by
  intro f
  induction f with
  | zero => intro n h c cs e; simp [dgF] at e
  | succ f ih =>
    intro n h c cs e hc
    rw [dgF_succ] at e
    split at e
    · simp at e; exact e.2
    · exfalso
      have h10 : n / 10 < 10 ^ f := by rw [Nat.pow_succ] at h; omega
      cases hd : dgF f (n / 10) with
      | nil =>
        have := dval_dgF f (n / 10) h10
        rw [hd] at this
        simp [dval] at this
        omega
      | cons x xs =>
        rw [hd] at e
        simp at e
        have hx := ih (n / 10) h10 x xs hd (by omega)
        have := dval_dgF f (n / 10) h10
        rw [hd, hx] at this
        simp [dval] at this
        omega
theorem dg_lead (n : Nat) (h : n < 10 ^ 20) : ∀ c cs, dg n = c :: cs → c = 48 → cs = [] := dgF_lead 20 n h
theorem dval_mono (b : List Int) : ∀ acc, acc ≤ dval acc b := by
  induction b with
  | nil => intro acc; exact Nat.le_refl _
  | cons c b ih => intro acc; exact Nat.le_trans (by omega) (ih (acc * 10 + (c - 48).toNat))
theorem dval_take_le (l : List Int) (j : Nat) : dval 0 (l.take j) ≤ dval 0 l := by
  conv => rhs; rw [← List.take_append_drop j l, dval_append]
  exact dval_mono _ _
theorem dval_take_succ (l : List Int) (j : Nat) (h : j < l.length) : dval 0 (l.take (j + 1)) = dval 0 (l.take j) * 10 + (iAt l j - 48).toNat := by
  rw [itake_at l j h, dval_append]; rfl
theorem iAt_app (a b : List Int) (i : Nat) (h : i < a.length) : iAt (a ++ b) i = iAt a i := by
  simp [iAt, List.getD_eq_getElem?_getD, List.getElem?_append_left h]
theorem iAt_app' (a b : List Int) (i : Nat) : iAt (a ++ b) (a.length + i) = iAt b i := by
  simp [iAt, List.getD_eq_getElem?_getD, List.getElem?_append_right]
/-- a text of digits without a leading zero is what its value spells -/
theorem dg_dval (W : List Int) (hd : ∀ c ∈ W, 48 ≤ c ∧ c ≤ 57) (h0 : iAt W 0 ≠ 48) (hb : dval 0 W < 10 ^ 20) : ∀ j, 1 ≤ j → j ≤ W.length → dg (dval 0 (W.take j)) = W.take j ∧ 1 ≤ dval 0 (W.take j) := by
  intro j h1 h2
  induction j with
  | zero => omega
  | succ j ih =>
    obtain ⟨e1, e2⟩ := hd _ (iAt_mem W j (by omega))
    have hv := dval_take_succ W j (by omega)
    have hle := dval_take_le W (j + 1)
    by_cases hj : j = 0
    · subst hj
      have hv1 : dval 0 (W.take (0 + 1)) = (iAt W 0 - 48).toNat := by rw [hv]; simp [dval]
      rw [hv1, dg_small (by omega), itake_at W 0 (by omega)]
      simp
      omega
    · obtain ⟨ih1, ih2⟩ := ih (by omega) (by omega)
      have hmod : (dval 0 (W.take j) * 10 + (iAt W j - 48).toNat) % 10 = (iAt W j - 48).toNat := by omega
      have hdiv : (dval 0 (W.take j) * 10 + (iAt W j - 48).toNat) / 10 = dval 0 (W.take j) := by omega
      refine ⟨?_, by omega⟩
      rw [hv, dg_step (by omega) (by omega), hdiv, hmod, ih1, itake_at W j (by omega)]
      congr 2
      omega
theorem dg_of {W : List Int} (hd : ∀ c ∈ W, 48 ≤ c ∧ c ≤ 57) (h0 : iAt W 0 ≠ 48) (hp : 0 < W.length) (hb : dval 0 W < 10 ^ 20) : dg (dval 0 W) = W := by
  have := (dg_dval W hd h0 hb W.length hp (Nat.le_refl _)).1
  rwa [List.take_length] at this
theorem dval_lt (l : List Int) (hd : ∀ c ∈ l, 48 ≤ c ∧ c ≤ 57) : ∀ acc, dval acc l < (acc + 1) * 10 ^ l.length := by
  induction l with
  | nil => intro acc; simp [dval]
  | cons c l ih =>
    intro acc
    obtain ⟨h1, h2⟩ := hd c (by simp)
    have := ih (fun x hx => hd x (by simp [hx])) (acc * 10 + (c - 48).toNat)
    simp only [dval, List.length_cons]
    refine Nat.lt_of_lt_of_le this ?_
    rw [Nat.pow_succ, Nat.mul_comm (10 ^ l.length) 10, ← Nat.mul_assoc]
    exact Nat.mul_le_mul_right _ (by omega)

/-! ### digit runs -/
def isD (c : Int) : Bool := decide (48 ≤ c) && decide (c ≤ 57)
theorem isD_iff {c : Int} : isD c = true ↔ 48 ≤ c ∧ c ≤ 57 := by unfold isD; simp
theorem isD_not {c : Int} : isD c = false ↔ ¬ (48 ≤ c ∧ c ≤ 57) := by
  rw [← isD_iff]; simp
/-- the digit run that starts at k -/
def runAt (bs : List Int) (k : Nat) : List Int := (bs.drop k).takeWhile isD
theorem tw_len {α : Type} (p : α → Bool) (l : List α) : (l.takeWhile p).length ≤ l.length := by
  induction l with
  | nil => simp
  | cons a l ih => simp only [List.takeWhile_cons]; split <;> simp; exact ih
theorem tw_at (p : Int → Bool) (l : List Int) : ∀ q, q < (l.takeWhile p).length → iAt (l.takeWhile p) q = iAt l q ∧ p (iAt l q) = true := by
  induction l with
  | nil => intro q h; simp at h
  | cons a l ih =>
    intro q h
    by_cases ha : p a = true
    · rw [List.takeWhile_cons, if_pos ha] at h ⊢
      cases q with
      | zero => simp [iAt, ha]
      | succ q => simpa [iAt] using ih q (by simpa using h)
    · rw [List.takeWhile_cons, if_neg ha] at h; simp at h
theorem tw_end (p : Int → Bool) (l : List Int) : (l.takeWhile p).length < l.length → p (iAt l (l.takeWhile p).length) = false := by
  induction l with
  | nil => intro h; simp at h
  | cons a l ih =>
    intro h
    by_cases ha : p a = true
    · rw [List.takeWhile_cons, if_pos ha] at h ⊢
      simpa [iAt] using ih (by simpa using h)
    · rw [List.takeWhile_cons, if_neg ha]
      simpa [iAt] using ha
theorem iAt_drop (l : List Int) (k q : Nat) : iAt (l.drop k) q = iAt l (k + q) := by
  simp [iAt, List.getD_eq_getElem?_getD]
theorem run_le (bs : List Int) (k : Nat) : (runAt bs k).length + k ≤ bs.length ∨ (runAt bs k).length = 0 := by
  have := tw_len isD (bs.drop k)
  unfold runAt
  rw [List.length_drop] at this
  omega
theorem run_at (bs : List Int) (k q : Nat) (h : q < (runAt bs k).length) : k + q < bs.length ∧ iAt (runAt bs k) q = iAt bs (k + q) ∧ 48 ≤ iAt bs (k + q) ∧ iAt bs (k + q) ≤ 57 := by
  obtain ⟨h1, h2⟩ := tw_at isD (bs.drop k) q h
  rw [iAt_drop] at h1 h2
  have hl := run_le bs k
  exact ⟨by omega, h1, isD_iff.1 h2⟩
theorem run_end (bs : List Int) (k : Nat) (h : k + (runAt bs k).length < bs.length) : ¬ (48 ≤ iAt bs (k + (runAt bs k).length) ∧ iAt bs (k + (runAt bs k).length) ≤ 57) := by
  have := tw_end isD (bs.drop k) (by rw [List.length_drop]; unfold runAt at h; omega)
  rw [iAt_drop] at this
  exact isD_not.1 this
theorem mem_tw (p : Int → Bool) (l : List Int) : ∀ c ∈ l.takeWhile p, p c = true := by
  induction l with
  | nil => intro c h; cases h
  | cons a l ih =>
    intro c h
    by_cases ha : p a = true
    · rw [List.takeWhile_cons, if_pos ha] at h
      rcases List.mem_cons.1 h with rfl | h
      · exact ha
      · exact ih c h
    · rw [List.takeWhile_cons, if_neg ha] at h; cases h
theorem run_dig (bs : List Int) (k : Nat) : ∀ c ∈ runAt bs k, 48 ≤ c ∧ c ≤ 57 := fun c hc => isD_iff.1 (mem_tw isD _ c hc)
/-- what ScanNumber answers at k -/
def scanV (bs : List Int) (k : Nat) : Nat := if dval 0 (runAt bs k) ≤ 9223372036854775807 then dval 0 (runAt bs k) else 0
def scanJ (bs : List Int) (k : Nat) : Nat := if dval 0 (runAt bs k) ≤ 9223372036854775807 then k + (runAt bs k).length else k
def scanB (bs : List Int) (k : Nat) : Bool := decide (dval 0 (runAt bs k) ≤ 9223372036854775807) && decide (0 < (runAt bs k).length)
theorem scan_fits {bs : List Int} {k : Nat} (h : dval 0 (runAt bs k) ≤ 9223372036854775807) : scanV bs k = dval 0 (runAt bs k) ∧ scanJ bs k = k + (runAt bs k).length ∧ scanB bs k = decide (0 < (runAt bs k).length) := by
  simp [scanV, scanJ, scanB, h]
theorem scan_over {bs : List Int} {k : Nat} (h : ¬ dval 0 (runAt bs k) ≤ 9223372036854775807) : scanV bs k = 0 ∧ scanJ bs k = k ∧ scanB bs k = false := by
  simp [scanV, scanJ, scanB, h]
theorem dval_acc (l : List Int) : ∀ acc, dval acc l = acc * 10 ^ l.length + dval 0 l := by
  induction l with
  | nil => intro acc; simp [dval]
  | cons c l ih =>
    intro acc
    simp only [dval, List.length_cons]
    rw [ih (acc * 10 + (c - 48).toNat), ih (0 * 10 + (c - 48).toNat), Nat.pow_succ, Nat.zero_mul, Nat.zero_add, Nat.add_mul, Nat.add_assoc, Nat.mul_assoc, Nat.mul_comm 10]
theorem dval_cons (c : Int) (l : List Int) : dval 0 (c :: l) = (c - 48).toNat * 10 ^ l.length + dval 0 l := by
  simp only [dval, Nat.zero_mul, Nat.zero_add]
  exact dval_acc l _
theorem dval_lt0 (l : List Int) (hd : ∀ c ∈ l, 48 ≤ c ∧ c ≤ 57) : dval 0 l < 10 ^ l.length := by
  have := dval_lt l hd 0
  simpa using this
theorem dval_big (l : List Int) (hd : ∀ c ∈ l, 48 ≤ c ∧ c ≤ 57) (h0 : iAt l 0 ≠ 48) (hl : 20 ≤ l.length) : 9223372036854775807 < dval 0 l := by
  cases l with
  | nil => simp at hl
  | cons c l =>
    rw [dval_cons]
    have h1 := hd c (by simp)
    have h2 : c ≠ 48 := by simpa [iAt] using h0
    have h3 : 10 ^ 19 ≤ 10 ^ l.length := Nat.pow_le_pow_right (by omega) (by simp at hl; omega)
    have h4 : 1 * 10 ^ l.length ≤ (c - 48).toNat * 10 ^ l.length := Nat.mul_le_mul_right _ (by omega)
    omega
theorem dval_drop_zero (l : List Int) (k : Nat) (hk : k < l.length) (h : iAt l k = 48) : dval 0 (l.drop (k + 1)) = dval 0 (l.drop k) := by
  rw [idrop_at l k hk, h, dval_cons]; simp
theorem dval_drop_at (l : List Int) (k : Nat) (hk : k < l.length) : dval 0 (l.drop k) = (iAt l k - 48).toNat * 10 ^ (l.length - 1 - k) + dval 0 (l.drop (k + 1)) := by
  rw [idrop_at l k hk, dval_cons, List.length_drop, show l.length - (k + 1) = l.length - 1 - k from by omega]
/-- a run of digits between two texts is found whole -/
theorem run_mid (A R T : List Int) (hR : ∀ c ∈ R, 48 ≤ c ∧ c ≤ 57) (hT : T = [] ∨ isD (iAt T 0) = false) : runAt (A ++ R ++ T) A.length = R := by
  unfold runAt
  rw [List.append_assoc, List.drop_left]
  induction R with
  | nil =>
    rcases hT with rfl | h
    · rfl
    · cases T with
      | nil => rfl
      | cons c T => simp only [List.nil_append, List.takeWhile_cons]; rw [show isD c = false from by simpa [iAt] using h]; simp
  | cons c R ih =>
    simp only [List.cons_append, List.takeWhile_cons]
    rw [if_pos (isD_iff.2 (hR c (by simp))), ih (fun x hx => hR x (by simp [hx]))]
end Ex
