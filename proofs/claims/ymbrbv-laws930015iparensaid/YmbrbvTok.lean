/- plain: tokens as pairs (kind, value); no Go in sight -/
namespace Ex
def prec (k : Int) : Int := if k = 43 ∨ k = 45 then 1 else if k = 42 ∨ k = 47 then 2 else 0
theorem prec_1 {k : Int} (h : k = 43 ∨ k = 45) : prec k = 1 := if_pos h
theorem prec_2 {k : Int} (h : k = 42 ∨ k = 47) : prec k = 2 := by unfold prec; rw [if_neg (by omega), if_pos h]
theorem prec_0 {k : Int} (h1 : k ≠ 43) (h2 : k ≠ 45) (h3 : k ≠ 42) (h4 : k ≠ 47) : prec k = 0 := by unfold prec; rw [if_neg (by omega), if_neg (by omega)]
theorem prec_cases (k : Int) : (prec k = 1 ∧ (k = 43 ∨ k = 45)) ∨ (prec k = 2 ∧ (k = 42 ∨ k = 47)) ∨ (prec k = 0 ∧ k ≠ 43 ∧ k ≠ 45 ∧ k ≠ 42 ∧ k ≠ 47) := by
  unfold prec
  by_cases h1 : k = 43 ∨ k = 45
  · rw [if_pos h1]; exact .inl ⟨rfl, h1⟩
  · rw [if_neg h1]
    by_cases h2 : k = 42 ∨ k = 47
    · rw [if_pos h2]; exact .inr (.inl ⟨rfl, h2⟩)
    · rw [if_neg h2]; exact .inr (.inr ⟨rfl, by omega, by omega, by omega, by omega⟩)
theorem prec_nonneg (k : Int) : 0 ≤ prec k := by rcases prec_cases k with h | h | h <;> omega
theorem prec_le (k : Int) : prec k ≤ 2 := by rcases prec_cases k with h | h | h <;> omega

/-- the kind and the value at an index -/
def kAt (ts : List (Int × Int)) (i : Nat) : Int := (ts.getD i (0, 0)).1
def vAt (ts : List (Int × Int)) (i : Nat) : Int := (ts.getD i (0, 0)).2
theorem at_eq (ts : List (Int × Int)) (i : Nat) (h : i < ts.length) : (kAt ts i, vAt ts i) = ts[i] := by
  simp [kAt, vAt, List.getD_eq_getElem?_getD, h]
theorem drop_at (ts : List (Int × Int)) (i : Nat) (h : i < ts.length) : ts.drop i = (kAt ts i, vAt ts i) :: ts.drop (i + 1) := by
  rw [at_eq ts i h]; exact List.drop_eq_getElem_cons h
theorem take_at (ts : List (Int × Int)) (i : Nat) (h : i < ts.length) : ts.take (i + 1) = ts.take i ++ [(kAt ts i, vAt ts i)] := by
  rw [at_eq ts i h]; exact List.take_succ_eq_append_getElem h
theorem at_mem (ts : List (Int × Int)) (i : Nat) (h : i < ts.length) : (kAt ts i, vAt ts i) ∈ ts := by
  rw [at_eq ts i h]; exact List.getElem_mem h

/-- ValidPostfix, from the left -/
def vrun : Nat → List (Int × Int) → Option Nat
  | d, [] => some d
  | d, t :: ts => if t.1 = 48 then vrun (d + 1) ts else if 0 < prec t.1 ∧ 2 ≤ d then vrun (d - 1) ts else none
def vpB (ts : List (Int × Int)) : Bool := vrun 0 ts == some 1
theorem vrun_num {d : Nat} {k v : Int} {ts : List (Int × Int)} (h : k = 48) : vrun d ((k, v) :: ts) = vrun (d + 1) ts := by simp [vrun, h]
theorem vrun_op {d : Nat} {k v : Int} {ts : List (Int × Int)} (h : k ≠ 48) (h1 : 0 < prec k) (h2 : 2 ≤ d) : vrun d ((k, v) :: ts) = vrun (d - 1) ts := by simp [vrun, h, h1, h2]
theorem vrun_bad {d : Nat} {k v : Int} {ts : List (Int × Int)} (h : k ≠ 48) (h1 : ¬ (0 < prec k ∧ 2 ≤ d)) : vrun d ((k, v) :: ts) = none := by simp [vrun, h, h1]

/-- an integer at an index -/
def iAt (zs : List Int) (i : Nat) : Int := zs.getD i 0
theorem iAt_eq (zs : List Int) (i : Nat) (h : i < zs.length) : iAt zs i = zs[i] := by simp [iAt, List.getD_eq_getElem?_getD, h]
theorem idrop_at (zs : List Int) (i : Nat) (h : i < zs.length) : zs.drop i = iAt zs i :: zs.drop (i + 1) := by
  rw [iAt_eq zs i h]; exact List.drop_eq_getElem_cons h
theorem itake_at (zs : List Int) (i : Nat) (h : i < zs.length) : zs.take (i + 1) = zs.take i ++ [iAt zs i] := by
  rw [iAt_eq zs i h]; exact List.take_succ_eq_append_getElem h
theorem iAt_mem (zs : List Int) (i : Nat) (h : i < zs.length) : iAt zs i ∈ zs := by
  rw [iAt_eq zs i h]; exact List.getElem_mem h

/-- is the byte one of + - * / -/
def opB (k : Int) : Bool := decide (0 < prec k)
theorem opB_iff {k : Int} : opB k = true ↔ 0 < prec k := by unfold opB; simp
theorem opB_cases (k : Int) : (opB k = true ∧ (k = 43 ∨ k = 45 ∨ k = 42 ∨ k = 47)) ∨ (opB k = false ∧ k ≠ 43 ∧ k ≠ 45 ∧ k ≠ 42 ∧ k ≠ 47) := by
  rcases prec_cases k with ⟨h, e⟩ | ⟨h, e⟩ | ⟨h, e⟩
  · left; exact ⟨by rw [opB_iff]; omega, by omega⟩
  · left; exact ⟨by rw [opB_iff]; omega, by omega⟩
  · right; exact ⟨by unfold opB; simp; omega, e⟩
/-- a reader from the right: on the reversed list, so many expressions still wanted -/
def rrun : Nat → List (Int × Int) → Option Nat
  | d, [] => some d
  | d, t :: ts => if d = 0 then none else if t.1 = 48 then rrun (d - 1) ts else if 0 < prec t.1 then rrun (d + 1) ts else none
theorem rrun_append (a b : List (Int × Int)) : ∀ d, rrun d (a ++ b) = (rrun d a).bind fun e => rrun e b := by
  induction a with
  | nil => intro d; simp [rrun]
  | cons t a ih =>
    intro d
    simp only [List.cons_append, rrun]
    split
    · rfl
    · split
      · exact ih _
      · split
        · exact ih _
        · rfl
/-- from the left and from the right -/
theorem vrun_rrun (ts : List (Int × Int)) : ∀ d m, vrun d ts = some m ↔ rrun m ts.reverse = some d := by
  induction ts with
  | nil => intro d m; simp [vrun, rrun]; exact eq_comm
  | cons t ts ih =>
    intro d m
    rw [List.reverse_cons, rrun_append]
    simp only [vrun]
    by_cases h48 : t.1 = 48
    · rw [if_pos h48, ih]
      constructor
      · intro h; rw [h]; simp [rrun, h48]
      · intro h
        cases hr : rrun m ts.reverse with
        | none => rw [hr] at h; simp at h
        | some e =>
          rw [hr] at h
          simp [rrun, h48] at h
          obtain ⟨h1, h2⟩ := h
          congr 1; omega
    · rw [if_neg h48]
      by_cases hp : 0 < prec t.1
      · by_cases hd : 2 ≤ d
        · rw [if_pos ⟨hp, hd⟩, ih]
          constructor
          · intro h; rw [h]; simp [rrun, h48, hp]; omega
          · intro h
            cases hr : rrun m ts.reverse with
            | none => rw [hr] at h; simp at h
            | some e =>
              rw [hr] at h
              simp [rrun, h48, hp] at h
              congr 1; omega
        · rw [if_neg (by omega)]
          constructor
          · intro h; cases h
          · intro h
            cases hr : rrun m ts.reverse with
            | none => rw [hr] at h; simp at h
            | some e =>
              rw [hr] at h
              simp [rrun, h48, hp] at h
              omega
      · rw [if_neg (by omega)]
        constructor
        · intro h; cases h
        · intro h
          cases hr : rrun m ts.reverse with
          | none => rw [hr] at h; simp at h
          | some e =>
            rw [hr] at h
            simp [rrun, h48, hp] at h
theorem vpB_right (ts : List (Int × Int)) : vpB ts = (rrun 1 ts.reverse == some 0) := by
  unfold vpB
  rw [Bool.eq_iff_iff]
  simp [vrun_rrun]
theorem take_rev (ts : List (Int × Int)) (i : Nat) (h : i < ts.length) : (ts.take (i + 1)).reverse = (kAt ts i, vAt ts i) :: (ts.take i).reverse := by
  rw [take_at ts i h]; simp

theorem vrun_append (a b : List (Int × Int)) : ∀ d, vrun d (a ++ b) = (vrun d a).bind fun e => vrun e b := by
  induction a with
  | nil => intro d; simp [vrun]
  | cons t a ih =>
    intro d
    simp only [List.cons_append, vrun]
    split
    · exact ih _
    · split
      · exact ih _
      · rfl
theorem vrun_snoc_num {ts : List (Int × Int)} {d e : Nat} {v : Int} (h : vrun d ts = some e) : vrun d (ts ++ [(48, v)]) = some (e + 1) := by
  rw [vrun_append, h]; simp [vrun]
theorem vrun_snoc_op {ts : List (Int × Int)} {d e : Nat} {k v : Int} (h : vrun d ts = some e) (h1 : 0 < prec k) (h2 : 2 ≤ e) : vrun d (ts ++ [(k, v)]) = some (e - 1) := by
  have h48 : k ≠ 48 := by rintro rfl; simp [prec] at h1
  rw [vrun_append, h]; simp [vrun, h48, h1, h2]
theorem prec_48 : prec 48 = 0 := by simp [prec]
/-- how many numbers, how many operators -/
def nums (ts : List (Int × Int)) : Nat := (ts.filter fun t => t.1 == 48).length
theorem nums_append (a b : List (Int × Int)) : nums (a ++ b) = nums a + nums b := by simp [nums]
theorem vrun_count (ts : List (Int × Int)) : ∀ d m, vrun d ts = some m → m + ts.length = d + 2 * nums ts := by
  induction ts with
  | nil => intro d m h; simp [vrun] at h; simp [nums, h]
  | cons t ts ih =>
    intro d m h
    simp only [vrun] at h
    by_cases h48 : t.1 = 48
    · rw [if_pos h48] at h
      have := ih _ _ h
      simp [nums, h48] at this ⊢
      omega
    · rw [if_neg h48] at h
      by_cases hp : 0 < prec t.1 ∧ 2 ≤ d
      · rw [if_pos hp] at h
        have := ih _ _ h
        simp [nums, h48] at this ⊢
        omega
      · rw [if_neg hp] at h; cases h
theorem vpB_iff {ts : List (Int × Int)} : vpB ts = true ↔ vrun 0 ts = some 1 := by unfold vpB; simp
theorem vpB_of_not {ts : List (Int × Int)} (h : vrun 0 ts ≠ some 1) : vpB ts = false := by
  cases hv : vpB ts with
  | false => rfl
  | true => exact absurd (vpB_iff.1 hv) h
/-- every token of a run that goes through is a number or an operator -/
theorem vrun_kinds (ts : List (Int × Int)) : ∀ d m, vrun d ts = some m → ∀ t ∈ ts, t.1 = 48 ∨ 0 < prec t.1 := by
  induction ts with
  | nil => intro d m h t ht; cases ht
  | cons u ts ih =>
    intro d m h t ht
    simp only [vrun] at h
    by_cases h48 : u.1 = 48
    · rw [if_pos h48] at h
      rcases List.mem_cons.1 ht with rfl | ht
      · exact .inl h48
      · exact ih _ _ h t ht
    · rw [if_neg h48] at h
      by_cases hp : 0 < prec u.1 ∧ 2 ≤ d
      · rw [if_pos hp] at h
        rcases List.mem_cons.1 ht with rfl | ht
        · exact .inr hp.1
        · exact ih _ _ h t ht
      · rw [if_neg hp] at h; cases h
/-- deeper below, the run goes on alike -/
theorem vrun_shift (ts : List (Int × Int)) : ∀ d m c, vrun d ts = some m → vrun (d + c) ts = some (m + c) := by
  induction ts with
  | nil => intro d m c h; simp [vrun] at h ⊢; omega
  | cons t ts ih =>
    intro d m c h
    simp only [vrun] at h ⊢
    by_cases h48 : t.1 = 48
    · rw [if_pos h48] at h ⊢
      have := ih _ _ c h
      rw [show d + c + 1 = d + 1 + c by omega]; exact this
    · rw [if_neg h48] at h ⊢
      by_cases hp : 0 < prec t.1 ∧ 2 ≤ d
      · rw [if_pos hp] at h
        rw [if_pos ⟨hp.1, by omega⟩]
        have := ih _ _ c h
        rw [show d + c - 1 = d - 1 + c by omega]; exact this
      · rw [if_neg hp] at h; cases h
theorem set_at (ts : List (Int × Int)) (p : Nat) (h : p < ts.length) (x : Int × Int) : ts.set p x = ts.take p ++ x :: ts.drop (p + 1) := List.set_eq_take_append_cons_drop.trans (if_pos h)
theorem split_at (ts : List (Int × Int)) (p : Nat) (h : p < ts.length) : ts = ts.take p ++ (kAt ts p, vAt ts p) :: ts.drop (p + 1) := by
  rw [← drop_at ts p h]; exact (List.take_append_drop p ts).symm
/-- one token flipped between number and operator: no longer valid -/
theorem flip_bad {ts : List (Int × Int)} (h : vrun 0 ts = some 1) (p : Nat) (hp : p < ts.length) (k v : Int) (hk : (kAt ts p = 48 ∧ k ≠ 48) ∨ (kAt ts p ≠ 48 ∧ k = 48)) : vrun 0 (ts.set p (k, v)) ≠ some 1 := by
  intro h2
  have c1 := vrun_count _ _ _ h
  have c2 := vrun_count _ _ _ h2
  have e : nums ts = nums (ts.take p) + (nums [(kAt ts p, vAt ts p)] + nums (ts.drop (p + 1))) := by
    conv => lhs; rw [split_at ts p hp]
    rw [nums_append]
    congr 1
    exact nums_append [(kAt ts p, vAt ts p)] (ts.drop (p + 1))
  have e2 : nums (ts.set p (k, v)) = nums (ts.take p) + (nums [(k, v)] + nums (ts.drop (p + 1))) := by
    rw [set_at ts p hp, nums_append]
    congr 1
    exact nums_append [(k, v)] (ts.drop (p + 1))
  rw [List.length_set] at c2
  rcases hk with ⟨a, b⟩ | ⟨a, b⟩
  · have x1 : nums [(kAt ts p, vAt ts p)] = 1 := by simp [nums, a]
    have x2 : nums [(k, v)] = 0 := by simp [nums, b]
    omega
  · have x1 : nums [(kAt ts p, vAt ts p)] = 0 := by simp [nums, a]
    have x2 : nums [(k, v)] = 1 := by simp [nums, b]
    omega
theorem put_bad {ts : List (Int × Int)} (p : Nat) (hp : p < ts.length) (k v : Int) (hk : k ≠ 48) (hk2 : ¬ 0 < prec k) : vrun 0 (ts.set p (k, v)) ≠ some 1 := by
  intro h2
  have := vrun_kinds _ _ _ h2 (k, v) (by rw [set_at ts p hp]; simp)
  rcases this with h | h
  · exact hk h
  · exact hk2 h
end Ex
