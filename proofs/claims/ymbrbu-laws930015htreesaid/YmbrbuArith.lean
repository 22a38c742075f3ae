namespace Ex
def inI (n : Int) : Prop := -9223372036854775808 ≤ n ∧ n ≤ 9223372036854775807
def wr (n : Int) : Int := (n + 9223372036854775808) % 18446744073709551616 - 9223372036854775808

theorem abs_mul_lt_of {q b : Int} (hq : q ≠ 0) : b.natAbs ≤ (q*b).natAbs := by
  rw [Int.natAbs_mul]
  exact Nat.le_mul_of_pos_left _ (by omega)

/-- p div b = a exactly when a*b and p are less than |b| apart, at least one way -/
theorem tdiv_close (p b : Int) (hb : b ≠ 0) : (p - p.tdiv b * b).natAbs < b.natAbs := by
  have h1 := Int.mul_tdiv_add_tmod p b
  have e : p - p.tdiv b * b = p.tmod b := by rw [Int.mul_comm]; omega
  rw [e, Int.natAbs_tmod]
  exact Nat.mod_lt _ (by omega)

theorem mul_check {a b : Int} (ha : inI a) (hb : inI b) (h0 : b ≠ 0) (hm : ¬ (a = -9223372036854775808 ∧ b = -1)) :
    wr ((wr (a * b)).tdiv b) = a ↔ inI (a * b) := by
  unfold inI at ha hb
  constructor
  · intro h
    -- p = a*b + k*2^64
    generalize hp : wr (a*b) = p at h
    have hpr : inI p := by unfold wr at hp; unfold inI; omega
    have hc := tdiv_close p b h0
    have hq : (p.tdiv b).natAbs ≤ p.natAbs := by rw [Int.natAbs_tdiv]; exact Nat.div_le_self _ _
    unfold inI at hpr
    have hq2 : p.tdiv b = a := by
      by_cases hx : p.tdiv b = 9223372036854775808
      · exfalso
        rw [hx] at h hc
        have ha' : a = -9223372036854775808 := by unfold wr at h; omega
        have : p = -9223372036854775808 := by omega
        rw [this] at hc
        omega
      · unfold wr at h; omega
    rw [hq2] at hc
    have : p - a * b = 0 := by
      generalize a * b = ab at *
      unfold wr at hp
      omega
    have : a * b = p := by omega
    rw [this]; exact hpr
  · intro h
    have e1 : wr (a*b) = a*b := by
      generalize a*b = ab at *
      unfold inI at h; unfold wr; omega
    rw [e1, Int.mul_tdiv_cancel _ h0]
    unfold wr; omega

def inB (n : Int) : Bool := decide (-9223372036854775808 ≤ n ∧ n ≤ 9223372036854775807)
theorem inB_iff {n : Int} : inB n = true ↔ inI n := by unfold inB inI; simp
theorem inB_false {n : Int} : inB n = false ↔ ¬ inI n := by unfold inB inI; simp
/-- what MulChecked answers: the verdict, the value -/
def mulB (a b : Int) : Bool := inB (a * b)
def mulV (a b : Int) : Int := if inB (a * b) = true then a * b else 0
theorem mulV_yes {a b : Int} (h : mulB a b = true) : mulV a b = a * b := by unfold mulV mulB at *; rw [if_pos h]
theorem mulV_no {a b : Int} (h : mulB a b = false) : mulV a b = 0 := by unfold mulV mulB at *; rw [if_neg (by simp [h])]
theorem mul_yes {a b : Int} (ha : inI a) (hb : inI b) (h0 : b ≠ 0) (hm : ¬ (a = -9223372036854775808 ∧ b = -1)) (h : wr ((wr (a * b)).tdiv b) = a) : mulB a b = true :=
  inB_iff.2 ((mul_check ha hb h0 hm).1 h)
theorem mul_no {a b : Int} (ha : inI a) (hb : inI b) (h0 : b ≠ 0) (hm : ¬ (a = -9223372036854775808 ∧ b = -1)) (h : ¬ wr ((wr (a * b)).tdiv b) = a) : mulB a b = false :=
  inB_false.2 (fun k => h ((mul_check ha hb h0 hm).2 k))
theorem wr_in {n : Int} (h : inI n) : wr n = n := by unfold wr; unfold inI at h; omega

theorem edge_pos {b : Int} (h : 2 ≤ b) (hb : b ≤ 9223372036854775807) :
    ∃ lo hi : Int, lo = wr (-(Int.tdiv 9223372036854775808 b)) ∧ hi = 9223372036854775807 / b ∧ inI lo ∧ inI hi ∧ inI (lo * b) ∧ inI (hi * b) ∧ -9223372036854775808 < lo ∧ hi < 9223372036854775807 ∧
      ¬ inI ((lo - 1) * b) ∧ ¬ inI ((hi + 1) * b) := by
  refine ⟨_, _, rfl, rfl, ?_⟩
  rw [Int.tdiv_eq_ediv_of_nonneg (by omega)]
  have e1 := Int.mul_ediv_add_emod 9223372036854775808 b
  have e2 := Int.mul_ediv_add_emod 9223372036854775807 b
  have m1 := Int.emod_nonneg 9223372036854775808 (show b ≠ 0 by omega)
  have m2 := Int.emod_lt_of_pos 9223372036854775808 (show 0 < b by omega)
  have m3 := Int.emod_nonneg 9223372036854775807 (show b ≠ 0 by omega)
  have m4 := Int.emod_lt_of_pos 9223372036854775807 (show 0 < b by omega)
  have q1 : 0 ≤ (9223372036854775808 : Int) / b := Int.ediv_nonneg (by omega) (by omega)
  have q2 : 0 ≤ (9223372036854775807 : Int) / b := Int.ediv_nonneg (by omega) (by omega)
  generalize (9223372036854775808 : Int) / b = x at *
  generalize (9223372036854775807 : Int) / b = y at *
  generalize (9223372036854775808 : Int) % b = r at *
  generalize (9223372036854775807 : Int) % b = t at *
  have hx : 2 * x ≤ b * x := Int.mul_le_mul_of_nonneg_right h q1
  have hy : 2 * y ≤ b * y := Int.mul_le_mul_of_nonneg_right h q2
  have hw : wr (-x) = -x := by unfold wr; omega
  rw [hw, Int.sub_mul, Int.add_mul, Int.neg_mul, Int.mul_comm x b, Int.mul_comm y b]
  unfold inI
  generalize b * x = bx at *
  generalize b * y = by' at *
  refine ⟨?_, ?_, ?_, ?_, ?_, ?_, ?_, ?_⟩ <;> omega

theorem edge_neg {b : Int} (h : b ≤ -2) (hb : -9223372036854775808 ≤ b) :
    ∃ lo hi : Int, lo = wr (Int.tdiv 9223372036854775807 b) ∧ hi = wr (-(Int.tdiv 9223372036854775808 b)) ∧ inI lo ∧ inI hi ∧ inI (lo * b) ∧ inI (hi * b) ∧ -9223372036854775808 < lo ∧ hi < 9223372036854775807 ∧
      ¬ inI ((lo - 1) * b) ∧ ¬ inI ((hi + 1) * b) := by
  refine ⟨_, _, rfl, rfl, ?_⟩
  obtain ⟨c, rfl⟩ : ∃ c, b = -c := ⟨-b, by omega⟩
  have hc : 2 ≤ c := by omega
  rw [Int.tdiv_neg, Int.tdiv_neg, Int.tdiv_eq_ediv_of_nonneg (by omega), Int.tdiv_eq_ediv_of_nonneg (by omega), Int.neg_neg]
  have e1 := Int.mul_ediv_add_emod 9223372036854775808 c
  have e2 := Int.mul_ediv_add_emod 9223372036854775807 c
  have m1 := Int.emod_nonneg 9223372036854775808 (show c ≠ 0 by omega)
  have m2 := Int.emod_lt_of_pos 9223372036854775808 (show 0 < c by omega)
  have m3 := Int.emod_nonneg 9223372036854775807 (show c ≠ 0 by omega)
  have m4 := Int.emod_lt_of_pos 9223372036854775807 (show 0 < c by omega)
  have q1 : 0 ≤ (9223372036854775808 : Int) / c := Int.ediv_nonneg (by omega) (by omega)
  have q2 : 0 ≤ (9223372036854775807 : Int) / c := Int.ediv_nonneg (by omega) (by omega)
  generalize (9223372036854775808 : Int) / c = x at *
  generalize (9223372036854775807 : Int) / c = y at *
  generalize (9223372036854775808 : Int) % c = r at *
  generalize (9223372036854775807 : Int) % c = t at *
  have hx : 2 * x ≤ c * x := Int.mul_le_mul_of_nonneg_right hc q1
  have hy : 2 * y ≤ c * y := Int.mul_le_mul_of_nonneg_right hc q2
  have hw : wr (-y) = -y := by unfold wr; omega
  have hw2 : wr x = x := by unfold wr; omega
  rw [hw, hw2, Int.sub_mul, Int.add_mul, Int.neg_mul, Int.mul_neg, Int.mul_neg, Int.mul_comm x c, Int.mul_comm y c]
  unfold inI
  generalize c * x = bx at *
  generalize c * y = by' at *
  refine ⟨?_, ?_, ?_, ?_, ?_, ?_, ?_, ?_⟩ <;> omega

/-- what Apply answers: value, code -/
def fit (r : Int) : Int × Int := if inB r = true then (r, 0) else (0, 3)
def ap (op a b : Int) : Int × Int :=
  if op = 43 then fit (a + b) else if op = 45 then fit (a - b) else if op = 42 then fit (a * b) else
  if op = 47 then (if b = 0 then (0, 4) else fit (a.tdiv b)) else (0, 2)
theorem fit_in {r : Int} (h : inI r) : fit r = (r, 0) := if_pos (inB_iff.2 h)
theorem fit_out {r : Int} (h : ¬ inI r) : fit r = (0, 3) := if_neg (by rw [inB_iff]; exact h)
theorem fit_cases (r : Int) : (inI r ∧ fit r = (r, 0)) ∨ (¬ inI r ∧ fit r = (0, 3)) := by
  by_cases h : inI r
  · exact .inl ⟨h, fit_in h⟩
  · exact .inr ⟨h, fit_out h⟩
theorem ap_add (a b : Int) : ap 43 a b = fit (a + b) := rfl
theorem ap_sub (a b : Int) : ap 45 a b = fit (a - b) := rfl
theorem ap_mul (a b : Int) : ap 42 a b = fit (a * b) := rfl
theorem ap_div0 (a b : Int) (h : b = 0) : ap 47 a b = (0, 4) := by simp [ap, h]
theorem ap_div (a b : Int) (h : b ≠ 0) : ap 47 a b = fit (a.tdiv b) := by simp [ap, h]
theorem ap_other (op a b : Int) (h1 : op ≠ 43) (h2 : op ≠ 45) (h3 : op ≠ 42) (h4 : op ≠ 47) : ap op a b = (0, 2) := by simp [ap, h1, h2, h3, h4]
theorem tdiv_in {a b : Int} (ha : inI a) (h : ¬ (a = -9223372036854775808 ∧ b = -1)) : inI (a.tdiv b) := by
  have h1 : (a.tdiv b).natAbs ≤ a.natAbs := by rw [Int.natAbs_tdiv]; exact Nat.div_le_self _ _
  unfold inI at *
  by_cases hx : a.tdiv b = 9223372036854775808
  · exfalso
    have ha' : a = -9223372036854775808 := by omega
    subst ha'
    apply h
    refine ⟨rfl, ?_⟩
    have e1 := Int.mul_tdiv_add_tmod (-9223372036854775808) b
    have hb0 : b ≠ 0 := by rintro rfl; simp at hx
    have e2 := tdiv_close (-9223372036854775808) b hb0
    rw [hx] at e2
    have h3 : ((-9223372036854775808 : Int).tdiv b).natAbs = 9223372036854775808 / b.natAbs := by rw [Int.natAbs_tdiv]; rfl
    rw [hx] at h3
    have h4 : b.natAbs = 1 := by
      have h5 : (9223372036854775808 : Nat) = 9223372036854775808 / b.natAbs := by simpa using h3
      by_cases h6 : b.natAbs ≤ 1
      · omega
      · have : 9223372036854775808 / b.natAbs ≤ 9223372036854775808 / 2 := Nat.div_le_div_left (by omega) (by omega)
        omega
    have : b = 1 ∨ b = -1 := by omega
    rcases this with rfl | rfl
    · simp at hx
    · rfl
  · omega
theorem ap_in {op a b : Int} : inI (ap op a b).1 := by
  have hz : inI (0 : Int) := by unfold inI; omega
  have hf : ∀ r, inI (fit r).1 := fun r => by rcases fit_cases r with ⟨h, e⟩ | ⟨_, e⟩ <;> rw [e] <;> assumption
  unfold ap
  repeat' split
  all_goals first | exact hf _ | exact hz

theorem sgn_mul (a b : Int) : (a * b).natAbs = a.natAbs * b.natAbs := Int.natAbs_mul a b
theorem mul_neg_of {a b : Int} (h : (a < 0) ≠ (b < 0)) : a * b ≤ 0 := by
  by_cases ha : a < 0
  · by_cases hb : b < 0
    · simp [ha, hb] at h
    · exact Int.mul_nonpos_of_nonpos_of_nonneg (by omega) (by omega)
  · by_cases hb : b < 0
    · exact Int.mul_nonpos_of_nonneg_of_nonpos (by omega) (by omega)
    · simp [ha, hb] at h
theorem mul_pos_of {a b : Int} (h : (a < 0) ↔ (b < 0)) : 0 ≤ a * b := by
  by_cases ha : a < 0
  · exact Int.mul_nonneg_of_nonpos_of_nonpos (by omega) (by have := h.1 ha; omega)
  · exact Int.mul_nonneg (by omega) (by have : ¬ b < 0 := fun k => ha (h.2 k); omega)
theorem lim_iff {lim ua ub : Int} (hb : 0 < ub) : lim / ub < ua ↔ lim < ua * ub := by
  exact Int.ediv_lt_iff_lt_mul hb
/-- the product's magnitude against the bound -/
theorem mag_fits {a b ua ub : Int} (hua : (a.natAbs : Int) = ua) (hub : (b.natAbs : Int) = ub) :
    ((a < 0 ↔ b < 0) → a * b = ua * ub) ∧ (¬ (a < 0 ↔ b < 0) → a * b = -(ua * ub)) := by
  have h := sgn_mul a b
  have h2 : ((a * b).natAbs : Int) = ua * ub := by rw [h, Int.natCast_mul, hua, hub]
  constructor
  · intro k; have := mul_pos_of k; omega
  · intro k; have := mul_neg_of (a := a) (b := b) (fun e => k (by rw [e])); omega
end Ex
