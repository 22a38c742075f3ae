import Derived.Test.YmbrbuHFlat
set_option linter.unusedVariables false
set_option linter.unusedSimpArgs false
set_option linter.unnecessarySimpa false
namespace Go.Proofs.Ymbrbu
open Go.RowKit

/- the verdict of the law, as it is reckoned there: (ok, want, depth) -/
def vStep (st : Bool × Bool × Int) (t : Tk) : Bool × Bool × Int :=
  if t.1 = 48 then (st.1 && st.2.1, false, st.2.2)
  else if t.1 = 40 then (st.1 && st.2.1, st.2.1, st.2.2 + 1)
  else if t.1 = 41 then (st.1 && !st.2.1 && decide (0 ≤ st.2.2 - 1), st.2.1, st.2.2 - 1)
  else if 0 < Ex.prec t.1 then (st.1 && !st.2.1, true, st.2.2)
  else (false, st.2.1, st.2.2)
def vRun (ts : List Tk) (st : Bool × Bool × Int) : Bool × Bool × Int := ts.foldl vStep st
def isPar (t : Tk) : Bool := t.1 == 40 || t.1 == 41
def isNum (t : Tk) : Bool := t.1 == 48
def isL (t : Tk) : Bool := t.1 == 40
theorem vStep_false (st : Bool × Bool × Int) (t : Tk) (h : st.1 = false) : (vStep st t).1 = false := by
  unfold vStep; repeat' split
  all_goals simp [h]
theorem vRun_false : ∀ (ts : List Tk) (st : Bool × Bool × Int), st.1 = false → (vRun ts st).1 = false
  | [], st, h => h
  | t :: ts, st, h => vRun_false ts (vStep st t) (vStep_false st t h)

def onlyOp (S : List Tk) : Prop := ∀ s ∈ S, 0 < Ex.prec s.1
theorem vrun_ops : ∀ (A : List Tk) (d : Nat), onlyOp A → 1 ≤ d → Ex.vrun (A.length + d) A = some d
  | [], d, _, _ => by simp [Ex.vrun]
  | (k, v) :: A, d, h, hd => by
    have hp := h (k, v) (by simp)
    rw [Ex.vrun_op (prec_ne hp).1 hp (by simp only [List.length_cons]; omega)]
    have := vrun_ops A d (fun s hs => h s (by simp [hs])) hd
    rw [show ((k, v) :: A).length + d - 1 = A.length + d by simp only [List.length_cons]; omega]
    exact this
def cntO (S : List Tk) : Nat := S.countP fun t => !isL t
def cntL (S : List Tk) : Nat := S.countP isL
structure VI (ts out S : List Tk) (want : Bool) (depth : Int) : Prop where
  kinds : ∀ s ∈ S, s.1 = 40 ∨ 0 < Ex.prec s.1
  dep : depth = cntL S
  val : Ex.vrun 0 out = some (cntO S + if want then 0 else 1)
  nums : out.filter isNum = ts.filter isNum
  len : out.length + cntO S + ts.countP isPar = ts.length
theorem ops_no_par {A : List Tk} (h : onlyOp A) : cntO A = A.length ∧ cntL A = 0 ∧ A.filter isNum = [] := by
  refine ⟨?_, ?_, ?_⟩
  · rw [cntO, List.countP_eq_length]; intro a ha; have := prec_ne (h a ha); simp [isL, this.2.1]
  · rw [cntL, List.countP_eq_zero]; intro a ha; have := prec_ne (h a ha); simp [isL, this.2.1]
  · rw [List.filter_eq_nil_iff]; intro a ha; have := prec_ne (h a ha); simp [isNum, this.1]
theorem takeWhile_mem {α : Type} (p : α → Bool) : ∀ (S : List α) (s : α), s ∈ S.takeWhile p → p s = true
  | [], s, h => by simp at h
  | x :: S, s, h => by
    by_cases hx : p x = true
    · simp [List.takeWhile, hx] at h
      rcases h with rfl | h
      · exact hx
      · exact takeWhile_mem p S s h
    · have hx' : p x = false := by simpa using hx
      simp [List.takeWhile, hx'] at h
/-- S parts at the first token weaker than m -/
theorem part {m : Int} (hm : 1 ≤ m) (S : List Tk) : ∃ A B, S.takeWhile (ge m) = A ∧ S.dropWhile (ge m) = B ∧ S = A ++ B ∧ onlyOp A := by
  refine ⟨_, _, rfl, rfl, (List.takeWhile_append_dropWhile).symm, fun s hs => ?_⟩
  have := takeWhile_mem (ge m) S s hs
  simp [ge] at this
  omega
theorem VI.moved {ts out A B : List Tk} {want : Bool} {depth : Int} (h : VI ts out (A ++ B) want depth) (hA : onlyOp A) (hw : want = false) : VI ts (out ++ A) B want depth := by
  obtain ⟨o1, o2, o3⟩ := ops_no_par hA
  obtain ⟨h1, h2, h3, h4, h5⟩ := h
  have e1 : cntO (A ++ B) = A.length + cntO B := by rw [cntO, List.countP_append]; exact congrArg (· + _) o1
  have e2 : cntL (A ++ B) = cntL B := by rw [cntL, List.countP_append]; show cntL A + _ = _; rw [o2, Nat.zero_add]; rfl
  subst hw
  refine ⟨fun s hs => h1 s (by simp [hs]), by rw [h2, e2], ?_, by rw [List.filter_append, o3, List.append_nil, h4], by rw [e1] at h5; simp; omega⟩
  rw [Ex.vrun_append, h3, e1]
  have := vrun_ops A (cntO B + 1) hA (by omega)
  simp only [Option.bind_some]
  rw [show A.length + cntO B + (if false = true then 0 else 1) = A.length + (cntO B + 1) by simp; omega, this]
  simp
theorem VI.next {ts out S : List Tk} {want : Bool} {depth : Int} (h : VI ts out S want depth) (t : Tk) :
    match tpStep (out, S, want) t with
    | none => (vStep (true, want, depth) t).1 = false
    | some (out', S', want') => ∃ d', vStep (true, want, depth) t = (true, want', d') ∧ VI (ts ++ [t]) out' S' want' d' := by
  obtain ⟨k, v⟩ := t
  by_cases h48 : k = 48
  · subst h48
    cases want with
    | false => simp [tpStep, vStep]
    | true =>
      simp only [tpStep, vStep]
      refine ⟨depth, by simp, h.kinds, h.dep, ?_, ?_, ?_⟩
      · rw [Ex.vrun_append, h.val]; simp [Ex.vrun]
      · rw [List.filter_append, List.filter_append, h.nums]
      · have := h.len; simp [isPar]; omega
  · by_cases h40 : k = 40
    · subst h40
      cases want with
      | false => simp [tpStep, vStep]
      | true =>
        simp only [tpStep, vStep]
        refine ⟨depth + 1, by simp, ?_, ?_, ?_, ?_, ?_⟩
        · intro s hs
          rcases List.mem_cons.1 hs with rfl | hs
          · exact .inl rfl
          · exact h.kinds s hs
        · rw [h.dep]; simp [cntL, isL]
        · have := h.val; simpa [cntO, isL] using this
        · rw [List.filter_append, h.nums]; simp [isNum]
        · have := h.len; simp [cntO, isL, isPar] at this ⊢; omega
    · cases want with
      | true =>
        have : tpStep (out, S, true) (k, v) = none := by simp [tpStep, h48, h40]
        rw [this]
        show (vStep (true, true, depth) (k, v)).1 = false
        unfold vStep
        simp only [h48, h40, if_false]
        repeat' split
        all_goals simp
      | false =>
        by_cases h41 : k = 41
        · subst h41
          obtain ⟨A, B, eA, eB, eS, hA⟩ := part (Int.le_refl 1) S
          have hm : VI ts (out ++ A) B false depth := VI.moved (by rw [← eS]; exact h) hA rfl
          cases B with
          | nil =>
            have : tpStep (out, S, false) (41, v) = none := by simp [tpStep, eB]
            rw [this]
            have hd := hm.dep
            simp [cntL] at hd
            simp [vStep, hd]
          | cons x r =>
            have : tpStep (out, S, false) (41, v) = some (out ++ A, r, false) := by simp [tpStep, eA, eB]
            rw [this]
            have hx : ge 1 x = false := by
              have := List.head?_dropWhile_not (ge 1) S
              rw [eB] at this
              simpa using this
            have hx40 : x.1 = 40 := by
              rcases hm.kinds x (by simp) with h | h
              · exact h
              · simp [ge] at hx; omega
            have hL : isL x = true := by simp [isL, hx40]
            have hd := hm.dep
            have e : cntL (x :: r) = cntL r + 1 := by simp [cntL, hL]
            have e' : cntO (x :: r) = cntO r := by simp [cntO, hL]
            refine ⟨depth - 1, ?_, fun s hs => hm.kinds s (by simp [hs]), by rw [hd, e]; omega, by rw [← e']; exact hm.val, ?_, ?_⟩
            · simp [vStep, hd, e]
            · rw [hm.nums, List.filter_append]; simp [isNum]
            · have := hm.len; rw [e'] at this; simp [isPar]; simp at this; omega
        · by_cases hp : 0 < Ex.prec k
          · obtain ⟨A, B, eA, eB, eS, hA⟩ := part (m := Ex.prec k) (by omega) S
            have hm : VI ts (out ++ A) B false depth := VI.moved (by rw [← eS]; exact h) hA rfl
            have : tpStep (out, S, false) (k, v) = some (out ++ A, (k, v) :: B, true) := by rw [tpStep_op _ _ _ _ hp, eA, eB]
            rw [this]
            have hL : isL (k, v) = false := by simpa [isL] using h40
            refine ⟨depth, by simp [vStep, h48, h40, h41, hp], ?_, ?_, ?_, ?_, ?_⟩
            · intro s hs
              rcases List.mem_cons.1 hs with rfl | hs
              · exact .inr hp
              · exact hm.kinds s hs
            · rw [hm.dep]; simp [cntL, hL]
            · have := hm.val; simpa [cntO, hL] using this
            · rw [hm.nums, List.filter_append]; simp [isNum, h48]
            · have := hm.len; simp [cntO, hL, isPar, h40, h41] at this ⊢; omega
          · have : tpStep (out, S, false) (k, v) = none := by simp [tpStep, h48, h40, h41, hp]
            rw [this]
            simp [vStep, h48, h40, h41, hp]
/-- the whole run -/
theorem VI.run : ∀ (us ts out S : List Tk) (want : Bool) (depth : Int), VI ts out S want depth →
    match tpRun us (out, S, want) with
    | none => (vRun us (true, want, depth)).1 = false
    | some (out', S', want') => ∃ d', vRun us (true, want, depth) = (true, want', d') ∧ VI (ts ++ us) out' S' want' d'
  | [], ts, out, S, want, depth, h => ⟨depth, rfl, by rw [List.append_nil]; exact h⟩
  | t :: us, ts, out, S, want, depth, h => by
    have hn := h.next t
    rw [tpRun_cons]
    cases hs : tpStep (out, S, want) t with
    | none =>
      rw [hs] at hn
      exact vRun_false us _ hn
    | some st =>
      obtain ⟨out', S', want'⟩ := st
      rw [hs] at hn
      obtain ⟨d', e, hv⟩ := hn
      have hr := VI.run us (ts ++ [t]) out' S' want' d' hv
      have e2 : vRun (t :: us) (true, want, depth) = vRun us (true, want', d') := by
        show vRun us (vStep (true, want, depth) t) = _
        rw [e]
      rw [e2, List.append_assoc] at *
      exact hr
theorem tp_verdict (ts : List Tk) (ok want : Bool) (d : Int) (h : vRun ts (true, true, 0) = (ok, want, d)) :
    (¬ (ok = true ∧ want = false ∧ d = 0) → tp ts = none) ∧
    ((ok = true ∧ want = false ∧ d = 0) → ∃ out, tp ts = some out ∧ out.length + ts.countP isPar = ts.length ∧ Ex.vpB out = true ∧ out.filter isNum = ts.filter isNum) := by
  have hi : VI [] [] [] true 0 := ⟨by simp, by simp [cntL], by simp [Ex.vrun, cntO], rfl, by simp [cntO]⟩
  have hr := VI.run ts [] [] [] true 0 hi
  unfold tp
  cases hs : tpRun ts ([], [], true) with
  | none =>
    rw [hs] at hr
    rw [h] at hr
    simp at hr
    subst hr
    simp
  | some st =>
    obtain ⟨out, S, w⟩ := st
    rw [hs] at hr
    obtain ⟨d', e, hv⟩ := hr
    rw [h] at e
    cases e
    obtain ⟨A, B, eA, eB, eS, hA⟩ := part (Int.le_refl 1) S
    simp only [Option.bind_some, tpEnd, eA, eB]
    cases want with
    | true => simp
    | false =>
      have hm : VI ts (out ++ A) B false d := VI.moved (by rw [← eS]; exact hv) hA rfl
      cases B with
      | nil =>
        have hd := hm.dep
        simp [cntL] at hd
        refine ⟨fun hn => absurd (by simp [hd]) hn, fun _ => ⟨out ++ A, by simp, ?_, ?_, by simpa using hm.nums⟩⟩
        · have := hm.len; simp [cntO] at this ⊢; omega
        · have := hm.val; rw [Ex.vpB_iff]; simpa [cntO] using this
      | cons x r =>
        have hx : ge 1 x = false := by
          have := List.head?_dropWhile_not (ge 1) S
          rw [eB] at this
          simpa using this
        have hx40 : x.1 = 40 := by
          rcases hm.kinds x (by simp) with h | h
          · exact h
          · simp [ge] at hx; omega
        have hL : isL x = true := by simp [isL, hx40]
        have hd := hm.dep
        have e : cntL (x :: r) = cntL r + 1 := by simp [cntL, hL]
        refine ⟨fun _ => by simp, fun ⟨_, _, h0⟩ => ?_⟩
        rw [e] at hd
        omega
end Go.Proofs.Ymbrbu
