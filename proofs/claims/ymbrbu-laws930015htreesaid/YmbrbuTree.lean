/- plain: ToPostfix and EvalPostfix on expressions put together from their parts -/
import Derived.Test.YmbrbuHFlat
import Derived.Test.YmbrbuEv
set_option linter.unusedVariables false
set_option linter.unusedSimpArgs false
set_option linter.unnecessarySimpa false
namespace Go.Proofs.Ymbrbu
open Go.RowKit

/-- the infix tokens I of binding strength p are turned into post -/
def Expr (p : Int) (I post : List Tk) : Prop :=
  ∃ P Q, P ++ Q = post ∧ (∀ q ∈ Q, p ≤ Ex.prec q.1) ∧ ∀ out S, (∀ t, S.head? = some t → Ex.prec t.1 < p) → tpRun I (out, S, true) = some (out ++ P, Q ++ S, false)
theorem Expr.num (v : Int) (p : Int) : Expr p [(48, v)] [(48, v)] :=
  ⟨[(48, v)], [], rfl, by simp, fun out S _ => by simp [tpRun, tpStep_num]⟩
theorem Expr.mono {p p' : Int} {I post : List Tk} (h : Expr p I post) (hp : p' ≤ p) : Expr p' I post := by
  obtain ⟨P, Q, h1, h2, h3⟩ := h
  exact ⟨P, Q, h1, fun q hq => Int.le_trans hp (h2 q hq), fun out S hS => h3 out S (fun t ht => Int.lt_of_lt_of_le (hS t ht) hp)⟩
/-- a stack that is drained down to what binds less -/
theorem drained {p : Int} {Q S : List Tk} (hQ : ∀ q ∈ Q, p ≤ Ex.prec q.1) (hS : ∀ t, S.head? = some t → Ex.prec t.1 < p) : (Q ++ S).takeWhile (ge p) = Q ∧ (Q ++ S).dropWhile (ge p) = S := by
  induction Q with
  | nil =>
    cases S with
    | nil => simp
    | cons t S =>
      have := hS t rfl
      have e : ge p t = false := by unfold ge; exact decide_eq_false (by omega)
      simp [List.takeWhile, List.dropWhile, e]
  | cons q Q ih =>
    have e : ge p q = true := by unfold ge; exact decide_eq_true (hQ q (by simp))
    obtain ⟨h1, h2⟩ := ih (fun x hx => hQ x (by simp [hx]))
    simp [List.takeWhile, List.dropWhile, e, h1, h2]
theorem Expr.paren {p : Int} {I post : List Tk} (x y : Int) (p' : Int) (h : Expr p I post) (hp : 1 ≤ p) : Expr p' ((40, x) :: I ++ [(41, y)]) post := by
  obtain ⟨P, Q, h1, h2, h3⟩ := h
  refine ⟨post, [], by simp, by simp, fun out S _ => ?_⟩
  rw [List.cons_append, tpRun_cons]
  have e0 : tpStep (out, S, true) (40, x) = some (out, (40, x) :: S, true) := by simp [tpStep]
  rw [e0, Option.bind_some, tpRun_append, h3 out ((40, x) :: S) (fun t ht => by simp at ht; subst ht; simp [Ex.prec]; omega)]
  obtain ⟨d1, d2⟩ := drained (p := 1) (Q := Q) (S := (40, x) :: S) (fun q hq => by have := h2 q hq; omega) (fun t ht => by simp at ht; subst ht; simp [Ex.prec])
  simp only [Option.bind_some, tpRun]
  have e1 : tpStep (out ++ P, Q ++ (40, x) :: S, false) (41, y) = some (out ++ P ++ Q, S, false) := by
    simp [tpStep, d1, d2]
  rw [e1]
  simp [← h1]
theorem Expr.join {p pl pr : Int} {L R pl' pr' : List Tk} {k v : Int} (hl : Expr pl L pl') (hr : Expr pr R pr') (hk : Ex.prec k = p) (hp : 1 ≤ p) (h1 : p ≤ pl) (h2 : p < pr) : Expr p (L ++ (k, v) :: R) (pl' ++ pr' ++ [(k, v)]) := by
  obtain ⟨P, Q, a1, a2, a3⟩ := hl
  obtain ⟨P2, Q2, b1, b2, b3⟩ := hr
  refine ⟨pl' ++ P2, Q2 ++ [(k, v)], by rw [← b1]; simp, ?_, fun out S hS => ?_⟩
  · intro q hq
    rcases List.mem_append.1 hq with h | h
    · have := b2 q h; omega
    · simp at h; subst h; simp [hk]
  · rw [tpRun_append, a3 out S (fun t ht => by have := hS t ht; omega), Option.bind_some, tpRun_cons, tpStep_op _ _ _ _ (by omega)]
    obtain ⟨d1, d2⟩ := drained (p := p) (Q := Q) (S := S) (fun q hq => by have := a2 q hq; omega) hS
    rw [hk, d1, d2, Option.bind_some, b3 _ ((k, v) :: S) (fun t ht => by simp at ht; subst ht; simp [hk]; omega)]
    rw [← a1]
    simp
theorem Expr.tp {p : Int} {I post : List Tk} (h : Expr p I post) (hp : 1 ≤ p) : tp I = some post := by
  obtain ⟨P, Q, h1, h2, h3⟩ := h
  have e := h3 [] [] (fun t ht => by cases ht)
  unfold Go.Proofs.Ymbrbu.tp
  rw [e, Option.bind_some]
  obtain ⟨d1, d2⟩ := drained (p := 1) (Q := Q) (S := []) (fun q hq => by have := h2 q hq; omega) (fun t ht => by cases ht)
  simp only [tpEnd, d1, d2]
  simp [h1]

/-- the postfix tokens stand for the value v, or the code c of the first fault -/
def Val (post : List Tk) (v c : Int) : Prop :=
  (∀ d rest, Ex.vrun d (post ++ rest) = Ex.vrun (d + 1) rest) ∧ ∀ st rest, Ex.er st (post ++ rest) = if c = 0 then Ex.er (v :: st) rest else (0, c)
def jn (op v c w d : Int) : Int × Int := if c ≠ 0 then (0, c) else if d ≠ 0 then (0, d) else Ex.ap op v w
theorem Val.num (v : Int) : Val [(48, v)] v 0 := ⟨fun d rest => Ex.vrun_num rfl, fun st rest => by rw [if_pos rfl]; exact Ex.er_num rfl⟩
theorem ap_zero {op a b : Int} (h : 0 < Ex.prec op) (h0 : (Ex.ap op a b).2 ≠ 0) : (Ex.ap op a b).1 = 0 := by
  have hf : ∀ r, (Ex.fit r).2 ≠ 0 → (Ex.fit r).1 = 0 := fun r => by
    rcases Ex.fit_cases r with ⟨_, e⟩ | ⟨_, e⟩ <;> rw [e] <;> simp
  rcases Ex.prec_cases op with ⟨_, rfl | rfl⟩ | ⟨_, rfl | rfl⟩ | ⟨h0, _⟩
  · exact hf (a + b) h0
  · exact hf (a - b) h0
  · exact hf (a * b) h0
  · by_cases hb : b = 0
    · simp [Ex.ap, hb]
    · rw [Ex.ap_div _ _ hb] at h0 ⊢; exact hf _ h0
  · omega
theorem Val.join {pl pr : List Tk} {v c w d k x : Int} (hl : Val pl v c) (hr : Val pr w d) (hk : 0 < Ex.prec k) : Val (pl ++ pr ++ [(k, x)]) (jn k v c w d).1 (jn k v c w d).2 := by
  obtain ⟨n1, n2, n3⟩ := prec_ne hk
  refine ⟨fun e rest => ?_, fun st rest => ?_⟩
  · rw [List.append_assoc, List.append_assoc, hl.1, hr.1]
    show Ex.vrun (e + 1 + 1) ((k, x) :: rest) = _
    rw [Ex.vrun_op n1 hk (by omega)]; rfl
  · rw [List.append_assoc, List.append_assoc, hl.2]
    by_cases hc : c = 0
    · rw [if_pos hc, hr.2]
      by_cases hd : d = 0
      · rw [if_pos hd]
        have e : jn k v c w d = Ex.ap k v w := by simp [jn, hc, hd]
        rw [e]
        show Ex.er (w :: v :: st) ((k, x) :: rest) = _
        by_cases h0 : (Ex.ap k v w).2 = 0
        · rw [Ex.er_ok n1 h0, if_pos h0]
        · rw [Ex.er_fail n1 h0, if_neg h0]
      · rw [if_neg hd]
        have e : jn k v c w d = (0, d) := by simp [jn, hc, hd]
        rw [e, if_neg hd]
    · rw [if_neg hc]
      have e : jn k v c w d = (0, c) := by simp [jn, hc]
      rw [e, if_neg hc]
theorem Val.ev {post : List Tk} {v c : Int} (h : Val post v c) (hz : c ≠ 0 → v = 0) : Ex.evP post = (v, c) := by
  have h1 := h.1 0 []
  have h2 := h.2 [] []
  rw [List.append_nil] at h1 h2
  unfold Ex.evP
  rw [if_pos (by simp [Ex.vpB, h1, Ex.vrun]), h2]
  by_cases hc : c = 0
  · rw [if_pos hc, Ex.er_nil, hc]; rfl
  · rw [if_neg hc, hz hc]
end Go.Proofs.Ymbrbu
