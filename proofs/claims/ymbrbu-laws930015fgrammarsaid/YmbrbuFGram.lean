/- plain: recursive descent over the tokens, told by what ToPostfix and EvalPostfix do with them -/
import Derived.Test.YmbrbuFBin
import Derived.Test.YmbrbuTree
set_option linter.unusedVariables false
set_option linter.unusedSimpArgs false
set_option linter.unnecessarySimpa false
namespace Go.Proofs.Ymbrbu
open Go.RowKit

theorem bz_shift (A : List Tk) : ∀ (cs : List Int) (B : List Tk) (cur : Option Nat), bz cs (A ++ B) cur = if (bz cs B cur).1 = 0 then (0, A ++ (bz cs B cur).2) else bz cs B cur
  | [], B, cur => by simp [bz]
  | c :: cs, B, cur => by
    rw [bz, bz]
    by_cases h1 : c = 32 ∨ c = 9
    · rw [if_pos h1, if_pos h1, List.append_assoc]; exact bz_shift A cs _ none
    · rw [if_neg h1, if_neg h1]
      by_cases h2 : isSym c = true
      · rw [if_pos h2, if_pos h2, List.append_assoc, List.append_assoc, ← List.append_assoc B]; exact bz_shift A cs _ none
      · rw [if_neg h2, if_neg h2]
        by_cases h3 : Ex.isD c = true
        · rw [if_pos h3, if_pos h3]
          by_cases h4 : cur.getD 0 * 10 + (c - 48).toNat ≤ 9223372036854775807
          · rw [if_pos h4, if_pos h4]; exact bz_shift A cs _ _
          · rw [if_neg h4, if_neg h4]; simp
        · rw [if_neg h3, if_neg h3]; simp
theorem bz_split {cs : List Int} {A T : List Tk} (h : bz cs A none = (0, T)) : ∃ T', T = A ++ T' ∧ bz cs [] none = (0, T') := by
  have := bz_shift A cs [] none
  rw [List.append_nil, h] at this
  by_cases h0 : (bz cs [] none).1 = 0
  · rw [if_pos h0] at this
    simp at this
    refine ⟨_, this, ?_⟩
    rw [← h0]
  · rw [if_neg h0] at this
    rw [← this] at h0; simp at h0
/-- from byte i on the text is cut into the tokens T -/
def Lx (bs : List Int) (i : Nat) (T : List Tk) : Prop := bz (bs.drop i) [] none = (0, T)
theorem Lx.fin {bs : List Int} {i : Nat} {T : List Tk} (h : Lx bs i T) (hi : bs.length ≤ i) : T = [] := by
  unfold Lx at h
  rw [List.drop_eq_nil_of_le hi] at h
  simpa [bz, flush] using h.symm
theorem Lx.blank {bs : List Int} {i : Nat} {T : List Tk} (h : Lx bs i T) (hi : i < bs.length) (hc : Ex.iAt bs i = 32 ∨ Ex.iAt bs i = 9) : Lx bs (i + 1) T := by
  unfold Lx at h ⊢
  rw [Ex.idrop_at bs i hi, bz_blank _ _ hc] at h
  exact h
theorem Lx.sym {bs : List Int} {i : Nat} {T : List Tk} (h : Lx bs i T) (hi : i < bs.length) (hc : isSym (Ex.iAt bs i) = true) : ∃ T', T = (Ex.iAt bs i, 0) :: T' ∧ Lx bs (i + 1) T' := by
  unfold Lx at h
  rw [Ex.idrop_at bs i hi, bz_sym _ _ hc] at h
  obtain ⟨T', e, h'⟩ := bz_split h
  exact ⟨T', by simpa using e, h'⟩
theorem Lx.cases {bs : List Int} {i : Nat} {T : List Tk} (h : Lx bs i T) (hi : i < bs.length) : (Ex.iAt bs i = 32 ∨ Ex.iAt bs i = 9) ∨ isSym (Ex.iAt bs i) = true ∨ Ex.isD (Ex.iAt bs i) = true := by
  by_cases h1 : Ex.iAt bs i = 32 ∨ Ex.iAt bs i = 9
  · exact .inl h1
  · cases h2 : isSym (Ex.iAt bs i) with
    | true => exact .inr (.inl rfl)
    | false =>
      cases h3 : Ex.isD (Ex.iAt bs i) with
      | true => exact .inr (.inr rfl)
      | false =>
        unfold Lx at h
        rw [Ex.idrop_at bs i hi, bz_bad _ _ _ h1 h2 h3] at h
        cases h
theorem drop_run (bs : List Int) (i : Nat) : bs.drop i = Ex.runAt bs i ++ bs.drop (i + (Ex.runAt bs i).length) := by
  have := List.takeWhile_append_dropWhile (p := Ex.isD) (l := bs.drop i)
  conv => lhs; rw [← this]
  unfold Ex.runAt
  congr 1
  have h2 : (bs.drop i).dropWhile Ex.isD = (bs.drop i).drop ((bs.drop i).takeWhile Ex.isD).length := by
    conv => rhs; rw [← this]
    rw [this]
    conv => rhs; arg 2; rw [← this]
    rw [List.drop_left]
  rw [h2, List.drop_drop]
theorem Lx.num {bs : List Int} {i : Nat} {T : List Tk} (h : Lx bs i T) (hi : i < bs.length) (hc : Ex.isD (Ex.iAt bs i) = true) :
    Ex.dval 0 (Ex.runAt bs i) ≤ 9223372036854775807 ∧ i + (Ex.runAt bs i).length ≤ bs.length ∧ ∃ T', T = (48, (Ex.dval 0 (Ex.runAt bs i) : Int)) :: T' ∧ Lx bs (i + (Ex.runAt bs i).length) T' := by
  have hne : Ex.runAt bs i ≠ [] := by
    unfold Ex.runAt
    rw [Ex.idrop_at bs i hi, List.takeWhile_cons, if_pos hc]
    simp
  have hle : i + (Ex.runAt bs i).length ≤ bs.length := by
    rcases Ex.run_le bs i with h | h
    · omega
    · exact absurd (List.eq_nil_of_length_eq_zero h) hne
  unfold Lx at h
  rw [drop_run bs i, bz_digits _ _ _ none (fun c hc => Ex.isD_iff.2 (Ex.run_dig bs i c hc)) hne] at h
  have e0 : (none : Option Nat).getD 0 = 0 := rfl
  rw [e0] at h
  by_cases hf : Ex.dval 0 (Ex.runAt bs i) ≤ 9223372036854775807
  · rw [if_pos hf, bz_flush _ _ (fun c hc => ?_)] at h
    · obtain ⟨T', e, h'⟩ := bz_split h
      exact ⟨hf, hle, T', by simpa using e, h'⟩
    · by_cases hl : i + (Ex.runAt bs i).length < bs.length
      · rw [Ex.idrop_at bs _ hl] at hc
        simp at hc
        have := Ex.run_end bs i hl
        rw [← hc]
        exact Ex.isD_not.2 this
      · rw [List.drop_eq_nil_of_le (by omega)] at hc
        cases hc
  · rw [if_neg hf] at h
    cases h

/-! ### failing and answering -/
def FailAt (p : Int) (T : List Tk) : Prop := ∀ out S, (∀ t, S.head? = some t → Ex.prec t.1 < p) → (tpRun T (out, S, true)).bind tpEnd = none
def OkAt (p : Int) (T : List Tk) (v c : Int) (rest : List Tk) : Prop := ∃ I post, T = I ++ rest ∧ Expr p I post ∧ Val post v c ∧ (c ≠ 0 → v = 0) ∧ c ≠ 2 ∧ Ex.inI v
theorem prec_le (k : Int) : Ex.prec k ≤ 2 := by rcases Ex.prec_cases k with h | h | h <;> omega
theorem FailAt.mono {p p' : Int} {T : List Tk} (h : FailAt p T) (hp : p' ≤ p) : FailAt p' T := fun out S hS => h out S (fun t ht => by have := hS t ht; omega)
theorem OkAt.mono {p p' : Int} {T rest : List Tk} {v c : Int} (h : OkAt p T v c rest) (hp : p' ≤ p) : OkAt p' T v c rest := by
  obtain ⟨I, post, h1, h2, h3⟩ := h
  exact ⟨I, post, h1, h2.mono hp, h3⟩
theorem FailAt.nil (p : Int) : FailAt p [] := fun out S _ => by simp [tpRun, tpEnd]
theorem FailAt.head (p : Int) (t : Tk) (T : List Tk) (h48 : t.1 ≠ 48) (h40 : t.1 ≠ 40) : FailAt p (t :: T) := fun out S _ => by
  rw [tpRun_cons]
  have : tpStep (out, S, true) t = none := by simp [tpStep, h48, h40]
  rw [this]; rfl
theorem OkAt.num (p : Int) (v : Int) (T : List Tk) (hv : Ex.inI v) : OkAt p ((48, v) :: T) v 0 T := ⟨[(48, v)], [(48, v)], rfl, Expr.num v p, Val.num v, fun h => absurd rfl h, by decide, hv⟩
/-- what follows when an operand stands complete and none of its like can go on -/
theorem stuck {S Q rest : List Tk} {out : List Tk} (hQ : ∀ q ∈ Q, 1 ≤ Ex.prec q.1) (hr : ∀ t, rest.head? = some t → Ex.prec t.1 = 0) (h : ∀ T, rest = (41, T) :: rest.tail → S = []) (hS : ∀ t, S.head? = some t → Ex.prec t.1 < 1) (hne : rest = [] → S ≠ []) :
    (tpRun rest (out, Q ++ S, false)).bind tpEnd = none := by
  obtain ⟨d1, d2⟩ := drained (p := 1) hQ hS
  cases rest with
  | nil =>
    have := hne rfl
    simp only [tpRun, Option.bind_some, tpEnd, d2]
    cases S with
    | nil => exact absurd rfl this
    | cons s S => simp
  | cons t rest =>
    rw [tpRun_cons]
    have hp := hr t rfl
    have : tpStep (out, Q ++ S, false) t = none := by
      unfold tpStep
      simp only
      by_cases h48 : t.1 = 48
      · simp [h48]
      · by_cases h40 : t.1 = 40
        · simp [h40]
        · by_cases h41 : t.1 = 41
          · have hs : S = [] := h t.2 (by
              obtain ⟨a, b⟩ := t
              simp only at h41
              simp [h41])
            rw [d2, hs]
            simp [h48, h40, h41]
          · simp [h48, h40, h41, hp]
    rw [this]; rfl
theorem FailAt.paren (p x : Int) {T : List Tk} (h : FailAt 1 T) : FailAt p ((40, x) :: T) := fun out S _ => by
  rw [tpRun_cons]
  have e0 : tpStep (out, S, true) (40, x) = some (out, (40, x) :: S, true) := by simp [tpStep]
  rw [e0, Option.bind_some]
  exact h out _ (fun t ht => by simp at ht; subst ht; simp [Ex.prec])
theorem FailAt.shut (p x : Int) {T rest : List Tk} {v c : Int} (h : OkAt 1 T v c rest) (hr : ∀ t, rest.head? = some t → Ex.prec t.1 = 0) (h41 : ∀ y r, rest ≠ (41, y) :: r) : FailAt p ((40, x) :: T) := fun out S _ => by
  obtain ⟨I, post, rfl, ⟨P, Q, a1, a2, a3⟩, _⟩ := h
  rw [tpRun_cons]
  have e0 : tpStep (out, S, true) (40, x) = some (out, (40, x) :: S, true) := by simp [tpStep]
  rw [e0, Option.bind_some, tpRun_append, a3 out ((40, x) :: S) (fun t ht => by simp at ht; subst ht; simp [Ex.prec]), Option.bind_some]
  exact stuck a2 hr (fun y e => absurd e (h41 y _)) (fun t ht => by simp at ht; subst ht; simp [Ex.prec]) (fun _ => by simp)
theorem OkAt.paren (p x y : Int) {T rest : List Tk} {v c : Int} (h : OkAt 1 T v c ((41, y) :: rest)) : OkAt p ((40, x) :: T) v c rest := by
  obtain ⟨I, post, rfl, h2, h3⟩ := h
  exact ⟨(40, x) :: I ++ [(41, y)], post, by simp, h2.paren x y p (Int.le_refl _), h3⟩
theorem FailAt.after {p q : Int} {T rest : List Tk} {v c k x : Int} (h : OkAt p T v c ((k, x) :: rest)) (hk : Ex.prec k = p) (hp : 1 ≤ p) (hq : p < q) (hf : FailAt q rest) : FailAt p T := fun out S hS => by
  obtain ⟨I, post, rfl, ⟨P, Q, a1, a2, a3⟩, _⟩ := h
  rw [tpRun_append, a3 out S hS, Option.bind_some, tpRun_cons, tpStep_op _ _ _ _ (by omega)]
  obtain ⟨d1, d2⟩ := drained (p := p) a2 hS
  rw [hk, d1, d2, Option.bind_some]
  exact hf _ _ (fun t ht => by simp at ht; subst ht; simp only [hk]; exact hq)
theorem jn_ne2 {k v c w d : Int} (hk : 0 < Ex.prec k) (hc : c ≠ 2) (hd : d ≠ 2) : (jn k v c w d).2 ≠ 2 := by
  unfold jn
  split
  · exact hc
  · split
    · exact hd
    · rcases ap_codes' (a := v) (b := w) hk with h | ⟨_, h | h⟩ <;> rw [h] <;> decide
theorem jn_in {k v c w d : Int} : Ex.inI (jn k v c w d).1 := by
  unfold jn
  split
  · simp [Ex.inI]
  · split
    · simp [Ex.inI]
    · exact Ex.ap_in
theorem jn_z {k v c w d : Int} (hk : 0 < Ex.prec k) : (jn k v c w d).2 ≠ 0 → (jn k v c w d).1 = 0 := by
  unfold jn
  split
  · intro _; rfl
  · split
    · intro _; rfl
    · exact ap_zero hk
theorem OkAt.join {p q : Int} {T rest rest' : List Tk} {v c w d k x : Int} (h : OkAt p T v c ((k, x) :: rest)) (hk : Ex.prec k = p) (hp : 1 ≤ p) (hq : p < q) (h' : OkAt q rest w d rest') : OkAt p T (jn k v c w d).1 (jn k v c w d).2 rest' := by
  obtain ⟨I, post, rfl, e1, v1, z1, n1, i1⟩ := h
  obtain ⟨I', post', rfl, e2, v2, z2, n2, i2⟩ := h'
  have hk0 : 0 < Ex.prec k := by omega
  exact ⟨I ++ (k, x) :: I', _, by simp, Expr.join e1 e2 hk hp (Int.le_refl _) hq, v1.join v2 hk0, jn_z hk0, jn_ne2 hk0 n1 n2, jn_in⟩
/-- the whole text -/
theorem gram_ok {bs : List Int} {T : List Tk} {v c : Int} (hL : bz bs [] none = (0, T)) (h : OkAt 1 T v c []) : evS bs = (v, c) := by
  obtain ⟨I, post, rfl, e, hv, z, _⟩ := h
  rw [List.append_nil] at hL
  rw [evS_good hL (e.tp (Int.le_refl _)), hv.ev z]
theorem evS_none {bs : List Int} {T : List Tk} (hL : bz bs [] none = (0, T)) (h : tp T = none) : evS bs = (0, 2) := by
  unfold evS; rw [hL]; simp [h]
theorem gram_fail {bs : List Int} {T : List Tk} (hL : bz bs [] none = (0, T)) (h : FailAt 1 T) : evS bs = (0, 2) :=
  evS_none hL (h [] [] (fun t ht => by cases ht))
theorem gram_rest {bs : List Int} {T rest : List Tk} {v c : Int} (hL : bz bs [] none = (0, T)) (h : OkAt 1 T v c rest) (hr : ∀ t, rest.head? = some t → Ex.prec t.1 = 0) (hne : rest ≠ []) : evS bs = (0, 2) := by
  refine evS_none hL ?_
  obtain ⟨I, post, rfl, ⟨P, Q, a1, a2, a3⟩, _⟩ := h
  show (tpRun (I ++ rest) ([], [], true)).bind tpEnd = none
  rw [tpRun_append, a3 [] [] (fun t ht => by cases ht), Option.bind_some]
  exact stuck a2 hr (fun _ _ => rfl) (fun t ht => by cases ht) (fun e => absurd e hne)
end Go.Proofs.Ymbrbu
