import Derived.Test.YmbrbuTpWalk
set_option linter.unusedVariables false
set_option linter.unusedSimpArgs false
set_option linter.unnecessarySimpa false
namespace Go.Proofs.Ymbrbu
open Go.RowKit

theorem prec_ne {k : Int} (h : 0 < Ex.prec k) : k ≠ 48 ∧ k ≠ 40 ∧ k ≠ 41 := by
  refine ⟨?_, ?_, ?_⟩ <;> (rintro rfl; simp [Ex.prec] at h)
theorem tpRun_append : ∀ (a b : List Tk) (st : List Tk × List Tk × Bool), tpRun (a ++ b) st = (tpRun a st).bind (tpRun b)
  | [], b, st => rfl
  | t :: a, b, st => by
    simp only [List.cons_append, tpRun]
    cases tpStep st t with
    | none => rfl
    | some st' => exact tpRun_append a b st'
theorem takeWhile_split {α : Type} (p : α → Bool) : ∀ (H P : List α), (∀ h ∈ H, p h = true) → (∀ x ∈ P, p x = false) → (H ++ P).takeWhile p = H ∧ (H ++ P).dropWhile p = P
  | [], [], _, _ => by simp
  | [], x :: P, _, hP => by simp [List.takeWhile, List.dropWhile, hP x (by simp)]
  | h :: H, P, hH, hP => by
    obtain ⟨a, b⟩ := takeWhile_split p H P (fun x hx => hH x (by simp [hx])) hP
    simp [List.takeWhile, List.dropWhile, hH h (by simp), a, b]
theorem takeWhile_all {α : Type} (p : α → Bool) (H : List α) (hH : ∀ h ∈ H, p h = true) : H.takeWhile p = H ∧ H.dropWhile p = [] := by
  have := takeWhile_split p H [] hH (by simp)
  simpa using this
theorem tpStep_num (out S : List Tk) (v : Int) : tpStep (out, S, true) (48, v) = some (out ++ [(48, v)], S, false) := by simp [tpStep]
theorem tpStep_op (out S : List Tk) (k v : Int) (h : 0 < Ex.prec k) : tpStep (out, S, false) (k, v) = some (out ++ S.takeWhile (ge (Ex.prec k)), (k, v) :: S.dropWhile (ge (Ex.prec k)), true) := by
  obtain ⟨h1, h2, h3⟩ := prec_ne h
  simp [tpStep, h1, h2, h3, h]

def FlatI (T E P : List Tk) : Prop := ∃ out H, tpRun T ([], [], true) = some (out, H ++ P, false) ∧ E = out ++ H ∧ (∀ h ∈ H, Ex.prec h.1 = 2) ∧ (∀ p ∈ P, Ex.prec p.1 = 1)
theorem flat_init (v : Int) : FlatI [(48, v)] [(48, v)] [] := ⟨[(48, v)], [], by simp [tpRun, tpStep], by simp, by simp, by simp⟩
theorem flat_mul {T E P : List Tk} {k : Int} (x y : Int) (h : FlatI T E P) (hk : Ex.prec k = 2) : FlatI (T ++ [(k, x)] ++ [(48, y)]) (E ++ [(48, y)] ++ [(k, x)]) P := by
  obtain ⟨out, H, h1, rfl, h3, h4⟩ := h
  refine ⟨out ++ H ++ [(48, y)], [(k, x)], ?_, rfl, by simpa using hk, h4⟩
  obtain ⟨e1, e2⟩ := takeWhile_split (ge 2) H P (fun t ht => by simp [ge, h3 t ht]) (fun t ht => by simp [ge, h4 t ht])
  rw [tpRun_append, tpRun_append, h1]
  simp only [tpRun, Option.bind_some]
  rw [tpStep_op _ _ _ _ (by omega), hk, e1, e2]
  simp only [Option.bind_some]
  rw [tpStep_num]; rfl
theorem flat_add {T E P : List Tk} {k : Int} (x y : Int) (h : FlatI T E P) (hk : Ex.prec k = 1) : FlatI (T ++ [(k, x)] ++ [(48, y)]) (E ++ P ++ [(48, y)]) [(k, x)] := by
  obtain ⟨out, H, h1, rfl, h3, h4⟩ := h
  refine ⟨out ++ H ++ P ++ [(48, y)], [], ?_, by simp, by simp, by simpa using hk⟩
  obtain ⟨e1, e2⟩ := takeWhile_all (ge 1) (H ++ P) (fun t ht => by
    rcases List.mem_append.1 ht with h | h
    · simp [ge, h3 t h]
    · simp [ge, h4 t h])
  rw [tpRun_append, tpRun_append, h1]
  simp only [tpRun, Option.bind_some]
  rw [tpStep_op _ _ _ _ (by omega), hk, e1, e2]
  simp only [Option.bind_some]
  rw [tpStep_num]
  simp
theorem flat_end {T E P : List Tk} (h : FlatI T E P) : tp T = some (E ++ P) := by
  obtain ⟨out, H, h1, rfl, h3, h4⟩ := h
  obtain ⟨e1, e2⟩ := takeWhile_all (ge 1) (H ++ P) (fun t ht => by
    rcases List.mem_append.1 ht with h | h
    · simp [ge, h3 t h]
    · simp [ge, h4 t h])
  unfold tp
  rw [h1]
  simp [tpEnd, e1, e2]

def hopK (k : Int) : Int := if k % 4 = 0 then 43 else if k % 4 = 1 then 42 else if k % 4 = 2 then 45 else 47
theorem hopK_cases (k : Int) : hopK k = 43 ∨ hopK k = 42 ∨ hopK k = 45 ∨ hopK k = 47 := by
  unfold hopK
  repeat' split
  all_goals simp
theorem OwnT.one (w : World) (base : Nat) (k v : Int) (hb : base ≤ w.heap.size) : OwnT (w.alloc (.cells #[.int .u8 k, .int .i64 v] 58)) base (.slice (some ⟨w.heap.size, 0, none⟩) 1 1) [(k, v)] :=
  World.ownsRow_lit w _ 1 hb (by unfold maxLen; omega) (by simp)
end Go.Proofs.Ymbrbu
