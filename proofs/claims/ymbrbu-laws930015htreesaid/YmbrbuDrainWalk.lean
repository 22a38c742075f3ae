import Derived.Test.YmbrbuOwnTok
set_option linter.unusedVariables false
set_option linter.unusedSimpArgs false
set_option linter.unnecessarySimpa false
namespace Go.Proofs.Ymbrbu
open Go.RowKit

def sliceLen : Value → Nat | .slice _ m _ => m | _ => 0
/-- where drain stops -/
def DrStop (min : Int) (ps : List (Int × Int)) (j : Nat) : Prop := j ≤ ps.length ∧ (∀ i, j ≤ i → i < ps.length → min ≤ Ex.prec (Ex.kAt ps i)) ∧ (j = 0 ∨ Ex.prec (Ex.kAt ps (j - 1)) < min)

set_option maxHeartbeats 2000000 in
theorem drain_any (base : Nat) (out : Value) (os : List (Int × Int)) (a : Option Addr) (n cap : Nat) (ps : List (Int × Int)) (min : Int) (w : World) (ho : OwnT w base out os) (ht : Toks w a n cap ps)
    (hne : ∀ x, a = some x → out.ownBlock ≠ some x.block) (hsm : os.length + n < 100000000000) (hbase : base ≤ w.heap.size) :
    Calls Ybum.prog 35 #[out, .slice a n cap, .int .i64 min] w fun e w' => ∃ out' j, e = .returned (.tuple #[out', .slice a j cap]) ∧ DrStop min ps j ∧ OwnT w' base out' (os ++ (ps.drop j).reverse) ∧ Grew w w' out out' := by
  have hlen := ht.1
  have hnc := ht.2.1
  have hcm := ht.2.2.1
  unfold maxLen at hcm
  have HT : Hid (Toks w a n cap ps) := ht
  have HN : Hid (∀ x, a = some x → out.ownBlock ≠ some x.block) := hne
  have HL : Hid (ps.length = n) := hlen
  clear ht hne hlen
  go_enter Ybum.func35, Ybum.ntmps35
  go_wp2_with fail
  go_loopw [0, 1] (fun v s wr => ∃ (j : Nat), s = .slice a j cap ∧ j ≤ n ∧ Hid (∀ i, j ≤ i → i < ps.length → min ≤ Ex.prec (Ex.kAt ps i)) ∧ OwnT wr base v (os ++ (ps.drop j).reverse) ∧ Grew w wr out v) (fun _ s _ => sliceLen s)
  case atStart => exact ⟨n, rfl, Nat.le_refl _, fun i h1 h2 => by have := HL.out; omega, by rw [List.drop_eq_nil_of_le (by have := HL.out; omega)]; simpa using ho, Grew.refl _ _⟩
  case round =>
    obtain ⟨j, rfl, hj, HP, hown, hgr⟩ := hrel
    clear ho
    have hsz := hgr.size
    by_cases hj0 : j = 0
    · subst hj0
      go_wp2_with fail
      go_ret2
      exact ⟨_, 0, rfl, ⟨by omega, HP.out, .inl rfl⟩, hown, hgr⟩
    · obtain ⟨i, rfl⟩ : ∃ i, j = i + 1 := ⟨j - 1, by omega⟩
      have HTr := HT.out.grew hgr HN.out
      obtain ⟨b, off, rfl, hc⟩ := HTr.2.2.2 (by omega)
      obtain ⟨c1, c2⟩ := hc i (by omega)
      clear hc HTr
      by_cases hp : min ≤ Ex.prec (Ex.kAt ps i)
      · have HP2 : Hid (∀ i', i ≤ i' → i' < ps.length → min ≤ Ex.prec (Ex.kAt ps i')) := fun i' h1 h2 => by
          by_cases h : i' = i
          · rw [h]; exact hp
          · exact HP.out i' (by omega) h2
        have HD : Hid (os ++ (ps.drop i).reverse = os ++ (ps.drop (i + 1)).reverse ++ [(Ex.kAt ps i, Ex.vAt ps i)]) := by
          show _ = _
          rw [Ex.drop_at ps i (by have := HL.out; omega)]; simp
        have hll : (os ++ (ps.drop (i + 1)).reverse).length < 100000000000 := by
          have := HL.out
          simp; omega
        generalize os ++ (ps.drop (i + 1)).reverse = L at hown HD hll
        go_wp2_with fail
        refine (prec_any _ _).mono ?_
        rintro e w' ⟨rfl, rfl⟩
        go_wp2_with (first | (at_builtin; go_must (refine app_tok _ rfl _ _ rfl base _ L rfl (hown.alloc _) _ (Ex.kAt ps i) (Ex.vAt ps i) rfl (by simp) (by simp) (by omega) (by simp; omega) ?_; intro v' w2 hown2 hold2 hgr2)))
        go_roundw
        case rel => exact ⟨i, rfl, by omega, HP2, by rw [HD.out]; exact hown2, hgr.trans hgr2.after_alloc⟩
        case measure => simp [sliceLen]
      · have hp' : decide (min ≤ Ex.prec (Ex.kAt ps i)) = false := by simpa using hp
        have HS : Hid (DrStop min ps (i + 1)) := ⟨by have := HL.out; omega, HP.out, .inr (by simp; omega)⟩
        clear hp
        go_wp2_with fail
        refine (prec_any _ _).mono ?_
        rintro e w' ⟨rfl, rfl⟩
        go_wp2_with fail
        go_ret2
        exact ⟨_, i + 1, rfl, HS.out, hown, hgr⟩
end Go.Proofs.Ymbrbu
