import Derived.Test.YmbrbtOwnInt
set_option linter.unusedVariables false
set_option linter.unusedSimpArgs false
set_option linter.unnecessarySimpa false
namespace Go.Proofs.Ymbrbt
open Go.RowKit

theorem OwnB.keep {w w' : World} {base : Nat} {v v1 v2 : Value} {zs us : List Int} (h : OwnB w base v zs) (h1 : OwnB w base v1 (zs ++ us)) (hg : Grew w w' v1 v2) (h2 : OwnB w' base v1 (zs ++ us)) : OwnB w' base v zs := by
  unfold OwnB OwnI at *
  rw [List.map_append] at h1 h2
  exact own_keep (by omega) h h1 hg h2

theorem u8_48 (d : Int) (h0 : 0 ≤ d) (h1 : d < 10) : IntKind.u8.wrap (48 + IntKind.u8.wrap d) = 48 + d := by
  rw [IntKind.wrap_u8, IntKind.wrap_u8]; omega

set_option maxHeartbeats 1000000 in
theorem nat_any (f : Nat) : ∀ (n : Nat) (base : Nat) (dst : Value) (bs : List Int) (w : World), n < 10 ^ (f + 1) → n ≤ 9223372036854775807 → OwnB w base dst bs → bs.length + f < 100000000000 → base ≤ w.heap.size →
    Calls Ybtm.prog 34 #[dst, .int .i64 n] w fun e w' => ∃ v', e = .returned v' ∧ OwnB w' base v' (bs ++ Ex.dg n) ∧ OwnB w' base dst bs ∧ Grew w w' dst v' := by
  induction f with
  | zero =>
    intro n base dst bs w hn hn2 hown hl hb
    have h10 : ¬ (10 : Int) ≤ (n : Int) := by omega
    have hd : decide ((10 : Int) ≤ (n : Int)) = false := by simp; omega
    have HD : Hid (Ex.dg n = [48 + (n : Int) % 10]) := by
      show _ = _
      rw [Ex.dg_small (by omega), show (n : Int) % 10 = (n : Int) from by omega]
    have hn9 : n ≤ 9 := by omega
    go_enter Ybtm.func34, Ybtm.ntmps34
    go_wp2_with (first | (at_builtin; go_must (refine app_int _ 39 5 .u8 1 Ybtm.underlying39 Ybtm.infoU8 (by omega) rfl _ _ rfl base _ bs rfl (hown.alloc _) _ (48 + (n : Int) % 10) rfl (by simp) (by omega) (by simp; omega) ?_; intro v' w2 hown2 hold2 hgr)))
    go_ret
    exact ⟨_, rfl, by rw [HD.out]; exact hown2, hold2, hgr.after_alloc⟩
  | succ f ih =>
    intro n base dst bs w hn hn2 hown hl hb
    by_cases h10 : 10 ≤ n
    · have IH : Hid (∀ (n : Nat) (base : Nat) (dst : Value) (bs : List Int) (w : World), n < 10 ^ (f + 1) → n ≤ 9223372036854775807 → OwnB w base dst bs → bs.length + f < 100000000000 → base ≤ w.heap.size →
    Calls Ybtm.prog 34 #[dst, .int .i64 n] w fun e w' => ∃ v', e = .returned v' ∧ OwnB w' base v' (bs ++ Ex.dg n) ∧ OwnB w' base dst bs ∧ Grew w w' dst v') := ih
      clear ih
      have h10' : (10 : Int) ≤ (n : Int) := by omega
      have HD : Hid (Ex.dg n = Ex.dg (n / 10) ++ [48 + (n : Int) % 10]) := by
        show _ = _
        rw [Ex.dg_step h10 (by omega)]
        congr 1
      have hlt : n / 10 < 10 ^ (f + 1) := by
        rw [Nat.pow_succ] at hn; omega
      have HN : Hid (n < 10 ^ (f + 1 + 1)) := hn
      have HLT : Hid (n / 10 < 10 ^ (f + 1)) := hlt
      clear hn hlt
      have E10 : Hid ((n : Int) / 10 = ((n / 10 : Nat) : Int)) := by show _ = _; omega
      go_enter Ybtm.func34, Ybtm.ntmps34
      go_wp2_with fail
      rw [E10.out]
      refine (IH.out (n / 10) base dst bs _ HLT.out (by omega) hown (by omega) hb).mono ?_
      rintro e w1 ⟨v1, rfl, hown1, hold1, hgr1⟩
      have hs1 := hgr1.size
      have hll : (bs ++ Ex.dg (n / 10)).length < 100000001000 := by
        have := Ex.dg_len (n / 10) (by omega)
        rw [List.length_append]; omega
      go_wp2_with (first | (at_builtin; go_must (refine app_int _ 39 5 .u8 1 Ybtm.underlying39 Ybtm.infoU8 (by omega) rfl _ _ rfl base _ (bs ++ Ex.dg (n / 10)) rfl (hown1.alloc _) _ (48 + (n : Int) % 10) rfl (by simp) (by omega) (by simp; omega) ?_; intro v' w2 hown2 hold2 hgr)))
      go_ret
      exact ⟨_, rfl, by rw [HD.out, ← List.append_assoc]; exact hown2, OwnB.keep (hold1.alloc _) (hown1.alloc _) hgr hold2, hgr1.trans hgr.after_alloc⟩
    · exact ih n base dst bs w (by have : 10 ^ 1 ≤ 10 ^ (f + 1) := Nat.pow_le_pow_right (by omega) (by omega); omega) hn2 hown (by omega) hb
end Go.Proofs.Ymbrbt
