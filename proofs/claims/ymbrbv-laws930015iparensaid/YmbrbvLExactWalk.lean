import Derived.Test.YmbrbvVpWalk
import Derived.Test.YmbrbvOpenTok
import Derived.Deep.DeepMust
set_option linter.unusedVariables false
set_option linter.unusedSimpArgs false
set_option linter.unnecessarySimpa false
namespace Go.Proofs.Ymbrbv
open Go.RowKit

set_option maxHeartbeats 400000 in
theorem lisop_any (k : Int) (w : World) :
    Calls Ybvm.prog 20 #[.int .u8 k] w fun e w' => e = .returned (.bool (Ex.opB k)) ∧ w' = w := by
  rcases Ex.opB_cases k with ⟨e, rfl | rfl | rfl | rfl⟩ | ⟨e, h1, h2, h3, h4⟩
  case inr =>
    rw [e]
    have k1 : (k == 43) = false := by simpa using h1
    have k2 : (k == 45) = false := by simpa using h2
    have k3 : (k == 42) = false := by simpa using h3
    have k4 : (k == 47) = false := by simpa using h4
    clear h1 h2 h3 h4 e
    go_enter Ybvm.func20, Ybvm.ntmps20
    go_wp2
    go_ret
    exact ⟨rfl, rfl⟩
  all_goals
    rw [e]
    clear e
    go_enter Ybvm.func20, Ybvm.ntmps20
    go_wp2
    go_ret
    exact ⟨rfl, rfl⟩

/-- the table of LExact -/
def ltab (k : Int) : Int := [48, 43, 48, 45, 48, 42, 48, 47, 40, 41].getD (k % 10).toNat 0
def lmap (raw : Bool) (ts : List (Int × Int)) : List (Int × Int) := ts.map fun t => (if raw then t.1 else ltab t.1, t.2)

theorem ltab_ix0 (w : World) : (Instr.index 9 (.string { data := #[48, 43, 48, 45, 48, 42, 48, 47, 40, 41] }) (.int .u8 0)).run Ybvm.prog w = .ok (.int .u8 48) w := by kernel_rfl
theorem ltab_ix1 (w : World) : (Instr.index 9 (.string { data := #[48, 43, 48, 45, 48, 42, 48, 47, 40, 41] }) (.int .u8 1)).run Ybvm.prog w = .ok (.int .u8 43) w := by kernel_rfl
theorem ltab_ix2 (w : World) : (Instr.index 9 (.string { data := #[48, 43, 48, 45, 48, 42, 48, 47, 40, 41] }) (.int .u8 2)).run Ybvm.prog w = .ok (.int .u8 48) w := by kernel_rfl
theorem ltab_ix3 (w : World) : (Instr.index 9 (.string { data := #[48, 43, 48, 45, 48, 42, 48, 47, 40, 41] }) (.int .u8 3)).run Ybvm.prog w = .ok (.int .u8 45) w := by kernel_rfl
theorem ltab_ix4 (w : World) : (Instr.index 9 (.string { data := #[48, 43, 48, 45, 48, 42, 48, 47, 40, 41] }) (.int .u8 4)).run Ybvm.prog w = .ok (.int .u8 48) w := by kernel_rfl
theorem ltab_ix5 (w : World) : (Instr.index 9 (.string { data := #[48, 43, 48, 45, 48, 42, 48, 47, 40, 41] }) (.int .u8 5)).run Ybvm.prog w = .ok (.int .u8 42) w := by kernel_rfl
theorem ltab_ix6 (w : World) : (Instr.index 9 (.string { data := #[48, 43, 48, 45, 48, 42, 48, 47, 40, 41] }) (.int .u8 6)).run Ybvm.prog w = .ok (.int .u8 48) w := by kernel_rfl
theorem ltab_ix7 (w : World) : (Instr.index 9 (.string { data := #[48, 43, 48, 45, 48, 42, 48, 47, 40, 41] }) (.int .u8 7)).run Ybvm.prog w = .ok (.int .u8 47) w := by kernel_rfl
theorem ltab_ix8 (w : World) : (Instr.index 9 (.string { data := #[48, 43, 48, 45, 48, 42, 48, 47, 40, 41] }) (.int .u8 8)).run Ybvm.prog w = .ok (.int .u8 40) w := by kernel_rfl
theorem ltab_ix9 (w : World) : (Instr.index 9 (.string { data := #[48, 43, 48, 45, 48, 42, 48, 47, 40, 41] }) (.int .u8 9)).run Ybvm.prog w = .ok (.int .u8 41) w := by kernel_rfl
theorem ltab_index (k : Int) (h0 : 0 ≤ k) (w : World) : (Instr.index 9 (.string { data := #[48, 43, 48, 45, 48, 42, 48, 47, 40, 41] }) (.int .u8 (k % 10))).run Ybvm.prog w = .ok (.int .u8 (ltab k)) w := by
  have h : k % 10 = 0 ∨ k % 10 = 1 ∨ k % 10 = 2 ∨ k % 10 = 3 ∨ k % 10 = 4 ∨ k % 10 = 5 ∨ k % 10 = 6 ∨ k % 10 = 7 ∨ k % 10 = 8 ∨ k % 10 = 9 := by omega
  unfold ltab
  rcases h with h | h | h | h | h | h | h | h | h | h
  · rw [h]; exact ltab_ix0 w
  · rw [h]; exact ltab_ix1 w
  · rw [h]; exact ltab_ix2 w
  · rw [h]; exact ltab_ix3 w
  · rw [h]; exact ltab_ix4 w
  · rw [h]; exact ltab_ix5 w
  · rw [h]; exact ltab_ix6 w
  · rw [h]; exact ltab_ix7 w
  · rw [h]; exact ltab_ix8 w
  · rw [h]; exact ltab_ix9 w

set_option maxHeartbeats 1000000 in
theorem lexact_any (raw : Bool) (a : Option Addr) (n cap : Nat) (ts : List (Int × Int)) (w : World) (ht : Toks w a n cap ts) (hok : TokOk ts) :
    Calls Ybvm.prog 10 #[.bool raw, .slice a n cap] w fun e w' => e = .returned (.bool true) ∧ Below w.heap.size w w' := by
  obtain ⟨hlen, hnc, hcm, hcell⟩ := ht
  unfold maxLen at hcm
  have HC : Hid (0 < n → ∃ b off, a = some ⟨b, off, none⟩ ∧ ∀ i, i < n → w.cell? ⟨b, off + i * 2, none⟩ = some (.int .u8 (Ex.kAt ts i)) ∧ w.cell? ⟨b, off + i * 2 + 1, none⟩ = some (.int .i64 (Ex.vAt ts i))) := hcell
  have HL : Hid (ts.length = n) := hlen
  clear hcell hlen
  by_cases hbig : 1024 < n
  · go_enter Ybvm.func10, Ybvm.ntmps10
    go_wp2_with fail
    go_ret
    exact ⟨rfl, Below.refl _ _⟩
  have hbig' : decide ((1024 : Int) < (n : Int)) = false := by simp; omega
  go_enter Ybvm.func10, Ybvm.ntmps10
  go_wp2_with (first | (at_make; refine make_tok _ rfl _ _ rfl w.heap.size _ _ _ n rfl rfl rfl (by omega) (by omega) ?_; intro w1 hown1 hb1 hlt1))
  go_loopw [5, 20] (fun v i wr => ∃ (k : Nat), k ≤ n ∧ i = .int .i64 k ∧ OwnT wr w.heap.size v (lmap raw (ts.take k)) ∧ Below w.heap.size w wr) (fun _ i _ => n - (intOf i).toNat)
  case atStart => exact ⟨0, Nat.zero_le _, rfl, hown1, hb1⟩
  case round =>
    obtain ⟨k, hk, rfl, hown, hb⟩ := hrel
    clear hown1 hb1 hlt1
    by_cases hlt : k < n
    · obtain ⟨b, off, rfl, hc⟩ := HC.out (by omega)
      obtain ⟨c1, c2⟩ := hc k hlt
      have c3 := (hb.cell (World.block_lt_of_cell? w _ c1)).trans c1
      have c4 := (hb.cell (World.block_lt_of_cell? w _ c2)).trans c2
      have hkl : k < ts.length := by have := HL.out; omega
      obtain ⟨o1, o2, o3⟩ := hok.at k hkl
      have hix := ltab_index (Ex.kAt ts k) o1
      clear c1 c2 hc HC hok
      have hl2 : (lmap raw (ts.take k)).length = k := by simp [lmap]; omega
      have hB := hb.size
      cases raw with
      | true =>
        have HS : Hid (lmap true (ts.take (k + 1)) = lmap true (ts.take k) ++ [(Ex.kAt ts k, Ex.vAt ts k)]) := by show _ = _; rw [Ex.take_at ts k hkl]; simp [lmap]
        go_wp2_with (first | (at_builtin; refine app_tok _ rfl _ _ rfl w.heap.size _ (lmap true (ts.take k)) rfl ((hown.alloc _).alloc _) _ (Ex.kAt ts k) (Ex.vAt ts k) rfl (by simp) (by simp) (by omega) (by simp; omega) ?_; intro v' w2 hown2 hold2 hgr))
        go_roundw
        case rel => exact ⟨k + 1, by omega, by go_num, by rw [HS.out]; exact hown2, below_app hb hB hown.base hgr.after_alloc.after_alloc⟩
        case measure => simp [intOf]; omega
      | false =>
        have HS : Hid (lmap false (ts.take (k + 1)) = lmap false (ts.take k) ++ [(ltab (Ex.kAt ts k), Ex.vAt ts k)]) := by show _ = _; rw [Ex.take_at ts k hkl]; simp [lmap]
        go_wp2_with (first | (at_builtin; refine app_tok _ rfl _ _ rfl w.heap.size _ (lmap false (ts.take k)) rfl ((hown.alloc _).alloc _) _ (ltab (Ex.kAt ts k)) (Ex.vAt ts k) rfl (by simp) (by simp) (by omega) (by simp; omega) ?_; intro v' w2 hown2 hold2 hgr))
        go_roundw
        case rel => exact ⟨k + 1, by omega, by go_num, by rw [HS.out]; exact hown2, below_app hb hB hown.base hgr.after_alloc.after_alloc⟩
        case measure => simp [intOf]; omega
    · obtain ⟨us, hus⟩ : ∃ us, us = lmap raw (ts.take k) := ⟨_, rfl⟩
      rw [← hus] at hown
      have hul : us.length = n := by rw [hus]; have := HL.out; simp [lmap]; omega
      obtain ⟨a', cap', rfl, hT⟩ := hown.toks
      have hT' := hT
      obtain ⟨_, hnc', hcm', hcell'⟩ := hT'
      unfold maxLen at hcm'
      have HC' : Hid (0 < us.length → ∃ b off, a' = some ⟨b, off, none⟩ ∧ ∀ i, i < us.length → wr.cell? ⟨b, off + i * 2, none⟩ = some (.int .u8 (Ex.kAt us i)) ∧ wr.cell? ⟨b, off + i * 2 + 1, none⟩ = some (.int .i64 (Ex.vAt us i))) := hcell'
      have HT : Hid (Toks wr a' us.length cap' us) := hT
      have HLU : Hid (us.length = n) := hul
      have hsm : us.length ≤ 1024 := by omega
      have hkn : decide ((k : Int) < (n : Int)) = false := by simp; omega
      clear hcell' hT hul hown hus HC hok
      go_wp2_with fail
      go_loop [9, 10, 11] (fun x y z => ∃ (m j : Nat), j ≤ us.length ∧ m ≤ 1 + us.length - j ∧ x = .int .i64 m ∧ y = .bool true ∧ z = .int .i64 ((j : Int) - 1) ∧ Hid (Ex.rrun m (us.take j).reverse = Ex.rrun 1 us.reverse)) (fun _ _ z => (intOf z + 1).toNat)
      case atStart => exact ⟨1, us.length, by omega, by omega, rfl, rfl, rfl, by rw [List.take_length]; rfl⟩
      case round =>
        obtain ⟨m, j, hj, hm, rfl, rfl, rfl, HR⟩ := hrel
        by_cases hj0 : j = 0
        · have HV : Hid (Ex.vpB us = ((m : Int) == 0)) := by
            show _ = _
            rw [Ex.vpB_right, ← HR.out, hj0]
            rw [Bool.eq_iff_iff]
            simp [Ex.rrun]
          subst hj0
          go_wp2_with fail
          refine (vp_any _ _ _ us _ HT.out).mono ?_
          rintro e w' ⟨rfl, hb'⟩
          go_wp2_with fail
          go_ret
          exact ⟨retB (by rw [HV.out]; simp), hb.trans (hb'.mono hb.size)⟩
        · obtain ⟨i, rfl⟩ : ∃ i, j = i + 1 := ⟨j - 1, by omega⟩
          have e : ((i + 1 : Nat) : Int) - 1 = (i : Int) := by omega
          rw [e]
          obtain ⟨b, off, rfl, hc⟩ := HC'.out (by omega)
          obtain ⟨c1, _⟩ := hc i (by omega)
          have HT2 := Ex.take_rev us i (by omega)
          have HD : Hid ((us.take (i + 1)).reverse = (Ex.kAt us i, Ex.vAt us i) :: (us.take i).reverse) := HT2
          clear HC' hc HT2 e
          by_cases hm0 : m = 0
          · have HV : Hid (Ex.vpB us = false) := by
              show _ = _
              rw [Ex.vpB_right, ← HR.out, HD.out]
              simp [Ex.rrun, hm0]
            subst hm0
            go_wp2_with fail
            refine (vp_any _ _ _ us _ HT.out).mono ?_
            rintro e w' ⟨rfl, hb'⟩
            go_wp2_with fail
            go_ret
            exact ⟨retB (by rw [HV.out]; rfl), hb.trans (hb'.mono hb.size)⟩
          · have hm1 : ((m : Int) == 0) = false := by simp; omega
            by_cases h48 : Ex.kAt us i = 48
            · have HN : Hid (Ex.rrun (m - 1) (us.take i).reverse = Ex.rrun 1 us.reverse) := by
                show _ = _
                rw [← HR.out, HD.out]
                simp [Ex.rrun, hm0, h48]
              have hk48 : (Ex.kAt us i == 48) = true := by simpa using h48
              clear h48
              go_wp2_with fail
              go_round
              case rel => exact ⟨m - 1, i, by omega, by omega, by go_num, rfl, by go_num, HN⟩
              case measure => first | (simp [intOf]; done) | (simp [intOf]; omega)
            · have hk48 : (Ex.kAt us i == 48) = false := by simpa using h48
              cases ho : Ex.opB (Ex.kAt us i) with
              | true =>
                have HN : Hid (Ex.rrun (m + 1) (us.take i).reverse = Ex.rrun 1 us.reverse) := by
                  show _ = _
                  rw [← HR.out, HD.out]
                  simp [Ex.rrun, hm0, h48, Ex.opB_iff.1 ho]
                clear h48
                go_wp2_with fail
                refine (lisop_any _ _).mono ?_
                rintro e w' ⟨rfl, rfl⟩
                go_wp2_with fail
                go_round
                case rel => exact ⟨m + 1, i, by omega, by omega, by go_num, rfl, by go_num, HN⟩
                case measure => first | (simp [intOf]; done) | (simp [intOf]; omega)
              | false =>
                have HV : Hid (Ex.vpB us = false) := by
                  show _ = _
                  have hp : ¬ 0 < Ex.prec (Ex.kAt us i) := fun h => by rw [Ex.opB_iff.2 h] at ho; cases ho
                  rw [Ex.vpB_right, ← HR.out, HD.out]
                  simp [Ex.rrun, hm0, h48, hp]
                clear h48
                go_wp2_with fail
                refine (lisop_any _ _).mono ?_
                rintro e w' ⟨rfl, rfl⟩
                go_wp2_with fail
                refine (vp_any _ _ _ us _ HT.out).mono ?_
                rintro e w' ⟨rfl, hb'⟩
                go_wp2_with fail
                go_ret
                exact ⟨retB (by rw [HV.out]; rfl), hb.trans (hb'.mono hb.size)⟩
end Go.Proofs.Ymbrbv
