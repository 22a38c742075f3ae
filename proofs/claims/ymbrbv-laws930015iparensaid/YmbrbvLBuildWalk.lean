import Derived.Test.YmbrbvLExactWalk
set_option linter.unusedVariables false
set_option linter.unusedSimpArgs false
set_option linter.unnecessarySimpa false
namespace Go.Proofs.Ymbrbv
open Go.RowKit

theorem l4_ix0 (w : World) : (Instr.index 9 (.string { data := #[43, 45, 42, 47] }) (.int .u8 0)).run Ybvm.prog w = .ok (.int .u8 43) w := by kernel_rfl
theorem l4_ix1 (w : World) : (Instr.index 9 (.string { data := #[43, 45, 42, 47] }) (.int .u8 1)).run Ybvm.prog w = .ok (.int .u8 45) w := by kernel_rfl
theorem l4_ix2 (w : World) : (Instr.index 9 (.string { data := #[43, 45, 42, 47] }) (.int .u8 2)).run Ybvm.prog w = .ok (.int .u8 42) w := by kernel_rfl
theorem l4_ix3 (w : World) : (Instr.index 9 (.string { data := #[43, 45, 42, 47] }) (.int .u8 3)).run Ybvm.prog w = .ok (.int .u8 47) w := by kernel_rfl
def l4 (k : Int) : Int := [43, 45, 42, 47].getD (k % 4).toNat 0
theorem l4_cases (k : Int) : l4 k = 43 ∨ l4 k = 45 ∨ l4 k = 42 ∨ l4 k = 47 := by
  have h : k % 4 = 0 ∨ k % 4 = 1 ∨ k % 4 = 2 ∨ k % 4 = 3 := by omega
  unfold l4
  rcases h with h | h | h | h <;> rw [h] <;> simp
theorem l4_index (k : Int) (w : World) : (Instr.index 9 (.string { data := #[43, 45, 42, 47] }) (.int .u8 (k % 4))).run Ybvm.prog w = .ok (.int .u8 (l4 k)) w := by
  have h : k % 4 = 0 ∨ k % 4 = 1 ∨ k % 4 = 2 ∨ k % 4 = 3 := by omega
  unfold l4
  rcases h with h | h | h | h
  · rw [h]; exact l4_ix0 w
  · rw [h]; exact l4_ix1 w
  · rw [h]; exact l4_ix2 w
  · rw [h]; exact l4_ix3 w
theorem l4_prec (k : Int) : 0 < Ex.prec (l4 k) := by
  rcases l4_cases k with h | h | h | h <;> rw [h] <;> simp [Ex.prec]

set_option maxHeartbeats 1000000 in
theorem lbuild_any (a : Option Addr) (n cap : Nat) (zs : List Int) (w : World) (ht : Ints .u8 w a n cap zs) (hz : ∀ x ∈ zs, 0 ≤ x ∧ x ≤ 255) (hn : n ≤ 1024) :
    Calls Ybvm.prog 22 #[.slice a n cap] w fun e w' => ∃ v ts, e = .returned v ∧ OwnT w' w.heap.size v ts ∧ Ex.vrun 0 ts = some 1 ∧ ts.length ≤ 2 * n + 1 ∧ 0 < ts.length ∧ Below w.heap.size w w' := by
  obtain ⟨hlen, hnc, hcm, hcell⟩ := ht
  unfold maxLen at hcm
  have HC : Hid (0 < n → ∃ b off, a = some ⟨b, off, none⟩ ∧ ∀ i, i < n → w.cell? ⟨b, off + i, none⟩ = some (.int .u8 (Ex.iAt zs i))) := hcell
  have HL : Hid (zs.length = n) := hlen
  clear hcell hlen
  go_enter Ybvm.func22, Ybvm.ntmps22
  go_wp2_with (first
    | (at_make; refine make_tok _ rfl _ _ rfl w.heap.size _ _ _ (2 * n + 1) rfl rfl (by omega) (by omega) (by omega) ?_; intro w1 hown1 hb1 hlt1)
    | (at_builtin; refine app_tok _ rfl _ _ rfl w.heap.size _ [] rfl (hown1.alloc _) _ 48 7 rfl (by simp) (by simp) (by simp) (by simp; omega) ?_; intro v2 w2 hown2 hold2 hgr2))
  have hb2 : Below w.heap.size w w2 := below_app hb1 hb1.size hown1.base hgr2.after_alloc
  clear hold2 hgr2 hown1 hb1 hlt1
  go_loopw [3, 4, 18] (fun v d i wr => ∃ (k m : Nat) (ts : List (Int × Int)), k ≤ n ∧ i = .int .i64 k ∧ d = .int .i64 m ∧ 1 ≤ m ∧ m ≤ k + 1 ∧ ts.length = k + 1 ∧ Hid (Ex.vrun 0 ts = some m) ∧ OwnT wr w.heap.size v ts ∧ Below w.heap.size w wr) (fun _ _ i _ => n - (intOf i).toNat)
  case atStart => exact ⟨0, 1, [(48, 7)], Nat.zero_le _, rfl, rfl, by omega, by omega, rfl, by show _ = _; simp [Ex.vrun], hown2, hb2⟩
  case round =>
    obtain ⟨k, m, ts, hk, rfl, rfl, hm1, hm2, htl, HV, hown, hb⟩ := hrel
    clear hown2 hb2
    have hB := hb.size
    by_cases hlt : k < n
    · obtain ⟨b, off, rfl, hc⟩ := HC.out (by omega)
      have c1 := hc k hlt
      have c3 := (hb.cell (World.block_lt_of_cell? w _ c1)).trans c1
      have hkl : k < zs.length := by have := HL.out; omega
      obtain ⟨o1, o2⟩ := hz _ (Ex.iAt_mem zs k hkl)
      have hix := l4_index (Ex.iAt zs k / 2)
      clear c1 hc HC hz
      by_cases hodd : Ex.iAt zs k % 2 = 1 ∧ 2 ≤ m
      · obtain ⟨ho, hm3⟩ := hodd
        have HN := Ex.vrun_snoc_op (k := l4 (Ex.iAt zs k / 2)) (v := 0) HV.out (l4_prec _) hm3
        have HN' : Hid (Ex.vrun 0 (ts ++ [(l4 (Ex.iAt zs k / 2), 0)]) = some (m - 1)) := HN
        clear HN
        go_wp2_with (first | (at_builtin; go_must (refine app_tok _ rfl _ _ rfl w.heap.size _ ts rfl (hown.alloc _) _ (l4 (Ex.iAt zs k / 2)) 0 rfl (by simp) (by simp) (by omega) (by simp; omega) ?_; intro v' w2 hown2 hold2 hgr)))
        go_roundw
        case rel => exact ⟨k + 1, m - 1, _, by omega, by go_num, by go_num, by omega, by omega, by simp [htl], HN', hown2, below_app hb hB hown.base hgr.after_alloc⟩
        case measure => simp [intOf]; omega
      · have hodd' : ((Ex.iAt zs k % 2 == 1) && decide ((2 : Int) ≤ (m : Int))) = false := by
          rw [Bool.and_eq_false_iff]
          by_cases h1 : Ex.iAt zs k % 2 = 1
          · right; simp; omega
          · left; simpa using h1
        have HN := Ex.vrun_snoc_num (v := Ex.iAt zs k) HV.out
        have HN' : Hid (Ex.vrun 0 (ts ++ [(48, Ex.iAt zs k)]) = some (m + 1)) := HN
        clear HN
        by_cases h1 : Ex.iAt zs k % 2 = 1
        · have h2 : decide ((2 : Int) ≤ (m : Int)) = false := by simp; omega
          clear hodd hodd'
          go_wp2_with (first | (at_builtin; go_must (refine app_tok _ rfl _ _ rfl w.heap.size _ ts rfl (hown.alloc _) _ 48 (Ex.iAt zs k) rfl (by simp) (by simp) (by omega) (by simp; omega) ?_; intro v' w2 hown2 hold2 hgr)))
          go_roundw
          case rel => exact ⟨k + 1, m + 1, _, by omega, by go_num, by go_num, by omega, by omega, by simp [htl], HN', hown2, below_app hb hB hown.base hgr.after_alloc⟩
          case measure => simp [intOf]; omega
        · have h2 : (Ex.iAt zs k % 2 == 1) = false := by simpa using h1
          clear hodd hodd'
          go_wp2_with (first | (at_builtin; go_must (refine app_tok _ rfl _ _ rfl w.heap.size _ ts rfl (hown.alloc _) _ 48 (Ex.iAt zs k) rfl (by simp) (by simp) (by omega) (by simp; omega) ?_; intro v' w2 hown2 hold2 hgr)))
          go_roundw
          case rel => exact ⟨k + 1, m + 1, _, by omega, by go_num, by go_num, by omega, by omega, by simp [htl], HN', hown2, below_app hb hB hown.base hgr.after_alloc⟩
          case measure => simp [intOf]; omega
    · clear HC
      have hkn : decide ((k : Int) < (n : Int)) = false := by simp; omega
      go_wp2_with fail
      go_loopw [3, 4] (fun v d wx => ∃ (m : Nat) (ts : List (Int × Int)), d = .int .i64 m ∧ 1 ≤ m ∧ ts.length + m ≤ 2 * n + 2 ∧ 0 < ts.length ∧ Hid (Ex.vrun 0 ts = some m) ∧ OwnT wx w.heap.size v ts ∧ Below w.heap.size w wx) (fun _ d _ => (intOf d).toNat)
      case atStart => exact ⟨m, ts, rfl, hm1, by omega, by omega, HV, hown, hb⟩
      case round =>
        clear hown hb HV hB hm1 hm2 htl
        obtain ⟨m, ts, rfl, hm1, hm2, htl, HV, hown, hb⟩ := hrel
        have hB := hb.size
        by_cases hm3 : 2 ≤ m
        · have HN := Ex.vrun_snoc_op (k := 45) (v := 0) HV.out (by simp [Ex.prec]) hm3
          have HN' : Hid (Ex.vrun 0 (ts ++ [(45, 0)]) = some (m - 1)) := HN
          clear HN
          go_wp2_with (first | (at_builtin; go_must (refine app_tok _ rfl _ _ rfl w.heap.size _ ts rfl (hown.alloc _) _ 45 0 rfl (by simp) (by simp) (by omega) (by simp; omega) ?_; intro v' w2 hown2 hold2 hgr)))
          go_roundw
          case rel => exact ⟨m - 1, _, by go_num, by omega, by simp; omega, by simp, HN', hown2, below_app hb hB hown.base hgr.after_alloc⟩
          case measure => simp [intOf]; omega
        · obtain rfl : m = 1 := by omega
          obtain ⟨a', cap', rfl, _⟩ := hown.toks
          go_wp2_with fail
          go_ret
          exact ⟨_, ts, rfl, hown, HV.out, by omega, htl, hb⟩
end Go.Proofs.Ymbrbv
