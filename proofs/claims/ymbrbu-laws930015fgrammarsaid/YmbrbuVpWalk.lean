import Derived.Test.YmbrbuTokWalk
set_option linter.unusedVariables false
set_option linter.unusedSimpArgs false
set_option linter.unnecessarySimpa false
namespace Go.Proofs.Ymbrbu
open Go.RowKit

set_option maxHeartbeats 1000000 in
theorem vp_any (a : Option Addr) (n cap : Nat) (ts : List (Int × Int)) (w : World) (ht : Toks w a n cap ts) :
    Calls Ybum.prog 29 #[.slice a n cap] w fun e w' => e = .returned (.bool (Ex.vpB ts)) ∧ Below w.heap.size w w' := by
  obtain ⟨hlen, hnc, hcm, hcell⟩ := ht
  unfold maxLen at hcm
  have HC : Hid (0 < n → ∃ b off, a = some ⟨b, off, none⟩ ∧ ∀ i, i < n → w.cell? ⟨b, off + i * 2, none⟩ = some (.int .u8 (Ex.kAt ts i)) ∧ w.cell? ⟨b, off + i * 2 + 1, none⟩ = some (.int .i64 (Ex.vAt ts i))) := hcell
  have HL : Hid (ts.length = n) := hlen
  clear hcell hlen
  go_enter Ybum.func29, Ybum.ntmps29
  go_wp2_with fail
  go_loopw [3, 8] (fun d i wr => ∃ (k m : Nat), k ≤ n ∧ m ≤ k ∧ i = .int .i64 k ∧ d = .int .i64 m ∧ Below w.heap.size w wr ∧ Hid (Ex.vrun m (ts.drop k) = Ex.vrun 0 ts)) (fun _ i _ => n - (intOf i).toNat)
  case atStart => exact ⟨0, 0, Nat.zero_le _, Nat.le_refl _, rfl, rfl, Below.refl _ _, rfl⟩
  case round =>
    obtain ⟨k, m, hk, hm, rfl, rfl, hb, HR⟩ := hrel
    by_cases hlt : k < n
    · obtain ⟨b, off, rfl, hc⟩ := HC.out (by omega)
      obtain ⟨c1, c2⟩ := hc k hlt
      have c3 := (hb.cell (World.block_lt_of_cell? w _ c1)).trans c1
      have c4 := (hb.cell (World.block_lt_of_cell? w _ c2)).trans c2
      clear c1 c2 hc
      have hd := Ex.drop_at ts k (by have := HL.out; omega)
      have HD : Hid (ts.drop k = (Ex.kAt ts k, Ex.vAt ts k) :: ts.drop (k + 1)) := hd
      clear hd HC
      by_cases h48 : Ex.kAt ts k = 48
      · have hk48 : (Ex.kAt ts k == 48) = true := by simpa using h48
        have HN : Hid (Ex.vrun (m + 1) (ts.drop (k + 1)) = Ex.vrun 0 ts) := by
          show _ = _
          rw [← HR.out, HD.out, Ex.vrun_num h48]
        clear h48
        go_wp2_with fail
        go_roundw
        case rel => exact ⟨k + 1, m + 1, by omega, by omega, by go_num, by go_num, hb.alloc hb.size _, HN⟩
        case measure => simp [intOf]; omega
      · have hk48 : (Ex.kAt ts k == 48) = false := by simpa using h48
        by_cases hp : 0 < Ex.prec (Ex.kAt ts k)
        · by_cases hm2 : 2 ≤ m
          · have HN : Hid (Ex.vrun (m - 1) (ts.drop (k + 1)) = Ex.vrun 0 ts) := by
              show _ = _
              rw [← HR.out, HD.out, Ex.vrun_op h48 hp hm2]
            clear h48
            go_wp2_with fail
            refine (prec_any _ _).mono ?_
            rintro e w' ⟨rfl, rfl⟩
            go_wp2_with fail
            go_roundw
            case rel => exact ⟨k + 1, m - 1, by omega, by omega, by go_num, by go_num, hb.alloc hb.size _, HN⟩
            case measure => simp [intOf]; omega
          · have HN : Hid (Ex.vpB ts = false) := by
              show _ = _
              unfold Ex.vpB
              rw [← HR.out, HD.out, Ex.vrun_bad h48 (by omega)]; rfl
            have hm3 : decide ((2 : Int) ≤ (m : Int)) = false := by simp; omega
            clear h48
            go_wp2_with fail
            refine (prec_any _ _).mono ?_
            rintro e w' ⟨rfl, rfl⟩
            go_wp2_with fail
            go_ret
            exact ⟨retB (by rw [HN.out]), hb.alloc hb.size _⟩
        · have HN : Hid (Ex.vpB ts = false) := by
            show _ = _
            unfold Ex.vpB
            rw [← HR.out, HD.out, Ex.vrun_bad h48 (by omega)]; rfl
          have hp0 : decide (0 < Ex.prec (Ex.kAt ts k)) = false := by simp; omega
          clear h48 hp
          go_wp2_with fail
          refine (prec_any _ _).mono ?_
          rintro e w' ⟨rfl, rfl⟩
          go_wp2_with fail
          go_ret
          exact ⟨retB (by rw [HN.out]), hb.alloc hb.size _⟩
    · have HN : Hid (Ex.vpB ts = ((m : Int) == 1)) := by
        show _ = _
        unfold Ex.vpB
        rw [← HR.out, List.drop_eq_nil_of_le (by have := HL.out; omega), Ex.vrun]
        rw [Bool.eq_iff_iff]
        simp
        omega
      go_wp2_with fail
      go_ret
      exact ⟨retB (by rw [HN.out]), hb⟩
end Go.Proofs.Ymbrbu
