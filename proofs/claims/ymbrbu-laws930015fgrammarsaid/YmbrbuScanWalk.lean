import Derived.Test.YmbrbuOwnInt
set_option linter.unusedVariables false
set_option linter.unusedSimpArgs false
set_option linter.unnecessarySimpa false
namespace Go.Proofs.Ymbrbu
open Go.RowKit

/-- a string's bytes, as numbers -/
def sb (s : ByteArray) : List Int := s.data.toList.map fun b => (b.toNat : Int)
theorem sb_len (s : ByteArray) : (sb s).length = s.size := by simp [sb]
theorem sb_at (s : ByteArray) : ∀ (n : Nat) (h : n < s.size), ((s[n]'h).toNat : Int) = Ex.iAt (sb s) n := fun n h => by
  rw [Ex.iAt_eq (sb s) n (by rw [sb_len]; exact h)]
  simp [sb]; rfl
theorem sb_byte (s : ByteArray) : ∀ c ∈ sb s, 0 ≤ c ∧ c ≤ 255 := fun c hc => by
  obtain ⟨b, _, rfl⟩ := List.mem_map.1 hc
  have := b.toNat_lt
  omega
theorem sb_byteAt (s : ByteArray) (n : Nat) : 0 ≤ Ex.iAt (sb s) n ∧ Ex.iAt (sb s) n ≤ 255 := by
  by_cases h : n < (sb s).length
  · exact sb_byte s _ (Ex.iAt_mem (sb s) n h)
  · simp [Ex.iAt, List.getD_eq_getElem?_getD, List.getElem?_eq_none (show (sb s).length ≤ n by omega)]

set_option maxHeartbeats 2000000 in
theorem scan_neg (s : ByteArray) (i : Int) (w : World) (hi : i < 0) :
    Calls Ybum.prog 21 #[.string s, .int .i64 i] w fun e w' => e = .returned (.tuple #[.int .i64 0, .int .i64 i, .bool false]) ∧ w' = w := by
  go_enter Ybum.func21, Ybum.ntmps21
  go_wp2_with fail
  go_ret3
  exact ⟨rfl, rfl⟩

set_option maxHeartbeats 2000000 in
theorem scan_any (s : ByteArray) (k : Nat) (w : World) (hs : s.size ≤ maxLen) (hk : k ≤ 9223372036854775807) :
    Calls Ybum.prog 21 #[.string s, .int .i64 k] w fun e w' => e = .returned (.tuple #[.int .i64 (Ex.scanV (sb s) k), .int .i64 (Ex.scanJ (sb s) k), .bool (Ex.scanB (sb s) k)]) ∧ w' = w := by
  unfold maxLen at hs
  obtain ⟨D, hD⟩ : ∃ D, D = Ex.runAt (sb s) k := ⟨_, rfl⟩
  have hl := Ex.run_le (sb s) k
  rw [sb_len, ← hD] at hl
  have HAT : Hid (∀ q, q < D.length → k + q < s.size ∧ Ex.iAt D q = Ex.iAt (sb s) (k + q) ∧ 48 ≤ Ex.iAt (sb s) (k + q) ∧ Ex.iAt (sb s) (k + q) ≤ 57) := fun q hq => by
    have := Ex.run_at (sb s) k q (by rw [← hD]; exact hq)
    rw [sb_len, ← hD] at this
    exact this
  have HEND : Hid (k + D.length < s.size → ¬ (48 ≤ Ex.iAt (sb s) (k + D.length) ∧ Ex.iAt (sb s) (k + D.length) ≤ 57)) := by
    have := Ex.run_end (sb s) k
    rw [sb_len, ← hD] at this
    exact this
  have HF : Hid (Ex.dval 0 D ≤ 9223372036854775807 → Ex.scanV (sb s) k = Ex.dval 0 D ∧ Ex.scanJ (sb s) k = k + D.length ∧ Ex.scanB (sb s) k = decide (0 < D.length)) := by
    rw [hD]; exact Ex.scan_fits
  have HO : Hid (¬ Ex.dval 0 D ≤ 9223372036854775807 → Ex.scanV (sb s) k = 0 ∧ Ex.scanJ (sb s) k = k ∧ Ex.scanB (sb s) k = false) := by
    rw [hD]; exact Ex.scan_over
  clear hD
  have hbt := sb_at s
  have hkd : decide ((k : Int) < 0) = false := by simp
  go_enter Ybum.func21, Ybum.ntmps21
  go_wp2_with fail
  go_loop [7, 8, 9] (fun v j _ => ∃ (q V : Nat), q ≤ D.length ∧ V ≤ 9223372036854775807 ∧ j = .int .i64 ((k : Int) + (q : Int)) ∧ v = .int .i64 V ∧ Hid (Ex.dval 0 (D.take q) = V)) (fun _ j _ => (s.size + 1) - (intOf j).toNat)
  case atStart => exact ⟨0, 0, by omega, by omega, by go_num, rfl, rfl⟩
  case round =>
    obtain ⟨q, V, hq, hVb, rfl, rfl, HV⟩ := hrel
    by_cases hqd : q < D.length
    · obtain ⟨h1, h2, h3, h4⟩ := HAT.out q hqd
      have hdv := Ex.dval_take_succ D q hqd
      rw [HV.out, h2] at hdv
      have HDV : Hid (Ex.dval 0 (D.take (q + 1)) = V * 10 + (Ex.iAt (sb s) (k + q) - 48).toNat) := hdv
      clear hdv h2
      have x1 : (k : Int) + (q : Int) < (s.size : Int) := by omega
      have x2 : k + q < s.size := h1
      have y1 : 48 ≤ Ex.iAt (sb s) (k + q) := h3
      by_cases hov : V * 10 + (Ex.iAt (sb s) (k + q) - 48).toNat ≤ 9223372036854775807
      · have hov' : decide ((9223372036854775807 - (Ex.iAt (sb s) (k + q) - 48)) / 10 < (V : Int)) = false := by simp; omega
        go_wp2_with fail
        go_round
        case rel => exact ⟨q + 1, V * 10 + (Ex.iAt (sb s) (k + q) - 48).toNat, by omega, hov, by go_num, by go_num, HDV⟩
        case measure => simp [intOf]; omega
      · have hov' : (9223372036854775807 - (Ex.iAt (sb s) (k + q) - 48)) / 10 < (V : Int) := by omega
        have HR : Hid (Ex.scanV (sb s) k = 0 ∧ Ex.scanJ (sb s) k = k ∧ Ex.scanB (sb s) k = false) := HO.out (by
          have := Ex.dval_take_le D (q + 1)
          rw [HDV.out] at this
          omega)
        clear hov
        go_wp2_with fail
        go_ret3
        obtain ⟨r1, r2, r3⟩ := HR.out
        exact ⟨by rw [r1, r2, r3]; rfl, rfl⟩
    · have hqD : q = D.length := by omega
      have hdv : Ex.dval 0 D = V := by rw [← HV.out, hqD, List.take_length]
      have HR : Hid (Ex.scanV (sb s) k = V ∧ Ex.scanJ (sb s) k = k + q ∧ Ex.scanB (sb s) k = decide (0 < q)) := by
        have := HF.out (by omega)
        rw [hdv, ← hqD] at this
        exact this
      have HE : Hid (k + q < s.size → ¬ (48 ≤ Ex.iAt (sb s) (k + q) ∧ Ex.iAt (sb s) (k + q) ≤ 57)) := by rw [hqD]; exact HEND.out
      clear hdv hqD HF HO HAT HEND HV
      have fin : ∀ {e : Ending} {w' : World}, e = .returned (.tuple #[.int .i64 (V : Int), .int .i64 ((k : Int) + (q : Int)), .bool (decide ((k : Int) < (k : Int) + (q : Int)))]) → w' = w → e = .returned (.tuple #[.int .i64 (Ex.scanV (sb s) k), .int .i64 (Ex.scanJ (sb s) k), .bool (Ex.scanB (sb s) k)]) ∧ w' = w := by
        intro e w' h1 h2
        obtain ⟨r1, r2, r3⟩ := HR.out
        refine ⟨?_, h2⟩
        rw [h1, r1, r2, r3]
        have e2 : decide ((k : Int) < (k : Int) + (q : Int)) = decide (0 < q) := by
          rw [Bool.eq_iff_iff, decide_eq_true_iff, decide_eq_true_iff]; omega
        rw [e2]
        rfl
      have FIN : Hid (∀ {e : Ending} {w' : World}, e = .returned (.tuple #[.int .i64 (V : Int), .int .i64 ((k : Int) + (q : Int)), .bool (decide ((k : Int) < (k : Int) + (q : Int)))]) → w' = w → e = .returned (.tuple #[.int .i64 (Ex.scanV (sb s) k), .int .i64 (Ex.scanJ (sb s) k), .bool (Ex.scanB (sb s) k)]) ∧ w' = w) := fin
      obtain ⟨bq, hbq⟩ : ∃ b, decide ((k : Int) < (k : Int) + (q : Int)) = b := ⟨_, rfl⟩
      clear fin HR
      by_cases hsz : k + q < s.size
      · have hnd := HE.out hsz
        have x1 : (k : Int) + (q : Int) < (s.size : Int) := by omega
        by_cases h48 : 48 ≤ Ex.iAt (sb s) (k + q)
        · have h57 : decide (Ex.iAt (sb s) (k + q) ≤ 57) = false := by simp; omega
          clear hnd
          go_wp2_with fail
          go_ret3
          exact FIN.out (by rw [hbq]; rfl) rfl
        · have h48' : decide (48 ≤ Ex.iAt (sb s) (k + q)) = false := by simp; omega
          clear hnd h48
          go_wp2_with fail
          go_ret3
          exact FIN.out (by rw [hbq]; rfl) rfl
      · have x1 : decide ((k : Int) + (q : Int) < (s.size : Int)) = false := by simp; omega
        go_wp2_with fail
        go_ret3
        exact FIN.out (by rw [hbq]; rfl) rfl
end Go.Proofs.Ymbrbu
