import Derived.Test.YmbrbuGTail
import Derived.Test.YmbrbuGvWalk
set_option linter.unusedVariables false
set_option linter.unusedSimpArgs false
set_option linter.unnecessarySimpa false
namespace Go.Proofs.Ymbrbu
open Go.RowKit

theorem gt_ix0 (w : World) : (Instr.index 9 (.string { data := #[48, 49, 50, 51, 52, 53, 54, 55, 56, 57, 47, 58, 57, 48, 32, 45] }) (.int .i64 0)).run Ybum.prog w = .ok (.int .u8 48) w := by kernel_rfl
theorem gt_ix1 (w : World) : (Instr.index 9 (.string { data := #[48, 49, 50, 51, 52, 53, 54, 55, 56, 57, 47, 58, 57, 48, 32, 45] }) (.int .i64 1)).run Ybum.prog w = .ok (.int .u8 49) w := by kernel_rfl
theorem gt_ix2 (w : World) : (Instr.index 9 (.string { data := #[48, 49, 50, 51, 52, 53, 54, 55, 56, 57, 47, 58, 57, 48, 32, 45] }) (.int .i64 2)).run Ybum.prog w = .ok (.int .u8 50) w := by kernel_rfl
theorem gt_ix3 (w : World) : (Instr.index 9 (.string { data := #[48, 49, 50, 51, 52, 53, 54, 55, 56, 57, 47, 58, 57, 48, 32, 45] }) (.int .i64 3)).run Ybum.prog w = .ok (.int .u8 51) w := by kernel_rfl
theorem gt_ix4 (w : World) : (Instr.index 9 (.string { data := #[48, 49, 50, 51, 52, 53, 54, 55, 56, 57, 47, 58, 57, 48, 32, 45] }) (.int .i64 4)).run Ybum.prog w = .ok (.int .u8 52) w := by kernel_rfl
theorem gt_ix5 (w : World) : (Instr.index 9 (.string { data := #[48, 49, 50, 51, 52, 53, 54, 55, 56, 57, 47, 58, 57, 48, 32, 45] }) (.int .i64 5)).run Ybum.prog w = .ok (.int .u8 53) w := by kernel_rfl
theorem gt_ix6 (w : World) : (Instr.index 9 (.string { data := #[48, 49, 50, 51, 52, 53, 54, 55, 56, 57, 47, 58, 57, 48, 32, 45] }) (.int .i64 6)).run Ybum.prog w = .ok (.int .u8 54) w := by kernel_rfl
theorem gt_ix7 (w : World) : (Instr.index 9 (.string { data := #[48, 49, 50, 51, 52, 53, 54, 55, 56, 57, 47, 58, 57, 48, 32, 45] }) (.int .i64 7)).run Ybum.prog w = .ok (.int .u8 55) w := by kernel_rfl
theorem gt_ix8 (w : World) : (Instr.index 9 (.string { data := #[48, 49, 50, 51, 52, 53, 54, 55, 56, 57, 47, 58, 57, 48, 32, 45] }) (.int .i64 8)).run Ybum.prog w = .ok (.int .u8 56) w := by kernel_rfl
theorem gt_ix9 (w : World) : (Instr.index 9 (.string { data := #[48, 49, 50, 51, 52, 53, 54, 55, 56, 57, 47, 58, 57, 48, 32, 45] }) (.int .i64 9)).run Ybum.prog w = .ok (.int .u8 57) w := by kernel_rfl
theorem gt_ix10 (w : World) : (Instr.index 9 (.string { data := #[48, 49, 50, 51, 52, 53, 54, 55, 56, 57, 47, 58, 57, 48, 32, 45] }) (.int .i64 10)).run Ybum.prog w = .ok (.int .u8 47) w := by kernel_rfl
theorem gt_ix11 (w : World) : (Instr.index 9 (.string { data := #[48, 49, 50, 51, 52, 53, 54, 55, 56, 57, 47, 58, 57, 48, 32, 45] }) (.int .i64 11)).run Ybum.prog w = .ok (.int .u8 58) w := by kernel_rfl
theorem gt_ix12 (w : World) : (Instr.index 9 (.string { data := #[48, 49, 50, 51, 52, 53, 54, 55, 56, 57, 47, 58, 57, 48, 32, 45] }) (.int .i64 12)).run Ybum.prog w = .ok (.int .u8 57) w := by kernel_rfl
theorem gt_ix13 (w : World) : (Instr.index 9 (.string { data := #[48, 49, 50, 51, 52, 53, 54, 55, 56, 57, 47, 58, 57, 48, 32, 45] }) (.int .i64 13)).run Ybum.prog w = .ok (.int .u8 48) w := by kernel_rfl
theorem gt_ix14 (w : World) : (Instr.index 9 (.string { data := #[48, 49, 50, 51, 52, 53, 54, 55, 56, 57, 47, 58, 57, 48, 32, 45] }) (.int .i64 14)).run Ybum.prog w = .ok (.int .u8 32) w := by kernel_rfl
theorem gt_ix15 (w : World) : (Instr.index 9 (.string { data := #[48, 49, 50, 51, 52, 53, 54, 55, 56, 57, 47, 58, 57, 48, 32, 45] }) (.int .i64 15)).run Ybum.prog w = .ok (.int .u8 45) w := by kernel_rfl
def gtab (k : Int) : Int := [48, 49, 50, 51, 52, 53, 54, 55, 56, 57, 47, 58, 57, 48, 32, 45].getD (k % 16).toNat 0
theorem gtab_byte (k : Int) : 0 ≤ gtab k ∧ gtab k ≤ 255 := by
  have h : k % 16 = 0 ∨ k % 16 = 1 ∨ k % 16 = 2 ∨ k % 16 = 3 ∨ k % 16 = 4 ∨ k % 16 = 5 ∨ k % 16 = 6 ∨ k % 16 = 7 ∨ k % 16 = 8 ∨ k % 16 = 9 ∨ k % 16 = 10 ∨ k % 16 = 11 ∨ k % 16 = 12 ∨ k % 16 = 13 ∨ k % 16 = 14 ∨ k % 16 = 15 := by omega
  unfold gtab
  rcases h with h | h | h | h | h | h | h | h | h | h | h | h | h | h | h | h <;> rw [h] <;> decide
theorem gtab_index (k : Int) (w : World) : (Instr.index 9 (.string { data := #[48, 49, 50, 51, 52, 53, 54, 55, 56, 57, 47, 58, 57, 48, 32, 45] }) (.int .i64 (k % 16))).run Ybum.prog w = .ok (.int .u8 (gtab k)) w := by
  have h : k % 16 = 0 ∨ k % 16 = 1 ∨ k % 16 = 2 ∨ k % 16 = 3 ∨ k % 16 = 4 ∨ k % 16 = 5 ∨ k % 16 = 6 ∨ k % 16 = 7 ∨ k % 16 = 8 ∨ k % 16 = 9 ∨ k % 16 = 10 ∨ k % 16 = 11 ∨ k % 16 = 12 ∨ k % 16 = 13 ∨ k % 16 = 14 ∨ k % 16 = 15 := by omega
  unfold gtab
  rcases h with h | h | h | h | h | h | h | h | h | h | h | h | h | h | h | h
  · rw [h]; exact gt_ix0 w
  · rw [h]; exact gt_ix1 w
  · rw [h]; exact gt_ix2 w
  · rw [h]; exact gt_ix3 w
  · rw [h]; exact gt_ix4 w
  · rw [h]; exact gt_ix5 w
  · rw [h]; exact gt_ix6 w
  · rw [h]; exact gt_ix7 w
  · rw [h]; exact gt_ix8 w
  · rw [h]; exact gt_ix9 w
  · rw [h]; exact gt_ix10 w
  · rw [h]; exact gt_ix11 w
  · rw [h]; exact gt_ix12 w
  · rw [h]; exact gt_ix13 w
  · rw [h]; exact gt_ix14 w
  · rw [h]; exact gt_ix15 w

/-- the rest of the law holds at every text and index: what is asked of the run at k -/
theorem run_nil_of {bs : List Int} {k : Nat} (h : bs.length ≤ k ∨ Ex.isD (Ex.iAt bs k) = false) : Ex.runAt bs k = [] := by
  refine List.eq_nil_of_length_eq_zero ?_
  cases hl : (Ex.runAt bs k).length with
  | zero => rfl
  | succ n =>
    obtain ⟨h1, _, h3⟩ := Ex.run_at bs k 0 (by omega)
    rw [Nat.add_zero] at h1 h3
    rcases h with h | h
    · omega
    · rw [Ex.isD_iff.2 h3] at h; cases h
theorem run_pos_of {bs : List Int} {k : Nat} (h1 : k < bs.length) (h : Ex.isD (Ex.iAt bs k) = true) : 0 < (Ex.runAt bs k).length := by
  cases hl : (Ex.runAt bs k).length with
  | zero =>
    have := Ex.run_end bs k (by omega)
    rw [hl, Nat.add_zero] at this
    exact absurd (Ex.isD_iff.1 h) this
  | succ n => omega

set_option maxRecDepth 100000 in
set_option maxHeartbeats 2000000 in
theorem gspec_ffneg (t : ByteArray) (at' : Int) (w : World) (htz : t.size ≤ 1024) (ha0 : -9223372036854775808 ≤ at') (ha1 : at' ≤ 9223372036854775807) (hneg : at' < 0) :
    Calls Ybum.prog 7 #[.string t, .int .i64 at', .bool false, .bool false] w fun e w' => e = .returned (.bool true) ∧ Below w.heap.size w w' := by
  have d0 : decide ((1024 : Int) < (t.size : Int)) = false := decide_eq_false (by omega)
  have HTM : Hid (t.size ≤ maxLen) := by show _ ≤ _; unfold maxLen; omega
  have HTL : Hid ((sb t).length = t.size) := sb_len t
  have hbt := sb_at t
  have hbw : Below w.heap.size w w := Below.refl _ _
  go_enter Ybum.func7, Ybum.ntmps7
  go_wp2_with fail
  refine (scan_neg t at' _ hneg).mono ?_
  rintro e w9 ⟨rfl, rfl⟩
  go_wp2_with fail
  go_ret
  exact ⟨rfl, hbw⟩

set_option maxRecDepth 100000 in
set_option maxHeartbeats 2000000 in
theorem gspec_tfneg (s : ByteArray) (at' : Int) (w : World) (hs : s.size ≤ 1024) (ha0 : -9223372036854775808 ≤ at') (ha1 : at' ≤ 9223372036854775807) (hneg : at' < 0) :
    Calls Ybum.prog 7 #[.string s, .int .i64 at', .bool true, .bool false] w fun e w' => e = .returned (.bool true) ∧ Below w.heap.size w w' := by
  have d0 : decide ((1024 : Int) < (s.size : Int)) = false := decide_eq_false (by omega)
  have hbs := sb_at s
  have HSL : Hid ((sb s).length = s.size) := sb_len s
  have HBB : Hid (∀ n, 0 ≤ Ex.iAt (sb s) n ∧ Ex.iAt (sb s) n ≤ 255) := sb_byteAt s
  go_enter Ybum.func7, Ybum.ntmps7
  go_wp2_with (first
    | (at_make; go_must (refine make_int _ 22 5 .u8 1 Ybum.underlying22 Ybum.infoU8 (by omega) rfl _ (.tmp 25) rfl w.heap.size _ _ _ _ 0 s.size rfl rfl rfl (by omega) (by omega) (by omega) (by omega) ?_; intro w1 hown1 hb1 hlt1)))
  go_loopw [10, 11] (fun u i wr => ∃ (k : Nat), k ≤ s.size ∧ i = .int .i64 k ∧ OwnB wr w.heap.size u (((sb s).take k).map gtab) ∧ Below w.heap.size w wr) (fun _ i _ => s.size - (intOf i).toNat)
  case atStart => exact ⟨0, by omega, rfl, by simpa using hown1, hb1⟩
  case round =>
    obtain ⟨k, hk, rfl, hu, hb⟩ := hrel
    clear hown1 hb1 hlt1
    have hB := hb.size
    by_cases hlt : k < s.size
    · obtain ⟨e1, e2⟩ := HBB.out k
      have hix := gtab_index (Ex.iAt (sb s) k)
      have hlk : (((sb s).take k).map gtab).length = k := by have := HSL.out; simp; omega
      have HS : Hid (((sb s).take (k + 1)).map gtab = ((sb s).take k).map gtab ++ [gtab (Ex.iAt (sb s) k)]) := by
        show _ = _
        rw [Ex.itake_at (sb s) k (by have := HSL.out; omega)]; simp
      go_wp2_with (first
        | (at_builtin; go_must (refine app_int _ 22 5 .u8 1 Ybum.underlying22 Ybum.infoU8 (by omega) rfl (.tmp 33) (.tmp 40) rfl w.heap.size _ (((sb s).take k).map gtab) rfl (hu.alloc _) _ (gtab (Ex.iAt (sb s) k)) rfl (by simp) (by omega) (by simp; omega) ?_; intro u2 w2 hu2 huo hgr2)))
      go_roundw
      case rel => exact ⟨k + 1, by omega, by go_num, by rw [HS.out]; exact hu2, below_app hb hB hu.baseLe hgr2.after_alloc⟩
      case measure => simp [intOf]; omega
    · have hkd : decide ((k : Int) < (s.size : Int)) = false := decide_eq_false (by omega)
      obtain ⟨L, hL⟩ : ∃ L, L = ((sb s).take k).map gtab := ⟨_, rfl⟩
      have hLl : L.length ≤ 1024 := by rw [hL]; simp; omega
      rw [← hL] at hu
      obtain ⟨au, cu, rfl, hnu, _⟩ := hu.shape
      obtain ⟨t, hcv, htb, htz0⟩ := conv_own hu (fun c hc => by rw [hL] at hc; obtain ⟨x, _, rfl⟩ := List.mem_map.1 hc; exact gtab_byte x)
      have htz : t.size ≤ 1024 := by omega
      have HTM : Hid (t.size ≤ maxLen) := by show _ ≤ _; unfold maxLen; omega
      have HTL : Hid ((sb t).length = t.size) := sb_len t
      have hbt := sb_at t
      have hbw := hb
      clear htb htz0 hu hnu HBB HSL hbs hL hb hB
      go_wp2_with fail
      clear hcv
      refine (scan_neg t at' _ hneg).mono ?_
      rintro e w9 ⟨rfl, rfl⟩
      go_wp2_with fail
      go_ret
      exact ⟨rfl, hbw⟩

set_option maxRecDepth 100000 in
set_option maxHeartbeats 2000000 in
theorem gspec_ffnat (t : ByteArray) (at' : Int) (w : World) (htz : t.size ≤ 1024) (ha0 : -9223372036854775808 ≤ at') (ha1 : at' ≤ 9223372036854775807) (hneg : ¬ at' < 0) :
    Calls Ybum.prog 7 #[.string t, .int .i64 at', .bool false, .bool false] w fun e w' => e = .returned (.bool true) ∧ Below w.heap.size w w' := by
  have d0 : decide ((1024 : Int) < (t.size : Int)) = false := decide_eq_false (by omega)
  have HTM : Hid (t.size ≤ maxLen) := by show _ ≤ _; unfold maxLen; omega
  have HTL : Hid ((sb t).length = t.size) := sb_len t
  have hbt := sb_at t
  have hbw : Below w.heap.size w w := Below.refl _ _
  obtain ⟨k, hk⟩ : ∃ k : Nat, (k : Int) = at' := ⟨at'.toNat, by omega⟩
  subst hk
  clear hneg
  go_enter Ybum.func7, Ybum.ntmps7
  go_wp2_with fail
  refine (scan_any t k _ HTM.out (by omega)).mono ?_
  rintro e w9 ⟨rfl, rfl⟩
  have dk0 : decide ((k : Int) < 0) = false := decide_eq_false (by omega)
  by_cases hkz : k < t.size
  · have dkz : decide ((t.size : Int) ≤ (k : Int)) = false := decide_eq_false (by omega)
    have dkz' : decide (t.size ≤ k) = false := decide_eq_false (by omega)
    cases hD : Ex.isD (Ex.iAt (sb t) k) with
    | false =>
      have hr := run_nil_of (bs := sb t) (k := k) (.inr hD)
      obtain ⟨s1, s2, s3⟩ := Ex.scan_fits (bs := sb t) (k := k) (by rw [hr]; simp [Ex.dval])
      rw [hr] at s1 s2 s3
      rw [s1, s2, s3]
      clear s1 s2 s3 hr
      go_wp2_with fail
      refine (gdigit_any _ _).mono ?_
      rw [hD]
      rintro e w10 ⟨rfl, rfl⟩
      go_wp2_with fail
      go_ret
      exact ⟨rfl, hbw⟩
    | true =>
      obtain ⟨D, hDr⟩ : ∃ D, D = Ex.runAt (sb t) k := ⟨_, rfl⟩
      have hpos : 0 < D.length := by rw [hDr]; exact run_pos_of (by have := HTL.out; omega) hD
      have hdle : D.length + k ≤ t.size := by
        have := Ex.run_le (sb t) k
        rw [← hDr, HTL.out] at this
        omega
      have HAT : Hid (∀ q, q < D.length → Ex.isD (Ex.iAt (sb t) (k + q)) = true) := fun q hq => by
        have := Ex.run_at (sb t) k q (by rw [← hDr]; exact hq)
        exact Ex.isD_iff.2 this.2.2
      have HEND : Hid (k + D.length < t.size → Ex.isD (Ex.iAt (sb t) (k + D.length)) = false) := fun h => by
        have := Ex.run_end (sb t) k (by rw [← hDr, HTL.out]; exact h)
        rw [← hDr] at this
        exact Ex.isD_not.2 this
      have HDD : Hid (∀ c ∈ D, 48 ≤ c ∧ c ≤ 57) := by rw [hDr]; exact Ex.run_dig (sb t) k
      have HEX : Hid (sb (t.extract k (k + D.length)) = D) := by
        show _ = _
        rw [sb_extract, Nat.add_sub_cancel_left]
        refine List.ext_getElem? fun i => ?_
        by_cases hi : i < D.length
        · have h1 := (Ex.run_at (sb t) k i (by rw [← hDr]; exact hi)).2.1
          rw [← hDr, Ex.iAt_eq D i hi] at h1
          have hki : k + i < (sb t).length := by have := HTL.out; omega
          rw [Ex.iAt_eq (sb t) (k + i) hki] at h1
          rw [List.getElem?_take, if_pos hi, List.getElem?_drop, List.getElem?_eq_getElem hki, List.getElem?_eq_getElem hi, h1]
        · rw [List.getElem?_take, if_neg hi, List.getElem?_eq_none (by omega)]
      obtain ⟨V, hV⟩ : ∃ V, V = Ex.dval 0 D := ⟨_, rfl⟩
      have HVV : Hid (V = Ex.dval 0 D) := hV
      have hsc : Hid ((V ≤ 9223372036854775807 → Ex.scanV (sb t) k = V ∧ Ex.scanJ (sb t) k = k + D.length ∧ Ex.scanB (sb t) k = true) ∧ (¬ V ≤ 9223372036854775807 → Ex.scanV (sb t) k = 0 ∧ Ex.scanJ (sb t) k = k ∧ Ex.scanB (sb t) k = false)) := by
        constructor
        · intro h
          obtain ⟨s1, s2, s3⟩ := Ex.scan_fits (bs := sb t) (k := k) (by rw [← hDr, ← hV]; exact h)
          rw [← hDr] at s1 s2 s3
          exact ⟨by rw [s1, hV], s2, by rw [s3]; exact decide_eq_true hpos⟩
        · intro h
          exact Ex.scan_over (bs := sb t) (k := k) (by rw [← hDr, ← hV]; exact h)
      clear hDr hV
      generalize Ex.scanV (sb t) k = sv at hsc ⊢
      generalize Ex.scanJ (sb t) k = sj at hsc ⊢
      generalize Ex.scanB (sb t) k = sB at hsc ⊢
      go_wp2_with fail
      refine (gdigit_any _ _).mono ?_
      rw [hD]
      rintro e w10 ⟨rfl, rfl⟩
      clear hD
      go_wp2_with fail
      go_loop [16] (fun i => ∃ (q : Nat), q ≤ D.length ∧ i = .int .i64 ((k : Int) + (q : Int))) (fun i => t.size - (intOf i).toNat)
      case atStart => exact ⟨0, by omega, by go_num⟩
      case round =>
        obtain ⟨q, hq, rfl⟩ := hrel
        by_cases hqd : q < D.length
        · have h1 := HAT.out q hqd
          have x1 : (k : Int) + (q : Int) < (t.size : Int) := by omega
          have x2 : k + q < t.size := by omega
          go_wp2_with fail
          refine (gdigit_any _ _).mono ?_
          rw [h1]
          rintro e w11 ⟨rfl, rfl⟩
          go_wp2_with fail
          go_round
          case rel => first | exact ⟨q + 1, by omega, by go_num⟩ | (refine ⟨trivial, ?_⟩; (repeat apply Exists.intro); exact ⟨⟨q + 1, by omega, by go_num⟩, rfl⟩)
          case measure => simp [intOf]; omega
        · have hqD : q = D.length := by omega
          have HXS : Hid ((t.extract k (k + q)).size ≤ maxLen) := by
            show _ ≤ _
            rw [← sb_len, hqD, HEX.out]; unfold maxLen; omega
          have HXE : Hid (sb (t.extract k (k + q)) = D) := by rw [hqD]; exact HEX.out
          have HEN : Hid (k + q < t.size → Ex.isD (Ex.iAt (sb t) (k + q)) = false) := by rw [hqD]; exact HEND.out
          have hsc2 : Hid ((V ≤ 9223372036854775807 → sv = V ∧ sj = k + q ∧ sB = true) ∧ (¬ V ≤ 9223372036854775807 → sv = 0 ∧ sj = k ∧ sB = false)) := by rw [hqD]; exact hsc.out
          clear hqD HEX HEND HAT hsc
          have hne : (V ≤ 9223372036854775807) ∨ ¬ (V ≤ 9223372036854775807) := by omega
          by_cases hkq : k + q < t.size
          · have h1 := HEN.out hkq
            have x1 : (k : Int) + (q : Int) < (t.size : Int) := by omega
            go_wp2_with fail
            refine (gdigit_any _ _).mono ?_
            rw [h1]
            rintro e w11 ⟨rfl, rfl⟩
            rcases hne with hVb | hVb
            · obtain ⟨rfl, rfl, rfl⟩ := hsc2.out.1 hVb
              go_wp2_with fail
              refine (gvalue_yes _ _ _ HXS.out (by rw [HXE.out]; exact HDD.out) (by rw [HXE.out]; exact HVV.out.symm) hVb).mono ?_
              rintro e w12 ⟨rfl, rfl⟩
              go_wp2_with fail
              go_ret
              exact ⟨rfl, hbw⟩
            · obtain ⟨rfl, rfl, rfl⟩ := hsc2.out.2 hVb
              go_wp2_with fail
              refine (gvalue_no _ V _ HXS.out (by rw [HXE.out]; exact HDD.out) (by rw [HXE.out]; exact HVV.out.symm) hVb).mono ?_
              rintro e w12 ⟨rfl, rfl⟩
              go_wp2_with fail
              go_ret
              exact ⟨rfl, hbw⟩
          · have x1 : decide ((k : Int) + (q : Int) < (t.size : Int)) = false := decide_eq_false (by omega)
            have x2 : ¬ k + q < t.size := hkq
            rcases hne with hVb | hVb
            · obtain ⟨rfl, rfl, rfl⟩ := hsc2.out.1 hVb
              go_wp2_with fail
              refine (gvalue_yes _ _ _ HXS.out (by rw [HXE.out]; exact HDD.out) (by rw [HXE.out]; exact HVV.out.symm) hVb).mono ?_
              rintro e w12 ⟨rfl, rfl⟩
              go_wp2_with fail
              go_ret
              exact ⟨rfl, hbw⟩
            · obtain ⟨rfl, rfl, rfl⟩ := hsc2.out.2 hVb
              go_wp2_with fail
              refine (gvalue_no _ V _ HXS.out (by rw [HXE.out]; exact HDD.out) (by rw [HXE.out]; exact HVV.out.symm) hVb).mono ?_
              rintro e w12 ⟨rfl, rfl⟩
              go_wp2_with fail
              go_ret
              exact ⟨rfl, hbw⟩
  · have dkz : (t.size : Int) ≤ (k : Int) := by omega
    have hr := run_nil_of (bs := sb t) (k := k) (.inl (by have := HTL.out; omega))
    obtain ⟨s1, s2, s3⟩ := Ex.scan_fits (bs := sb t) (k := k) (by rw [hr]; simp [Ex.dval])
    rw [hr] at s1 s2 s3
    rw [s1, s2, s3]
    clear s1 s2 s3 hr
    go_wp2_with fail
    go_ret
    exact ⟨rfl, hbw⟩

set_option maxRecDepth 100000 in
set_option maxHeartbeats 2000000 in
theorem gspec_tfnat (s : ByteArray) (at' : Int) (w : World) (hs : s.size ≤ 1024) (ha0 : -9223372036854775808 ≤ at') (ha1 : at' ≤ 9223372036854775807) (hneg : ¬ at' < 0) :
    Calls Ybum.prog 7 #[.string s, .int .i64 at', .bool true, .bool false] w fun e w' => e = .returned (.bool true) ∧ Below w.heap.size w w' := by
  have d0 : decide ((1024 : Int) < (s.size : Int)) = false := decide_eq_false (by omega)
  have hbs := sb_at s
  have HSL : Hid ((sb s).length = s.size) := sb_len s
  have HBB : Hid (∀ n, 0 ≤ Ex.iAt (sb s) n ∧ Ex.iAt (sb s) n ≤ 255) := sb_byteAt s
  go_enter Ybum.func7, Ybum.ntmps7
  go_wp2_with (first
    | (at_make; go_must (refine make_int _ 22 5 .u8 1 Ybum.underlying22 Ybum.infoU8 (by omega) rfl _ (.tmp 25) rfl w.heap.size _ _ _ _ 0 s.size rfl rfl rfl (by omega) (by omega) (by omega) (by omega) ?_; intro w1 hown1 hb1 hlt1)))
  go_loopw [10, 11] (fun u i wr => ∃ (k : Nat), k ≤ s.size ∧ i = .int .i64 k ∧ OwnB wr w.heap.size u (((sb s).take k).map gtab) ∧ Below w.heap.size w wr) (fun _ i _ => s.size - (intOf i).toNat)
  case atStart => exact ⟨0, by omega, rfl, by simpa using hown1, hb1⟩
  case round =>
    obtain ⟨k, hk, rfl, hu, hb⟩ := hrel
    clear hown1 hb1 hlt1
    have hB := hb.size
    by_cases hlt : k < s.size
    · obtain ⟨e1, e2⟩ := HBB.out k
      have hix := gtab_index (Ex.iAt (sb s) k)
      have hlk : (((sb s).take k).map gtab).length = k := by have := HSL.out; simp; omega
      have HS : Hid (((sb s).take (k + 1)).map gtab = ((sb s).take k).map gtab ++ [gtab (Ex.iAt (sb s) k)]) := by
        show _ = _
        rw [Ex.itake_at (sb s) k (by have := HSL.out; omega)]; simp
      go_wp2_with (first
        | (at_builtin; go_must (refine app_int _ 22 5 .u8 1 Ybum.underlying22 Ybum.infoU8 (by omega) rfl (.tmp 33) (.tmp 40) rfl w.heap.size _ (((sb s).take k).map gtab) rfl (hu.alloc _) _ (gtab (Ex.iAt (sb s) k)) rfl (by simp) (by omega) (by simp; omega) ?_; intro u2 w2 hu2 huo hgr2)))
      go_roundw
      case rel => exact ⟨k + 1, by omega, by go_num, by rw [HS.out]; exact hu2, below_app hb hB hu.baseLe hgr2.after_alloc⟩
      case measure => simp [intOf]; omega
    · have hkd : decide ((k : Int) < (s.size : Int)) = false := decide_eq_false (by omega)
      obtain ⟨L, hL⟩ : ∃ L, L = ((sb s).take k).map gtab := ⟨_, rfl⟩
      have hLl : L.length ≤ 1024 := by rw [hL]; simp; omega
      rw [← hL] at hu
      obtain ⟨au, cu, rfl, hnu, _⟩ := hu.shape
      obtain ⟨t, hcv, htb, htz0⟩ := conv_own hu (fun c hc => by rw [hL] at hc; obtain ⟨x, _, rfl⟩ := List.mem_map.1 hc; exact gtab_byte x)
      have htz : t.size ≤ 1024 := by omega
      have HTM : Hid (t.size ≤ maxLen) := by show _ ≤ _; unfold maxLen; omega
      have HTL : Hid ((sb t).length = t.size) := sb_len t
      have hbt := sb_at t
      have hbw := hb
      clear htb htz0 hu hnu HBB HSL hbs hL hb hB
      obtain ⟨k, hk⟩ : ∃ k : Nat, (k : Int) = at' := ⟨at'.toNat, by omega⟩
      subst hk
      clear hneg
      go_wp2_with fail
      clear hcv
      refine (scan_any t k _ HTM.out (by omega)).mono ?_
      rintro e w9 ⟨rfl, rfl⟩
      have dk0 : decide ((k : Int) < 0) = false := decide_eq_false (by omega)
      by_cases hkz : k < t.size
      · have dkz : decide ((t.size : Int) ≤ (k : Int)) = false := decide_eq_false (by omega)
        have dkz' : decide (t.size ≤ k) = false := decide_eq_false (by omega)
        cases hD : Ex.isD (Ex.iAt (sb t) k) with
        | false =>
          have hr := run_nil_of (bs := sb t) (k := k) (.inr hD)
          obtain ⟨s1, s2, s3⟩ := Ex.scan_fits (bs := sb t) (k := k) (by rw [hr]; simp [Ex.dval])
          rw [hr] at s1 s2 s3
          rw [s1, s2, s3]
          clear s1 s2 s3 hr
          go_wp2_with fail
          refine (gdigit_any _ _).mono ?_
          rw [hD]
          rintro e w10 ⟨rfl, rfl⟩
          go_wp2_with fail
          go_ret
          exact ⟨rfl, hbw⟩
        | true =>
          obtain ⟨D, hDr⟩ : ∃ D, D = Ex.runAt (sb t) k := ⟨_, rfl⟩
          have hpos : 0 < D.length := by rw [hDr]; exact run_pos_of (by have := HTL.out; omega) hD
          have hdle : D.length + k ≤ t.size := by
            have := Ex.run_le (sb t) k
            rw [← hDr, HTL.out] at this
            omega
          have HAT : Hid (∀ q, q < D.length → Ex.isD (Ex.iAt (sb t) (k + q)) = true) := fun q hq => by
            have := Ex.run_at (sb t) k q (by rw [← hDr]; exact hq)
            exact Ex.isD_iff.2 this.2.2
          have HEND : Hid (k + D.length < t.size → Ex.isD (Ex.iAt (sb t) (k + D.length)) = false) := fun h => by
            have := Ex.run_end (sb t) k (by rw [← hDr, HTL.out]; exact h)
            rw [← hDr] at this
            exact Ex.isD_not.2 this
          have HDD : Hid (∀ c ∈ D, 48 ≤ c ∧ c ≤ 57) := by rw [hDr]; exact Ex.run_dig (sb t) k
          have HEX : Hid (sb (t.extract k (k + D.length)) = D) := by
            show _ = _
            rw [sb_extract, Nat.add_sub_cancel_left]
            refine List.ext_getElem? fun i => ?_
            by_cases hi : i < D.length
            · have h1 := (Ex.run_at (sb t) k i (by rw [← hDr]; exact hi)).2.1
              rw [← hDr, Ex.iAt_eq D i hi] at h1
              have hki : k + i < (sb t).length := by have := HTL.out; omega
              rw [Ex.iAt_eq (sb t) (k + i) hki] at h1
              rw [List.getElem?_take, if_pos hi, List.getElem?_drop, List.getElem?_eq_getElem hki, List.getElem?_eq_getElem hi, h1]
            · rw [List.getElem?_take, if_neg hi, List.getElem?_eq_none (by omega)]
          obtain ⟨V, hV⟩ : ∃ V, V = Ex.dval 0 D := ⟨_, rfl⟩
          have HVV : Hid (V = Ex.dval 0 D) := hV
          have hsc : Hid ((V ≤ 9223372036854775807 → Ex.scanV (sb t) k = V ∧ Ex.scanJ (sb t) k = k + D.length ∧ Ex.scanB (sb t) k = true) ∧ (¬ V ≤ 9223372036854775807 → Ex.scanV (sb t) k = 0 ∧ Ex.scanJ (sb t) k = k ∧ Ex.scanB (sb t) k = false)) := by
            constructor
            · intro h
              obtain ⟨s1, s2, s3⟩ := Ex.scan_fits (bs := sb t) (k := k) (by rw [← hDr, ← hV]; exact h)
              rw [← hDr] at s1 s2 s3
              exact ⟨by rw [s1, hV], s2, by rw [s3]; exact decide_eq_true hpos⟩
            · intro h
              exact Ex.scan_over (bs := sb t) (k := k) (by rw [← hDr, ← hV]; exact h)
          clear hDr hV
          generalize Ex.scanV (sb t) k = sv at hsc ⊢
          generalize Ex.scanJ (sb t) k = sj at hsc ⊢
          generalize Ex.scanB (sb t) k = sB at hsc ⊢
          go_wp2_with fail
          refine (gdigit_any _ _).mono ?_
          rw [hD]
          rintro e w10 ⟨rfl, rfl⟩
          clear hD
          go_wp2_with fail
          go_loop [16] (fun i => ∃ (q : Nat), q ≤ D.length ∧ i = .int .i64 ((k : Int) + (q : Int))) (fun i => t.size - (intOf i).toNat)
          case atStart => exact ⟨0, by omega, by go_num⟩
          case round =>
            obtain ⟨q, hq, rfl⟩ := hrel
            by_cases hqd : q < D.length
            · have h1 := HAT.out q hqd
              have x1 : (k : Int) + (q : Int) < (t.size : Int) := by omega
              have x2 : k + q < t.size := by omega
              go_wp2_with fail
              refine (gdigit_any _ _).mono ?_
              rw [h1]
              rintro e w11 ⟨rfl, rfl⟩
              go_wp2_with fail
              go_round
              case rel => first | exact ⟨q + 1, by omega, by go_num⟩ | (refine ⟨trivial, ?_⟩; (repeat apply Exists.intro); exact ⟨⟨q + 1, by omega, by go_num⟩, rfl⟩)
              case measure => simp [intOf]; omega
            · have hqD : q = D.length := by omega
              have HXS : Hid ((t.extract k (k + q)).size ≤ maxLen) := by
                show _ ≤ _
                rw [← sb_len, hqD, HEX.out]; unfold maxLen; omega
              have HXE : Hid (sb (t.extract k (k + q)) = D) := by rw [hqD]; exact HEX.out
              have HEN : Hid (k + q < t.size → Ex.isD (Ex.iAt (sb t) (k + q)) = false) := by rw [hqD]; exact HEND.out
              have hsc2 : Hid ((V ≤ 9223372036854775807 → sv = V ∧ sj = k + q ∧ sB = true) ∧ (¬ V ≤ 9223372036854775807 → sv = 0 ∧ sj = k ∧ sB = false)) := by rw [hqD]; exact hsc.out
              clear hqD HEX HEND HAT hsc
              have hne : (V ≤ 9223372036854775807) ∨ ¬ (V ≤ 9223372036854775807) := by omega
              by_cases hkq : k + q < t.size
              · have h1 := HEN.out hkq
                have x1 : (k : Int) + (q : Int) < (t.size : Int) := by omega
                go_wp2_with fail
                refine (gdigit_any _ _).mono ?_
                rw [h1]
                rintro e w11 ⟨rfl, rfl⟩
                rcases hne with hVb | hVb
                · obtain ⟨rfl, rfl, rfl⟩ := hsc2.out.1 hVb
                  go_wp2_with fail
                  refine (gvalue_yes _ _ _ HXS.out (by rw [HXE.out]; exact HDD.out) (by rw [HXE.out]; exact HVV.out.symm) hVb).mono ?_
                  rintro e w12 ⟨rfl, rfl⟩
                  go_wp2_with fail
                  go_ret
                  exact ⟨rfl, hbw⟩
                · obtain ⟨rfl, rfl, rfl⟩ := hsc2.out.2 hVb
                  go_wp2_with fail
                  refine (gvalue_no _ V _ HXS.out (by rw [HXE.out]; exact HDD.out) (by rw [HXE.out]; exact HVV.out.symm) hVb).mono ?_
                  rintro e w12 ⟨rfl, rfl⟩
                  go_wp2_with fail
                  go_ret
                  exact ⟨rfl, hbw⟩
              · have x1 : decide ((k : Int) + (q : Int) < (t.size : Int)) = false := decide_eq_false (by omega)
                have x2 : ¬ k + q < t.size := hkq
                rcases hne with hVb | hVb
                · obtain ⟨rfl, rfl, rfl⟩ := hsc2.out.1 hVb
                  go_wp2_with fail
                  refine (gvalue_yes _ _ _ HXS.out (by rw [HXE.out]; exact HDD.out) (by rw [HXE.out]; exact HVV.out.symm) hVb).mono ?_
                  rintro e w12 ⟨rfl, rfl⟩
                  go_wp2_with fail
                  go_ret
                  exact ⟨rfl, hbw⟩
                · obtain ⟨rfl, rfl, rfl⟩ := hsc2.out.2 hVb
                  go_wp2_with fail
                  refine (gvalue_no _ V _ HXS.out (by rw [HXE.out]; exact HDD.out) (by rw [HXE.out]; exact HVV.out.symm) hVb).mono ?_
                  rintro e w12 ⟨rfl, rfl⟩
                  go_wp2_with fail
                  go_ret
                  exact ⟨rfl, hbw⟩
      · have dkz : (t.size : Int) ≤ (k : Int) := by omega
        have hr := run_nil_of (bs := sb t) (k := k) (.inl (by have := HTL.out; omega))
        obtain ⟨s1, s2, s3⟩ := Ex.scan_fits (bs := sb t) (k := k) (by rw [hr]; simp [Ex.dval])
        rw [hr] at s1 s2 s3
        rw [s1, s2, s3]
        clear s1 s2 s3 hr
        go_wp2_with fail
        go_ret
        exact ⟨rfl, hbw⟩

set_option maxRecDepth 100000 in
set_option maxHeartbeats 2000000 in
theorem gspec_ftneg (t : ByteArray) (at' : Int) (w : World) (htz : t.size ≤ 1024) (ha0 : -9223372036854775808 ≤ at') (ha1 : at' ≤ 9223372036854775807) (hneg : at' < 0) :
    Calls Ybum.prog 7 #[.string t, .int .i64 at', .bool false, .bool true] w fun e w' => e = .returned (.bool true) ∧ Below w.heap.size w w' := by
  have d0 : decide ((1024 : Int) < (t.size : Int)) = false := decide_eq_false (by omega)
  have HTM : Hid (t.size ≤ maxLen) := by show _ ≤ _; unfold maxLen; omega
  have HTL : Hid ((sb t).length = t.size) := sb_len t
  have hbt := sb_at t
  have hbw : Below w.heap.size w w := Below.refl _ _
  go_enter Ybum.func7, Ybum.ntmps7
  go_wp2_with fail
  obtain ⟨k, hk⟩ : ∃ k : Nat, wrap64 ((IntKind.u64.wrap at').tmod ((t.size : Int) + 1)) = (k : Int) ∧ k ≤ t.size := by
    have h0 : 0 ≤ IntKind.u64.wrap at' := by rw [IntKind.wrap_u64]; omega
    have h1 := Int.emod_nonneg (IntKind.u64.wrap at') (show (t.size : Int) + 1 ≠ 0 by omega)
    have h2 := Int.emod_lt_of_pos (IntKind.u64.wrap at') (show (0 : Int) < (t.size : Int) + 1 by omega)
    rw [Int.tmod_eq_emod_of_nonneg h0]
    generalize IntKind.u64.wrap at' % ((t.size : Int) + 1) = z at *
    exact ⟨z.toNat, by unfold wrap64; omega, by omega⟩
  rw [hk.1]
  obtain ⟨_, hkz0⟩ := hk
  refine (scan_any t k _ HTM.out (by omega)).mono ?_
  rintro e w9 ⟨rfl, rfl⟩
  have dk0 : decide ((k : Int) < 0) = false := decide_eq_false (by omega)
  by_cases hkz : k < t.size
  · have dkz : decide ((t.size : Int) ≤ (k : Int)) = false := decide_eq_false (by omega)
    have dkz' : decide (t.size ≤ k) = false := decide_eq_false (by omega)
    cases hD : Ex.isD (Ex.iAt (sb t) k) with
    | false =>
      have hr := run_nil_of (bs := sb t) (k := k) (.inr hD)
      obtain ⟨s1, s2, s3⟩ := Ex.scan_fits (bs := sb t) (k := k) (by rw [hr]; simp [Ex.dval])
      rw [hr] at s1 s2 s3
      rw [s1, s2, s3]
      clear s1 s2 s3 hr
      go_wp2_with fail
      refine (gdigit_any _ _).mono ?_
      rw [hD]
      rintro e w10 ⟨rfl, rfl⟩
      go_wp2_with fail
      go_ret
      exact ⟨rfl, hbw⟩
    | true =>
      obtain ⟨D, hDr⟩ : ∃ D, D = Ex.runAt (sb t) k := ⟨_, rfl⟩
      have hpos : 0 < D.length := by rw [hDr]; exact run_pos_of (by have := HTL.out; omega) hD
      have hdle : D.length + k ≤ t.size := by
        have := Ex.run_le (sb t) k
        rw [← hDr, HTL.out] at this
        omega
      have HAT : Hid (∀ q, q < D.length → Ex.isD (Ex.iAt (sb t) (k + q)) = true) := fun q hq => by
        have := Ex.run_at (sb t) k q (by rw [← hDr]; exact hq)
        exact Ex.isD_iff.2 this.2.2
      have HEND : Hid (k + D.length < t.size → Ex.isD (Ex.iAt (sb t) (k + D.length)) = false) := fun h => by
        have := Ex.run_end (sb t) k (by rw [← hDr, HTL.out]; exact h)
        rw [← hDr] at this
        exact Ex.isD_not.2 this
      have HDD : Hid (∀ c ∈ D, 48 ≤ c ∧ c ≤ 57) := by rw [hDr]; exact Ex.run_dig (sb t) k
      have HEX : Hid (sb (t.extract k (k + D.length)) = D) := by
        show _ = _
        rw [sb_extract, Nat.add_sub_cancel_left]
        refine List.ext_getElem? fun i => ?_
        by_cases hi : i < D.length
        · have h1 := (Ex.run_at (sb t) k i (by rw [← hDr]; exact hi)).2.1
          rw [← hDr, Ex.iAt_eq D i hi] at h1
          have hki : k + i < (sb t).length := by have := HTL.out; omega
          rw [Ex.iAt_eq (sb t) (k + i) hki] at h1
          rw [List.getElem?_take, if_pos hi, List.getElem?_drop, List.getElem?_eq_getElem hki, List.getElem?_eq_getElem hi, h1]
        · rw [List.getElem?_take, if_neg hi, List.getElem?_eq_none (by omega)]
      obtain ⟨V, hV⟩ : ∃ V, V = Ex.dval 0 D := ⟨_, rfl⟩
      have HVV : Hid (V = Ex.dval 0 D) := hV
      have hsc : Hid ((V ≤ 9223372036854775807 → Ex.scanV (sb t) k = V ∧ Ex.scanJ (sb t) k = k + D.length ∧ Ex.scanB (sb t) k = true) ∧ (¬ V ≤ 9223372036854775807 → Ex.scanV (sb t) k = 0 ∧ Ex.scanJ (sb t) k = k ∧ Ex.scanB (sb t) k = false)) := by
        constructor
        · intro h
          obtain ⟨s1, s2, s3⟩ := Ex.scan_fits (bs := sb t) (k := k) (by rw [← hDr, ← hV]; exact h)
          rw [← hDr] at s1 s2 s3
          exact ⟨by rw [s1, hV], s2, by rw [s3]; exact decide_eq_true hpos⟩
        · intro h
          exact Ex.scan_over (bs := sb t) (k := k) (by rw [← hDr, ← hV]; exact h)
      clear hDr hV
      generalize Ex.scanV (sb t) k = sv at hsc ⊢
      generalize Ex.scanJ (sb t) k = sj at hsc ⊢
      generalize Ex.scanB (sb t) k = sB at hsc ⊢
      go_wp2_with fail
      refine (gdigit_any _ _).mono ?_
      rw [hD]
      rintro e w10 ⟨rfl, rfl⟩
      clear hD
      go_wp2_with fail
      go_loop [16] (fun i => ∃ (q : Nat), q ≤ D.length ∧ i = .int .i64 ((k : Int) + (q : Int))) (fun i => t.size - (intOf i).toNat)
      case atStart => exact ⟨0, by omega, by go_num⟩
      case round =>
        obtain ⟨q, hq, rfl⟩ := hrel
        by_cases hqd : q < D.length
        · have h1 := HAT.out q hqd
          have x1 : (k : Int) + (q : Int) < (t.size : Int) := by omega
          have x2 : k + q < t.size := by omega
          go_wp2_with fail
          refine (gdigit_any _ _).mono ?_
          rw [h1]
          rintro e w11 ⟨rfl, rfl⟩
          go_wp2_with fail
          go_round
          case rel => first | exact ⟨q + 1, by omega, by go_num⟩ | (refine ⟨trivial, ?_⟩; (repeat apply Exists.intro); exact ⟨⟨q + 1, by omega, by go_num⟩, rfl⟩)
          case measure => simp [intOf]; omega
        · have hqD : q = D.length := by omega
          have HXS : Hid ((t.extract k (k + q)).size ≤ maxLen) := by
            show _ ≤ _
            rw [← sb_len, hqD, HEX.out]; unfold maxLen; omega
          have HXE : Hid (sb (t.extract k (k + q)) = D) := by rw [hqD]; exact HEX.out
          have HEN : Hid (k + q < t.size → Ex.isD (Ex.iAt (sb t) (k + q)) = false) := by rw [hqD]; exact HEND.out
          have hsc2 : Hid ((V ≤ 9223372036854775807 → sv = V ∧ sj = k + q ∧ sB = true) ∧ (¬ V ≤ 9223372036854775807 → sv = 0 ∧ sj = k ∧ sB = false)) := by rw [hqD]; exact hsc.out
          clear hqD HEX HEND HAT hsc
          have hne : (V ≤ 9223372036854775807) ∨ ¬ (V ≤ 9223372036854775807) := by omega
          by_cases hkq : k + q < t.size
          · have h1 := HEN.out hkq
            have x1 : (k : Int) + (q : Int) < (t.size : Int) := by omega
            go_wp2_with fail
            refine (gdigit_any _ _).mono ?_
            rw [h1]
            rintro e w11 ⟨rfl, rfl⟩
            rcases hne with hVb | hVb
            · obtain ⟨rfl, rfl, rfl⟩ := hsc2.out.1 hVb
              go_wp2_with fail
              refine (gvalue_yes _ _ _ HXS.out (by rw [HXE.out]; exact HDD.out) (by rw [HXE.out]; exact HVV.out.symm) hVb).mono ?_
              rintro e w12 ⟨rfl, rfl⟩
              go_wp2_with fail
              go_ret
              exact ⟨rfl, hbw⟩
            · obtain ⟨rfl, rfl, rfl⟩ := hsc2.out.2 hVb
              go_wp2_with fail
              refine (gvalue_no _ V _ HXS.out (by rw [HXE.out]; exact HDD.out) (by rw [HXE.out]; exact HVV.out.symm) hVb).mono ?_
              rintro e w12 ⟨rfl, rfl⟩
              go_wp2_with fail
              go_ret
              exact ⟨rfl, hbw⟩
          · have x1 : decide ((k : Int) + (q : Int) < (t.size : Int)) = false := decide_eq_false (by omega)
            have x2 : ¬ k + q < t.size := hkq
            rcases hne with hVb | hVb
            · obtain ⟨rfl, rfl, rfl⟩ := hsc2.out.1 hVb
              go_wp2_with fail
              refine (gvalue_yes _ _ _ HXS.out (by rw [HXE.out]; exact HDD.out) (by rw [HXE.out]; exact HVV.out.symm) hVb).mono ?_
              rintro e w12 ⟨rfl, rfl⟩
              go_wp2_with fail
              go_ret
              exact ⟨rfl, hbw⟩
            · obtain ⟨rfl, rfl, rfl⟩ := hsc2.out.2 hVb
              go_wp2_with fail
              refine (gvalue_no _ V _ HXS.out (by rw [HXE.out]; exact HDD.out) (by rw [HXE.out]; exact HVV.out.symm) hVb).mono ?_
              rintro e w12 ⟨rfl, rfl⟩
              go_wp2_with fail
              go_ret
              exact ⟨rfl, hbw⟩
  · have dkz : (t.size : Int) ≤ (k : Int) := by omega
    have hr := run_nil_of (bs := sb t) (k := k) (.inl (by have := HTL.out; omega))
    obtain ⟨s1, s2, s3⟩ := Ex.scan_fits (bs := sb t) (k := k) (by rw [hr]; simp [Ex.dval])
    rw [hr] at s1 s2 s3
    rw [s1, s2, s3]
    clear s1 s2 s3 hr
    go_wp2_with fail
    go_ret
    exact ⟨rfl, hbw⟩

set_option maxRecDepth 100000 in
set_option maxHeartbeats 2000000 in
theorem gspec_ttneg (s : ByteArray) (at' : Int) (w : World) (hs : s.size ≤ 1024) (ha0 : -9223372036854775808 ≤ at') (ha1 : at' ≤ 9223372036854775807) (hneg : at' < 0) :
    Calls Ybum.prog 7 #[.string s, .int .i64 at', .bool true, .bool true] w fun e w' => e = .returned (.bool true) ∧ Below w.heap.size w w' := by
  have d0 : decide ((1024 : Int) < (s.size : Int)) = false := decide_eq_false (by omega)
  have hbs := sb_at s
  have HSL : Hid ((sb s).length = s.size) := sb_len s
  have HBB : Hid (∀ n, 0 ≤ Ex.iAt (sb s) n ∧ Ex.iAt (sb s) n ≤ 255) := sb_byteAt s
  go_enter Ybum.func7, Ybum.ntmps7
  go_wp2_with (first
    | (at_make; go_must (refine make_int _ 22 5 .u8 1 Ybum.underlying22 Ybum.infoU8 (by omega) rfl _ (.tmp 25) rfl w.heap.size _ _ _ _ 0 s.size rfl rfl rfl (by omega) (by omega) (by omega) (by omega) ?_; intro w1 hown1 hb1 hlt1)))
  go_loopw [10, 11] (fun u i wr => ∃ (k : Nat), k ≤ s.size ∧ i = .int .i64 k ∧ OwnB wr w.heap.size u (((sb s).take k).map gtab) ∧ Below w.heap.size w wr) (fun _ i _ => s.size - (intOf i).toNat)
  case atStart => exact ⟨0, by omega, rfl, by simpa using hown1, hb1⟩
  case round =>
    obtain ⟨k, hk, rfl, hu, hb⟩ := hrel
    clear hown1 hb1 hlt1
    have hB := hb.size
    by_cases hlt : k < s.size
    · obtain ⟨e1, e2⟩ := HBB.out k
      have hix := gtab_index (Ex.iAt (sb s) k)
      have hlk : (((sb s).take k).map gtab).length = k := by have := HSL.out; simp; omega
      have HS : Hid (((sb s).take (k + 1)).map gtab = ((sb s).take k).map gtab ++ [gtab (Ex.iAt (sb s) k)]) := by
        show _ = _
        rw [Ex.itake_at (sb s) k (by have := HSL.out; omega)]; simp
      go_wp2_with (first
        | (at_builtin; go_must (refine app_int _ 22 5 .u8 1 Ybum.underlying22 Ybum.infoU8 (by omega) rfl (.tmp 33) (.tmp 40) rfl w.heap.size _ (((sb s).take k).map gtab) rfl (hu.alloc _) _ (gtab (Ex.iAt (sb s) k)) rfl (by simp) (by omega) (by simp; omega) ?_; intro u2 w2 hu2 huo hgr2)))
      go_roundw
      case rel => exact ⟨k + 1, by omega, by go_num, by rw [HS.out]; exact hu2, below_app hb hB hu.baseLe hgr2.after_alloc⟩
      case measure => simp [intOf]; omega
    · have hkd : decide ((k : Int) < (s.size : Int)) = false := decide_eq_false (by omega)
      obtain ⟨L, hL⟩ : ∃ L, L = ((sb s).take k).map gtab := ⟨_, rfl⟩
      have hLl : L.length ≤ 1024 := by rw [hL]; simp; omega
      rw [← hL] at hu
      obtain ⟨au, cu, rfl, hnu, _⟩ := hu.shape
      obtain ⟨t, hcv, htb, htz0⟩ := conv_own hu (fun c hc => by rw [hL] at hc; obtain ⟨x, _, rfl⟩ := List.mem_map.1 hc; exact gtab_byte x)
      have htz : t.size ≤ 1024 := by omega
      have HTM : Hid (t.size ≤ maxLen) := by show _ ≤ _; unfold maxLen; omega
      have HTL : Hid ((sb t).length = t.size) := sb_len t
      have hbt := sb_at t
      have hbw := hb
      clear htb htz0 hu hnu HBB HSL hbs hL hb hB
      go_wp2_with fail
      clear hcv
      obtain ⟨k, hk⟩ : ∃ k : Nat, wrap64 ((IntKind.u64.wrap at').tmod ((t.size : Int) + 1)) = (k : Int) ∧ k ≤ t.size := by
        have h0 : 0 ≤ IntKind.u64.wrap at' := by rw [IntKind.wrap_u64]; omega
        have h1 := Int.emod_nonneg (IntKind.u64.wrap at') (show (t.size : Int) + 1 ≠ 0 by omega)
        have h2 := Int.emod_lt_of_pos (IntKind.u64.wrap at') (show (0 : Int) < (t.size : Int) + 1 by omega)
        rw [Int.tmod_eq_emod_of_nonneg h0]
        generalize IntKind.u64.wrap at' % ((t.size : Int) + 1) = z at *
        exact ⟨z.toNat, by unfold wrap64; omega, by omega⟩
      rw [hk.1]
      obtain ⟨_, hkz0⟩ := hk
      refine (scan_any t k _ HTM.out (by omega)).mono ?_
      rintro e w9 ⟨rfl, rfl⟩
      have dk0 : decide ((k : Int) < 0) = false := decide_eq_false (by omega)
      by_cases hkz : k < t.size
      · have dkz : decide ((t.size : Int) ≤ (k : Int)) = false := decide_eq_false (by omega)
        have dkz' : decide (t.size ≤ k) = false := decide_eq_false (by omega)
        cases hD : Ex.isD (Ex.iAt (sb t) k) with
        | false =>
          have hr := run_nil_of (bs := sb t) (k := k) (.inr hD)
          obtain ⟨s1, s2, s3⟩ := Ex.scan_fits (bs := sb t) (k := k) (by rw [hr]; simp [Ex.dval])
          rw [hr] at s1 s2 s3
          rw [s1, s2, s3]
          clear s1 s2 s3 hr
          go_wp2_with fail
          refine (gdigit_any _ _).mono ?_
          rw [hD]
          rintro e w10 ⟨rfl, rfl⟩
          go_wp2_with fail
          go_ret
          exact ⟨rfl, hbw⟩
        | true =>
          obtain ⟨D, hDr⟩ : ∃ D, D = Ex.runAt (sb t) k := ⟨_, rfl⟩
          have hpos : 0 < D.length := by rw [hDr]; exact run_pos_of (by have := HTL.out; omega) hD
          have hdle : D.length + k ≤ t.size := by
            have := Ex.run_le (sb t) k
            rw [← hDr, HTL.out] at this
            omega
          have HAT : Hid (∀ q, q < D.length → Ex.isD (Ex.iAt (sb t) (k + q)) = true) := fun q hq => by
            have := Ex.run_at (sb t) k q (by rw [← hDr]; exact hq)
            exact Ex.isD_iff.2 this.2.2
          have HEND : Hid (k + D.length < t.size → Ex.isD (Ex.iAt (sb t) (k + D.length)) = false) := fun h => by
            have := Ex.run_end (sb t) k (by rw [← hDr, HTL.out]; exact h)
            rw [← hDr] at this
            exact Ex.isD_not.2 this
          have HDD : Hid (∀ c ∈ D, 48 ≤ c ∧ c ≤ 57) := by rw [hDr]; exact Ex.run_dig (sb t) k
          have HEX : Hid (sb (t.extract k (k + D.length)) = D) := by
            show _ = _
            rw [sb_extract, Nat.add_sub_cancel_left]
            refine List.ext_getElem? fun i => ?_
            by_cases hi : i < D.length
            · have h1 := (Ex.run_at (sb t) k i (by rw [← hDr]; exact hi)).2.1
              rw [← hDr, Ex.iAt_eq D i hi] at h1
              have hki : k + i < (sb t).length := by have := HTL.out; omega
              rw [Ex.iAt_eq (sb t) (k + i) hki] at h1
              rw [List.getElem?_take, if_pos hi, List.getElem?_drop, List.getElem?_eq_getElem hki, List.getElem?_eq_getElem hi, h1]
            · rw [List.getElem?_take, if_neg hi, List.getElem?_eq_none (by omega)]
          obtain ⟨V, hV⟩ : ∃ V, V = Ex.dval 0 D := ⟨_, rfl⟩
          have HVV : Hid (V = Ex.dval 0 D) := hV
          have hsc : Hid ((V ≤ 9223372036854775807 → Ex.scanV (sb t) k = V ∧ Ex.scanJ (sb t) k = k + D.length ∧ Ex.scanB (sb t) k = true) ∧ (¬ V ≤ 9223372036854775807 → Ex.scanV (sb t) k = 0 ∧ Ex.scanJ (sb t) k = k ∧ Ex.scanB (sb t) k = false)) := by
            constructor
            · intro h
              obtain ⟨s1, s2, s3⟩ := Ex.scan_fits (bs := sb t) (k := k) (by rw [← hDr, ← hV]; exact h)
              rw [← hDr] at s1 s2 s3
              exact ⟨by rw [s1, hV], s2, by rw [s3]; exact decide_eq_true hpos⟩
            · intro h
              exact Ex.scan_over (bs := sb t) (k := k) (by rw [← hDr, ← hV]; exact h)
          clear hDr hV
          generalize Ex.scanV (sb t) k = sv at hsc ⊢
          generalize Ex.scanJ (sb t) k = sj at hsc ⊢
          generalize Ex.scanB (sb t) k = sB at hsc ⊢
          go_wp2_with fail
          refine (gdigit_any _ _).mono ?_
          rw [hD]
          rintro e w10 ⟨rfl, rfl⟩
          clear hD
          go_wp2_with fail
          go_loop [16] (fun i => ∃ (q : Nat), q ≤ D.length ∧ i = .int .i64 ((k : Int) + (q : Int))) (fun i => t.size - (intOf i).toNat)
          case atStart => exact ⟨0, by omega, by go_num⟩
          case round =>
            obtain ⟨q, hq, rfl⟩ := hrel
            by_cases hqd : q < D.length
            · have h1 := HAT.out q hqd
              have x1 : (k : Int) + (q : Int) < (t.size : Int) := by omega
              have x2 : k + q < t.size := by omega
              go_wp2_with fail
              refine (gdigit_any _ _).mono ?_
              rw [h1]
              rintro e w11 ⟨rfl, rfl⟩
              go_wp2_with fail
              go_round
              case rel => first | exact ⟨q + 1, by omega, by go_num⟩ | (refine ⟨trivial, ?_⟩; (repeat apply Exists.intro); exact ⟨⟨q + 1, by omega, by go_num⟩, rfl⟩)
              case measure => simp [intOf]; omega
            · have hqD : q = D.length := by omega
              have HXS : Hid ((t.extract k (k + q)).size ≤ maxLen) := by
                show _ ≤ _
                rw [← sb_len, hqD, HEX.out]; unfold maxLen; omega
              have HXE : Hid (sb (t.extract k (k + q)) = D) := by rw [hqD]; exact HEX.out
              have HEN : Hid (k + q < t.size → Ex.isD (Ex.iAt (sb t) (k + q)) = false) := by rw [hqD]; exact HEND.out
              have hsc2 : Hid ((V ≤ 9223372036854775807 → sv = V ∧ sj = k + q ∧ sB = true) ∧ (¬ V ≤ 9223372036854775807 → sv = 0 ∧ sj = k ∧ sB = false)) := by rw [hqD]; exact hsc.out
              clear hqD HEX HEND HAT hsc
              have hne : (V ≤ 9223372036854775807) ∨ ¬ (V ≤ 9223372036854775807) := by omega
              by_cases hkq : k + q < t.size
              · have h1 := HEN.out hkq
                have x1 : (k : Int) + (q : Int) < (t.size : Int) := by omega
                go_wp2_with fail
                refine (gdigit_any _ _).mono ?_
                rw [h1]
                rintro e w11 ⟨rfl, rfl⟩
                rcases hne with hVb | hVb
                · obtain ⟨rfl, rfl, rfl⟩ := hsc2.out.1 hVb
                  go_wp2_with fail
                  refine (gvalue_yes _ _ _ HXS.out (by rw [HXE.out]; exact HDD.out) (by rw [HXE.out]; exact HVV.out.symm) hVb).mono ?_
                  rintro e w12 ⟨rfl, rfl⟩
                  go_wp2_with fail
                  go_ret
                  exact ⟨rfl, hbw⟩
                · obtain ⟨rfl, rfl, rfl⟩ := hsc2.out.2 hVb
                  go_wp2_with fail
                  refine (gvalue_no _ V _ HXS.out (by rw [HXE.out]; exact HDD.out) (by rw [HXE.out]; exact HVV.out.symm) hVb).mono ?_
                  rintro e w12 ⟨rfl, rfl⟩
                  go_wp2_with fail
                  go_ret
                  exact ⟨rfl, hbw⟩
              · have x1 : decide ((k : Int) + (q : Int) < (t.size : Int)) = false := decide_eq_false (by omega)
                have x2 : ¬ k + q < t.size := hkq
                rcases hne with hVb | hVb
                · obtain ⟨rfl, rfl, rfl⟩ := hsc2.out.1 hVb
                  go_wp2_with fail
                  refine (gvalue_yes _ _ _ HXS.out (by rw [HXE.out]; exact HDD.out) (by rw [HXE.out]; exact HVV.out.symm) hVb).mono ?_
                  rintro e w12 ⟨rfl, rfl⟩
                  go_wp2_with fail
                  go_ret
                  exact ⟨rfl, hbw⟩
                · obtain ⟨rfl, rfl, rfl⟩ := hsc2.out.2 hVb
                  go_wp2_with fail
                  refine (gvalue_no _ V _ HXS.out (by rw [HXE.out]; exact HDD.out) (by rw [HXE.out]; exact HVV.out.symm) hVb).mono ?_
                  rintro e w12 ⟨rfl, rfl⟩
                  go_wp2_with fail
                  go_ret
                  exact ⟨rfl, hbw⟩
      · have dkz : (t.size : Int) ≤ (k : Int) := by omega
        have hr := run_nil_of (bs := sb t) (k := k) (.inl (by have := HTL.out; omega))
        obtain ⟨s1, s2, s3⟩ := Ex.scan_fits (bs := sb t) (k := k) (by rw [hr]; simp [Ex.dval])
        rw [hr] at s1 s2 s3
        rw [s1, s2, s3]
        clear s1 s2 s3 hr
        go_wp2_with fail
        go_ret
        exact ⟨rfl, hbw⟩

set_option maxRecDepth 100000 in
set_option maxHeartbeats 2000000 in
theorem gspec_ftnat (t : ByteArray) (at' : Int) (w : World) (htz : t.size ≤ 1024) (ha0 : -9223372036854775808 ≤ at') (ha1 : at' ≤ 9223372036854775807) (hneg : ¬ at' < 0) :
    Calls Ybum.prog 7 #[.string t, .int .i64 at', .bool false, .bool true] w fun e w' => e = .returned (.bool true) ∧ Below w.heap.size w w' := by
  have d0 : decide ((1024 : Int) < (t.size : Int)) = false := decide_eq_false (by omega)
  have HTM : Hid (t.size ≤ maxLen) := by show _ ≤ _; unfold maxLen; omega
  have HTL : Hid ((sb t).length = t.size) := sb_len t
  have hbt := sb_at t
  have hbw : Below w.heap.size w w := Below.refl _ _
  go_enter Ybum.func7, Ybum.ntmps7
  go_wp2_with fail
  obtain ⟨k, hk⟩ : ∃ k : Nat, wrap64 (at' % ((t.size : Int) + 1)) = (k : Int) ∧ k ≤ t.size := by
    have h1 := Int.emod_nonneg at' (show (t.size : Int) + 1 ≠ 0 by omega)
    have h2 := Int.emod_lt_of_pos at' (show (0 : Int) < (t.size : Int) + 1 by omega)
    generalize at' % ((t.size : Int) + 1) = z at *
    exact ⟨z.toNat, by unfold wrap64; omega, by omega⟩
  rw [hk.1]
  obtain ⟨_, hkz0⟩ := hk
  refine (scan_any t k _ HTM.out (by omega)).mono ?_
  rintro e w9 ⟨rfl, rfl⟩
  have dk0 : decide ((k : Int) < 0) = false := decide_eq_false (by omega)
  by_cases hkz : k < t.size
  · have dkz : decide ((t.size : Int) ≤ (k : Int)) = false := decide_eq_false (by omega)
    have dkz' : decide (t.size ≤ k) = false := decide_eq_false (by omega)
    cases hD : Ex.isD (Ex.iAt (sb t) k) with
    | false =>
      have hr := run_nil_of (bs := sb t) (k := k) (.inr hD)
      obtain ⟨s1, s2, s3⟩ := Ex.scan_fits (bs := sb t) (k := k) (by rw [hr]; simp [Ex.dval])
      rw [hr] at s1 s2 s3
      rw [s1, s2, s3]
      clear s1 s2 s3 hr
      go_wp2_with fail
      refine (gdigit_any _ _).mono ?_
      rw [hD]
      rintro e w10 ⟨rfl, rfl⟩
      go_wp2_with fail
      go_ret
      exact ⟨rfl, hbw⟩
    | true =>
      obtain ⟨D, hDr⟩ : ∃ D, D = Ex.runAt (sb t) k := ⟨_, rfl⟩
      have hpos : 0 < D.length := by rw [hDr]; exact run_pos_of (by have := HTL.out; omega) hD
      have hdle : D.length + k ≤ t.size := by
        have := Ex.run_le (sb t) k
        rw [← hDr, HTL.out] at this
        omega
      have HAT : Hid (∀ q, q < D.length → Ex.isD (Ex.iAt (sb t) (k + q)) = true) := fun q hq => by
        have := Ex.run_at (sb t) k q (by rw [← hDr]; exact hq)
        exact Ex.isD_iff.2 this.2.2
      have HEND : Hid (k + D.length < t.size → Ex.isD (Ex.iAt (sb t) (k + D.length)) = false) := fun h => by
        have := Ex.run_end (sb t) k (by rw [← hDr, HTL.out]; exact h)
        rw [← hDr] at this
        exact Ex.isD_not.2 this
      have HDD : Hid (∀ c ∈ D, 48 ≤ c ∧ c ≤ 57) := by rw [hDr]; exact Ex.run_dig (sb t) k
      have HEX : Hid (sb (t.extract k (k + D.length)) = D) := by
        show _ = _
        rw [sb_extract, Nat.add_sub_cancel_left]
        refine List.ext_getElem? fun i => ?_
        by_cases hi : i < D.length
        · have h1 := (Ex.run_at (sb t) k i (by rw [← hDr]; exact hi)).2.1
          rw [← hDr, Ex.iAt_eq D i hi] at h1
          have hki : k + i < (sb t).length := by have := HTL.out; omega
          rw [Ex.iAt_eq (sb t) (k + i) hki] at h1
          rw [List.getElem?_take, if_pos hi, List.getElem?_drop, List.getElem?_eq_getElem hki, List.getElem?_eq_getElem hi, h1]
        · rw [List.getElem?_take, if_neg hi, List.getElem?_eq_none (by omega)]
      obtain ⟨V, hV⟩ : ∃ V, V = Ex.dval 0 D := ⟨_, rfl⟩
      have HVV : Hid (V = Ex.dval 0 D) := hV
      have hsc : Hid ((V ≤ 9223372036854775807 → Ex.scanV (sb t) k = V ∧ Ex.scanJ (sb t) k = k + D.length ∧ Ex.scanB (sb t) k = true) ∧ (¬ V ≤ 9223372036854775807 → Ex.scanV (sb t) k = 0 ∧ Ex.scanJ (sb t) k = k ∧ Ex.scanB (sb t) k = false)) := by
        constructor
        · intro h
          obtain ⟨s1, s2, s3⟩ := Ex.scan_fits (bs := sb t) (k := k) (by rw [← hDr, ← hV]; exact h)
          rw [← hDr] at s1 s2 s3
          exact ⟨by rw [s1, hV], s2, by rw [s3]; exact decide_eq_true hpos⟩
        · intro h
          exact Ex.scan_over (bs := sb t) (k := k) (by rw [← hDr, ← hV]; exact h)
      clear hDr hV
      generalize Ex.scanV (sb t) k = sv at hsc ⊢
      generalize Ex.scanJ (sb t) k = sj at hsc ⊢
      generalize Ex.scanB (sb t) k = sB at hsc ⊢
      go_wp2_with fail
      refine (gdigit_any _ _).mono ?_
      rw [hD]
      rintro e w10 ⟨rfl, rfl⟩
      clear hD
      go_wp2_with fail
      go_loop [16] (fun i => ∃ (q : Nat), q ≤ D.length ∧ i = .int .i64 ((k : Int) + (q : Int))) (fun i => t.size - (intOf i).toNat)
      case atStart => exact ⟨0, by omega, by go_num⟩
      case round =>
        obtain ⟨q, hq, rfl⟩ := hrel
        by_cases hqd : q < D.length
        · have h1 := HAT.out q hqd
          have x1 : (k : Int) + (q : Int) < (t.size : Int) := by omega
          have x2 : k + q < t.size := by omega
          go_wp2_with fail
          refine (gdigit_any _ _).mono ?_
          rw [h1]
          rintro e w11 ⟨rfl, rfl⟩
          go_wp2_with fail
          go_round
          case rel => first | exact ⟨q + 1, by omega, by go_num⟩ | (refine ⟨trivial, ?_⟩; (repeat apply Exists.intro); exact ⟨⟨q + 1, by omega, by go_num⟩, rfl⟩)
          case measure => simp [intOf]; omega
        · have hqD : q = D.length := by omega
          have HXS : Hid ((t.extract k (k + q)).size ≤ maxLen) := by
            show _ ≤ _
            rw [← sb_len, hqD, HEX.out]; unfold maxLen; omega
          have HXE : Hid (sb (t.extract k (k + q)) = D) := by rw [hqD]; exact HEX.out
          have HEN : Hid (k + q < t.size → Ex.isD (Ex.iAt (sb t) (k + q)) = false) := by rw [hqD]; exact HEND.out
          have hsc2 : Hid ((V ≤ 9223372036854775807 → sv = V ∧ sj = k + q ∧ sB = true) ∧ (¬ V ≤ 9223372036854775807 → sv = 0 ∧ sj = k ∧ sB = false)) := by rw [hqD]; exact hsc.out
          clear hqD HEX HEND HAT hsc
          have hne : (V ≤ 9223372036854775807) ∨ ¬ (V ≤ 9223372036854775807) := by omega
          by_cases hkq : k + q < t.size
          · have h1 := HEN.out hkq
            have x1 : (k : Int) + (q : Int) < (t.size : Int) := by omega
            go_wp2_with fail
            refine (gdigit_any _ _).mono ?_
            rw [h1]
            rintro e w11 ⟨rfl, rfl⟩
            rcases hne with hVb | hVb
            · obtain ⟨rfl, rfl, rfl⟩ := hsc2.out.1 hVb
              go_wp2_with fail
              refine (gvalue_yes _ _ _ HXS.out (by rw [HXE.out]; exact HDD.out) (by rw [HXE.out]; exact HVV.out.symm) hVb).mono ?_
              rintro e w12 ⟨rfl, rfl⟩
              go_wp2_with fail
              go_ret
              exact ⟨rfl, hbw⟩
            · obtain ⟨rfl, rfl, rfl⟩ := hsc2.out.2 hVb
              go_wp2_with fail
              refine (gvalue_no _ V _ HXS.out (by rw [HXE.out]; exact HDD.out) (by rw [HXE.out]; exact HVV.out.symm) hVb).mono ?_
              rintro e w12 ⟨rfl, rfl⟩
              go_wp2_with fail
              go_ret
              exact ⟨rfl, hbw⟩
          · have x1 : decide ((k : Int) + (q : Int) < (t.size : Int)) = false := decide_eq_false (by omega)
            have x2 : ¬ k + q < t.size := hkq
            rcases hne with hVb | hVb
            · obtain ⟨rfl, rfl, rfl⟩ := hsc2.out.1 hVb
              go_wp2_with fail
              refine (gvalue_yes _ _ _ HXS.out (by rw [HXE.out]; exact HDD.out) (by rw [HXE.out]; exact HVV.out.symm) hVb).mono ?_
              rintro e w12 ⟨rfl, rfl⟩
              go_wp2_with fail
              go_ret
              exact ⟨rfl, hbw⟩
            · obtain ⟨rfl, rfl, rfl⟩ := hsc2.out.2 hVb
              go_wp2_with fail
              refine (gvalue_no _ V _ HXS.out (by rw [HXE.out]; exact HDD.out) (by rw [HXE.out]; exact HVV.out.symm) hVb).mono ?_
              rintro e w12 ⟨rfl, rfl⟩
              go_wp2_with fail
              go_ret
              exact ⟨rfl, hbw⟩
  · have dkz : (t.size : Int) ≤ (k : Int) := by omega
    have hr := run_nil_of (bs := sb t) (k := k) (.inl (by have := HTL.out; omega))
    obtain ⟨s1, s2, s3⟩ := Ex.scan_fits (bs := sb t) (k := k) (by rw [hr]; simp [Ex.dval])
    rw [hr] at s1 s2 s3
    rw [s1, s2, s3]
    clear s1 s2 s3 hr
    go_wp2_with fail
    go_ret
    exact ⟨rfl, hbw⟩

set_option maxRecDepth 100000 in
set_option maxHeartbeats 2000000 in
theorem gspec_ttnat (s : ByteArray) (at' : Int) (w : World) (hs : s.size ≤ 1024) (ha0 : -9223372036854775808 ≤ at') (ha1 : at' ≤ 9223372036854775807) (hneg : ¬ at' < 0) :
    Calls Ybum.prog 7 #[.string s, .int .i64 at', .bool true, .bool true] w fun e w' => e = .returned (.bool true) ∧ Below w.heap.size w w' := by
  have d0 : decide ((1024 : Int) < (s.size : Int)) = false := decide_eq_false (by omega)
  have hbs := sb_at s
  have HSL : Hid ((sb s).length = s.size) := sb_len s
  have HBB : Hid (∀ n, 0 ≤ Ex.iAt (sb s) n ∧ Ex.iAt (sb s) n ≤ 255) := sb_byteAt s
  go_enter Ybum.func7, Ybum.ntmps7
  go_wp2_with (first
    | (at_make; go_must (refine make_int _ 22 5 .u8 1 Ybum.underlying22 Ybum.infoU8 (by omega) rfl _ (.tmp 25) rfl w.heap.size _ _ _ _ 0 s.size rfl rfl rfl (by omega) (by omega) (by omega) (by omega) ?_; intro w1 hown1 hb1 hlt1)))
  go_loopw [10, 11] (fun u i wr => ∃ (k : Nat), k ≤ s.size ∧ i = .int .i64 k ∧ OwnB wr w.heap.size u (((sb s).take k).map gtab) ∧ Below w.heap.size w wr) (fun _ i _ => s.size - (intOf i).toNat)
  case atStart => exact ⟨0, by omega, rfl, by simpa using hown1, hb1⟩
  case round =>
    obtain ⟨k, hk, rfl, hu, hb⟩ := hrel
    clear hown1 hb1 hlt1
    have hB := hb.size
    by_cases hlt : k < s.size
    · obtain ⟨e1, e2⟩ := HBB.out k
      have hix := gtab_index (Ex.iAt (sb s) k)
      have hlk : (((sb s).take k).map gtab).length = k := by have := HSL.out; simp; omega
      have HS : Hid (((sb s).take (k + 1)).map gtab = ((sb s).take k).map gtab ++ [gtab (Ex.iAt (sb s) k)]) := by
        show _ = _
        rw [Ex.itake_at (sb s) k (by have := HSL.out; omega)]; simp
      go_wp2_with (first
        | (at_builtin; go_must (refine app_int _ 22 5 .u8 1 Ybum.underlying22 Ybum.infoU8 (by omega) rfl (.tmp 33) (.tmp 40) rfl w.heap.size _ (((sb s).take k).map gtab) rfl (hu.alloc _) _ (gtab (Ex.iAt (sb s) k)) rfl (by simp) (by omega) (by simp; omega) ?_; intro u2 w2 hu2 huo hgr2)))
      go_roundw
      case rel => exact ⟨k + 1, by omega, by go_num, by rw [HS.out]; exact hu2, below_app hb hB hu.baseLe hgr2.after_alloc⟩
      case measure => simp [intOf]; omega
    · have hkd : decide ((k : Int) < (s.size : Int)) = false := decide_eq_false (by omega)
      obtain ⟨L, hL⟩ : ∃ L, L = ((sb s).take k).map gtab := ⟨_, rfl⟩
      have hLl : L.length ≤ 1024 := by rw [hL]; simp; omega
      rw [← hL] at hu
      obtain ⟨au, cu, rfl, hnu, _⟩ := hu.shape
      obtain ⟨t, hcv, htb, htz0⟩ := conv_own hu (fun c hc => by rw [hL] at hc; obtain ⟨x, _, rfl⟩ := List.mem_map.1 hc; exact gtab_byte x)
      have htz : t.size ≤ 1024 := by omega
      have HTM : Hid (t.size ≤ maxLen) := by show _ ≤ _; unfold maxLen; omega
      have HTL : Hid ((sb t).length = t.size) := sb_len t
      have hbt := sb_at t
      have hbw := hb
      clear htb htz0 hu hnu HBB HSL hbs hL hb hB
      go_wp2_with fail
      clear hcv
      obtain ⟨k, hk⟩ : ∃ k : Nat, wrap64 (at' % ((t.size : Int) + 1)) = (k : Int) ∧ k ≤ t.size := by
        have h1 := Int.emod_nonneg at' (show (t.size : Int) + 1 ≠ 0 by omega)
        have h2 := Int.emod_lt_of_pos at' (show (0 : Int) < (t.size : Int) + 1 by omega)
        generalize at' % ((t.size : Int) + 1) = z at *
        exact ⟨z.toNat, by unfold wrap64; omega, by omega⟩
      rw [hk.1]
      obtain ⟨_, hkz0⟩ := hk
      refine (scan_any t k _ HTM.out (by omega)).mono ?_
      rintro e w9 ⟨rfl, rfl⟩
      have dk0 : decide ((k : Int) < 0) = false := decide_eq_false (by omega)
      by_cases hkz : k < t.size
      · have dkz : decide ((t.size : Int) ≤ (k : Int)) = false := decide_eq_false (by omega)
        have dkz' : decide (t.size ≤ k) = false := decide_eq_false (by omega)
        cases hD : Ex.isD (Ex.iAt (sb t) k) with
        | false =>
          have hr := run_nil_of (bs := sb t) (k := k) (.inr hD)
          obtain ⟨s1, s2, s3⟩ := Ex.scan_fits (bs := sb t) (k := k) (by rw [hr]; simp [Ex.dval])
          rw [hr] at s1 s2 s3
          rw [s1, s2, s3]
          clear s1 s2 s3 hr
          go_wp2_with fail
          refine (gdigit_any _ _).mono ?_
          rw [hD]
          rintro e w10 ⟨rfl, rfl⟩
          go_wp2_with fail
          go_ret
          exact ⟨rfl, hbw⟩
        | true =>
          obtain ⟨D, hDr⟩ : ∃ D, D = Ex.runAt (sb t) k := ⟨_, rfl⟩
          have hpos : 0 < D.length := by rw [hDr]; exact run_pos_of (by have := HTL.out; omega) hD
          have hdle : D.length + k ≤ t.size := by
            have := Ex.run_le (sb t) k
            rw [← hDr, HTL.out] at this
            omega
          have HAT : Hid (∀ q, q < D.length → Ex.isD (Ex.iAt (sb t) (k + q)) = true) := fun q hq => by
            have := Ex.run_at (sb t) k q (by rw [← hDr]; exact hq)
            exact Ex.isD_iff.2 this.2.2
          have HEND : Hid (k + D.length < t.size → Ex.isD (Ex.iAt (sb t) (k + D.length)) = false) := fun h => by
            have := Ex.run_end (sb t) k (by rw [← hDr, HTL.out]; exact h)
            rw [← hDr] at this
            exact Ex.isD_not.2 this
          have HDD : Hid (∀ c ∈ D, 48 ≤ c ∧ c ≤ 57) := by rw [hDr]; exact Ex.run_dig (sb t) k
          have HEX : Hid (sb (t.extract k (k + D.length)) = D) := by
            show _ = _
            rw [sb_extract, Nat.add_sub_cancel_left]
            refine List.ext_getElem? fun i => ?_
            by_cases hi : i < D.length
            · have h1 := (Ex.run_at (sb t) k i (by rw [← hDr]; exact hi)).2.1
              rw [← hDr, Ex.iAt_eq D i hi] at h1
              have hki : k + i < (sb t).length := by have := HTL.out; omega
              rw [Ex.iAt_eq (sb t) (k + i) hki] at h1
              rw [List.getElem?_take, if_pos hi, List.getElem?_drop, List.getElem?_eq_getElem hki, List.getElem?_eq_getElem hi, h1]
            · rw [List.getElem?_take, if_neg hi, List.getElem?_eq_none (by omega)]
          obtain ⟨V, hV⟩ : ∃ V, V = Ex.dval 0 D := ⟨_, rfl⟩
          have HVV : Hid (V = Ex.dval 0 D) := hV
          have hsc : Hid ((V ≤ 9223372036854775807 → Ex.scanV (sb t) k = V ∧ Ex.scanJ (sb t) k = k + D.length ∧ Ex.scanB (sb t) k = true) ∧ (¬ V ≤ 9223372036854775807 → Ex.scanV (sb t) k = 0 ∧ Ex.scanJ (sb t) k = k ∧ Ex.scanB (sb t) k = false)) := by
            constructor
            · intro h
              obtain ⟨s1, s2, s3⟩ := Ex.scan_fits (bs := sb t) (k := k) (by rw [← hDr, ← hV]; exact h)
              rw [← hDr] at s1 s2 s3
              exact ⟨by rw [s1, hV], s2, by rw [s3]; exact decide_eq_true hpos⟩
            · intro h
              exact Ex.scan_over (bs := sb t) (k := k) (by rw [← hDr, ← hV]; exact h)
          clear hDr hV
          generalize Ex.scanV (sb t) k = sv at hsc ⊢
          generalize Ex.scanJ (sb t) k = sj at hsc ⊢
          generalize Ex.scanB (sb t) k = sB at hsc ⊢
          go_wp2_with fail
          refine (gdigit_any _ _).mono ?_
          rw [hD]
          rintro e w10 ⟨rfl, rfl⟩
          clear hD
          go_wp2_with fail
          go_loop [16] (fun i => ∃ (q : Nat), q ≤ D.length ∧ i = .int .i64 ((k : Int) + (q : Int))) (fun i => t.size - (intOf i).toNat)
          case atStart => exact ⟨0, by omega, by go_num⟩
          case round =>
            obtain ⟨q, hq, rfl⟩ := hrel
            by_cases hqd : q < D.length
            · have h1 := HAT.out q hqd
              have x1 : (k : Int) + (q : Int) < (t.size : Int) := by omega
              have x2 : k + q < t.size := by omega
              go_wp2_with fail
              refine (gdigit_any _ _).mono ?_
              rw [h1]
              rintro e w11 ⟨rfl, rfl⟩
              go_wp2_with fail
              go_round
              case rel => first | exact ⟨q + 1, by omega, by go_num⟩ | (refine ⟨trivial, ?_⟩; (repeat apply Exists.intro); exact ⟨⟨q + 1, by omega, by go_num⟩, rfl⟩)
              case measure => simp [intOf]; omega
            · have hqD : q = D.length := by omega
              have HXS : Hid ((t.extract k (k + q)).size ≤ maxLen) := by
                show _ ≤ _
                rw [← sb_len, hqD, HEX.out]; unfold maxLen; omega
              have HXE : Hid (sb (t.extract k (k + q)) = D) := by rw [hqD]; exact HEX.out
              have HEN : Hid (k + q < t.size → Ex.isD (Ex.iAt (sb t) (k + q)) = false) := by rw [hqD]; exact HEND.out
              have hsc2 : Hid ((V ≤ 9223372036854775807 → sv = V ∧ sj = k + q ∧ sB = true) ∧ (¬ V ≤ 9223372036854775807 → sv = 0 ∧ sj = k ∧ sB = false)) := by rw [hqD]; exact hsc.out
              clear hqD HEX HEND HAT hsc
              have hne : (V ≤ 9223372036854775807) ∨ ¬ (V ≤ 9223372036854775807) := by omega
              by_cases hkq : k + q < t.size
              · have h1 := HEN.out hkq
                have x1 : (k : Int) + (q : Int) < (t.size : Int) := by omega
                go_wp2_with fail
                refine (gdigit_any _ _).mono ?_
                rw [h1]
                rintro e w11 ⟨rfl, rfl⟩
                rcases hne with hVb | hVb
                · obtain ⟨rfl, rfl, rfl⟩ := hsc2.out.1 hVb
                  go_wp2_with fail
                  refine (gvalue_yes _ _ _ HXS.out (by rw [HXE.out]; exact HDD.out) (by rw [HXE.out]; exact HVV.out.symm) hVb).mono ?_
                  rintro e w12 ⟨rfl, rfl⟩
                  go_wp2_with fail
                  go_ret
                  exact ⟨rfl, hbw⟩
                · obtain ⟨rfl, rfl, rfl⟩ := hsc2.out.2 hVb
                  go_wp2_with fail
                  refine (gvalue_no _ V _ HXS.out (by rw [HXE.out]; exact HDD.out) (by rw [HXE.out]; exact HVV.out.symm) hVb).mono ?_
                  rintro e w12 ⟨rfl, rfl⟩
                  go_wp2_with fail
                  go_ret
                  exact ⟨rfl, hbw⟩
              · have x1 : decide ((k : Int) + (q : Int) < (t.size : Int)) = false := decide_eq_false (by omega)
                have x2 : ¬ k + q < t.size := hkq
                rcases hne with hVb | hVb
                · obtain ⟨rfl, rfl, rfl⟩ := hsc2.out.1 hVb
                  go_wp2_with fail
                  refine (gvalue_yes _ _ _ HXS.out (by rw [HXE.out]; exact HDD.out) (by rw [HXE.out]; exact HVV.out.symm) hVb).mono ?_
                  rintro e w12 ⟨rfl, rfl⟩
                  go_wp2_with fail
                  go_ret
                  exact ⟨rfl, hbw⟩
                · obtain ⟨rfl, rfl, rfl⟩ := hsc2.out.2 hVb
                  go_wp2_with fail
                  refine (gvalue_no _ V _ HXS.out (by rw [HXE.out]; exact HDD.out) (by rw [HXE.out]; exact HVV.out.symm) hVb).mono ?_
                  rintro e w12 ⟨rfl, rfl⟩
                  go_wp2_with fail
                  go_ret
                  exact ⟨rfl, hbw⟩
      · have dkz : (t.size : Int) ≤ (k : Int) := by omega
        have hr := run_nil_of (bs := sb t) (k := k) (.inl (by have := HTL.out; omega))
        obtain ⟨s1, s2, s3⟩ := Ex.scan_fits (bs := sb t) (k := k) (by rw [hr]; simp [Ex.dval])
        rw [hr] at s1 s2 s3
        rw [s1, s2, s3]
        clear s1 s2 s3 hr
        go_wp2_with fail
        go_ret
        exact ⟨rfl, hbw⟩

theorem gspec_any (s : ByteArray) (at' : Int) (mt mi : Bool) (w : World) (hs : s.size ≤ maxLen) (ha0 : -9223372036854775808 ≤ at') (ha1 : at' ≤ 9223372036854775807) :
    Calls Ybum.prog 7 #[.string s, .int .i64 at', .bool mt, .bool mi] w fun e w' => e = .returned (.bool true) ∧ Below w.heap.size w w' := by
  unfold maxLen at hs
  by_cases hbig : 1024 < s.size
  · go_enter Ybum.func7, Ybum.ntmps7
    go_wp2_with fail
    go_ret
    exact ⟨rfl, Below.refl _ _⟩
  by_cases hneg : at' < 0
  · cases mt
    · cases mi
      · exact gspec_ffneg s at' w (by omega) ha0 ha1 hneg
      · exact gspec_ftneg s at' w (by omega) ha0 ha1 hneg
    · cases mi
      · exact gspec_tfneg s at' w (by omega) ha0 ha1 hneg
      · exact gspec_ttneg s at' w (by omega) ha0 ha1 hneg
  · cases mt
    · cases mi
      · exact gspec_ffnat s at' w (by omega) ha0 ha1 hneg
      · exact gspec_ftnat s at' w (by omega) ha0 ha1 hneg
    · cases mi
      · exact gspec_tfnat s at' w (by omega) ha0 ha1 hneg
      · exact gspec_ttnat s at' w (by omega) ha0 ha1 hneg
end Go.Proofs.Ymbrbu
