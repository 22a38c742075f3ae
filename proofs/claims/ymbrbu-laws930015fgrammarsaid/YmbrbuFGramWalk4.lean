import Derived.Test.YmbrbuFGramWalk3
import Derived.Test.YmbrbuGTail
set_option linter.unusedVariables false
set_option linter.unusedSimpArgs false
set_option linter.unnecessarySimpa false
namespace Go.Proofs.Ymbrbu
open Go.RowKit

set_option maxRecDepth 100000 in
set_option maxHeartbeats 8000000 in
theorem flex_any (s : ByteArray) (w : World) (hs : s.size ≤ 100000) :
    Calls Ybum.prog 17 #[.string s] w fun e w' => e = .returned (.int .i64 (bz (sb s) [] none).1) ∧ w' = w := by
  have HS : Hid ((sb s).length = s.size) := sb_len s
  have hsb := sb_at s
  obtain ⟨RC, hRC⟩ : ∃ RC, (bz (sb s) [] none).1 = RC := ⟨_, rfl⟩
  rw [hRC]
  have HRC : Hid ((bz (sb s) [] none).1 = RC) := hRC
  clear hRC
  go_enter Ybum.func17, Ybum.ntmps17
  go_wp2_with fail
  go_loop [3, 4, 5, 6] (fun v i _ _ => ∃ (k V : Nat) (T : List Tk) (cur : Option Nat), k ≤ s.size ∧ i = .int .i64 k ∧ v = .int .u64 V ∧ V ≤ 9223372036854775807 ∧ Hid (cur.getD 0 = V) ∧ Hid (bz ((sb s).drop k) T cur = bz (sb s) [] none)) (fun _ i _ _ => s.size - (intOf i).toNat)
  case atStart => exact ⟨0, 0, [], none, by omega, rfl, rfl, by omega, rfl, rfl⟩
  case round =>
    obtain ⟨k, V, T, cur, hk, rfl, rfl, hV, HC, HB⟩ := hrel
    by_cases hlt : k < s.size
    · have hkl : k < (sb s).length := by have := HS.out; omega
      have HD : Hid ((sb s).drop k = Ex.iAt (sb s) k :: (sb s).drop (k + 1)) := Ex.idrop_at (sb s) k hkl
      have hki : (k : Int) < (s.size : Int) := by omega
      have hki0 : (0 : Int) ≤ (k : Int) := by omega
      cases hdg : Ex.isD (Ex.iAt (sb s) k) with
      | true =>
        have HZ : Hid (bz (sb s) [] none = if V * 10 + (Ex.iAt (sb s) k - 48).toNat ≤ 9223372036854775807 then bz ((sb s).drop (k + 1)) T (some (V * 10 + (Ex.iAt (sb s) k - 48).toNat)) else (3, [])) := by
          show _ = _
          rw [← HB.out, HD.out, bz_dig _ _ _ hdg, HC.out]
        have HDD : Hid (Ex.isD (Ex.iAt (sb s) k) = true) := hdg
        rw [Ex.isD_iff] at hdg
        clear HB HC HD hkl
        go_wp2_with fail
        refine (fdigit_any _ _).mono ?_
        rintro e w1 ⟨rfl, hw⟩
        subst hw
        rw [HDD.out]
        generalize Ex.iAt (sb s) k = c at HZ hdg HDD ⊢
        obtain ⟨D, hD⟩ : ∃ D : Nat, c - 48 = (D : Int) := ⟨(c - 48).toNat, by omega⟩
        have hD9 : D ≤ 9 := by omega
        rw [hD, Int.toNat_natCast] at HZ
        by_cases y1 : 922337203685477580 < V
        · have HE : Hid (RC = 3) := by
            show _ = _
            rw [← HRC.out, HZ.out, if_neg (by omega)]
          have d1 : (922337203685477580 : Int) < (V : Int) := by omega
          clear HZ
          go_wp2_with fail
          go_ret
          exact ⟨by rw [HE.out]; rfl, rfl⟩
        have d1 : decide ((922337203685477580 : Int) < (V : Int)) = false := decide_eq_false (by omega)
        by_cases y2 : V = 922337203685477580
        · have d2 : ((V : Int) == 922337203685477580) = true := by rw [y2]; rfl
          by_cases y3 : 7 < D
          · have HE : Hid (RC = 3) := by
              show _ = _
              rw [← HRC.out, HZ.out, if_neg (by omega)]
            have d3 : (7 : Int) < (D : Int) := by omega
            clear HZ y2
            go_wp2_with fail
            go_ret
            exact ⟨by rw [HE.out]; rfl, rfl⟩
          · have HN : Hid (bz ((sb s).drop (k + 1)) T (some (V * 10 + D)) = bz (sb s) [] none) := by
              show _ = _
              rw [HZ.out, if_pos (by omega)]
            have d3 : decide ((7 : Int) < (D : Int)) = false := decide_eq_false (by omega)
            have hVD : V * 10 + D ≤ 9223372036854775807 := by omega
            clear HZ y2
            go_wp2_with fail
            go_round
            case rel => exact ⟨k + 1, V * 10 + D, T, some (V * 10 + D), by omega, by go_num, by go_num, hVD, rfl, HN⟩
            case measure => simp [intOf]; omega
        · have d2 : ((V : Int) == 922337203685477580) = false := by simp; omega
          have HN : Hid (bz ((sb s).drop (k + 1)) T (some (V * 10 + D)) = bz (sb s) [] none) := by
            show _ = _
            rw [HZ.out, if_pos (by omega)]
          have hVD : V * 10 + D ≤ 9223372036854775807 := by omega
          clear HZ
          go_wp2_with fail
          go_round
          case rel => exact ⟨k + 1, V * 10 + D, T, some (V * 10 + D), by omega, by go_num, by go_num, hVD, rfl, HN⟩
          case measure => simp [intOf]; omega
      | false =>
        have HDD : Hid (Ex.isD (Ex.iAt (sb s) k) = false) := hdg
        go_wp2_with fail
        refine (fdigit_any _ _).mono ?_
        rintro e w1 ⟨rfl, hw⟩
        subst hw
        rw [HDD.out]
        go_wp2_with fail
        refine (fblank_any _ _).mono ?_
        rintro e w2 ⟨rfl, hw⟩
        subst hw
        cases hbl : isBl (Ex.iAt (sb s) k) with
        | true =>
          have HN : Hid (bz ((sb s).drop (k + 1)) (T ++ flush cur) none = bz (sb s) [] none) := by
            show _ = _
            rw [← HB.out, HD.out, bz, if_pos (isBl_iff.1 hbl)]
          clear hdg hbl HDD
          go_wp2_with fail
          go_round
          case rel => exact ⟨k + 1, 0, T ++ flush cur, none, by omega, by go_num, rfl, by omega, rfl, HN⟩
          case measure => simp [intOf]; omega
        | false =>
          have hnb : ¬ (Ex.iAt (sb s) k = 32 ∨ Ex.iAt (sb s) k = 9) := fun h => by rw [isBl_iff.2 h] at hbl; cases hbl
          cases hsy : isSym (Ex.iAt (sb s) k) with
          | true =>
            have HN : Hid (bz ((sb s).drop (k + 1)) (T ++ flush cur ++ [(Ex.iAt (sb s) k, 0)]) none = bz (sb s) [] none) := by
              show _ = _
              rw [← HB.out, HD.out, bz, if_neg hnb, if_pos hsy]
            have hc : Ex.iAt (sb s) k = 43 ∨ Ex.iAt (sb s) k = 45 ∨ Ex.iAt (sb s) k = 42 ∨ Ex.iAt (sb s) k = 47 ∨ Ex.iAt (sb s) k = 40 ∨ Ex.iAt (sb s) k = 41 := by
              unfold isSym at hsy
              simp at hsy
              rcases hsy with (h | h) | h
              · rcases Ex.prec_cases (Ex.iAt (sb s) k) with ⟨_, h'⟩ | ⟨_, h'⟩ | ⟨h0, _⟩ <;> omega
              · omega
              · omega
            generalize Ex.iAt (sb s) k = c at HN hc ⊢
            clear hdg hbl HDD hsy hnb
            rcases hc with rfl | rfl | rfl | rfl | rfl | rfl
            all_goals
              go_wp2_with fail
              go_round
              case rel => exact ⟨k + 1, 0, _, none, by omega, by go_num, rfl, by omega, rfl, HN⟩
              case measure => simp [intOf]; omega
          | false =>
            have HE : Hid (RC = 1) := by
              show _ = _
              rw [← HRC.out, ← HB.out, HD.out, bz_bad _ _ _ hnb hsy HDD.out]
            have hns : ¬ (Ex.iAt (sb s) k = 43 ∨ Ex.iAt (sb s) k = 45 ∨ Ex.iAt (sb s) k = 42 ∨ Ex.iAt (sb s) k = 47 ∨ Ex.iAt (sb s) k = 40 ∨ Ex.iAt (sb s) k = 41) := by
              intro h
              rcases h with h | h | h | h | h | h <;> (rw [h] at hsy; simp [isSym, Ex.prec] at hsy)
            have q43 : (Ex.iAt (sb s) k != 43) = true := by simp; omega
            have q45 : (Ex.iAt (sb s) k != 45) = true := by simp; omega
            have q42 : (Ex.iAt (sb s) k != 42) = true := by simp; omega
            have q47 : (Ex.iAt (sb s) k != 47) = true := by simp; omega
            have q40 : (Ex.iAt (sb s) k != 40) = true := by simp; omega
            have q41 : (Ex.iAt (sb s) k != 41) = true := by simp; omega
            clear hdg hbl HDD hsy hnb hns HB HD
            go_wp2_with fail
            go_ret
            exact ⟨by rw [HE.out]; rfl, rfl⟩
    · have hkn : decide ((k : Int) < (s.size : Int)) = false := decide_eq_false (by omega)
      have HE : Hid (RC = 0) := by
        show _ = _
        rw [← HRC.out, ← HB.out, List.drop_eq_nil_of_le (by have := HS.out; omega)]
        simp [bz]
      go_wp2_with fail
      go_ret
      exact ⟨by rw [HE.out]; rfl, rfl⟩
end Go.Proofs.Ymbrbu
