import Derived.Test.YmbrbtFmtWalk
set_option linter.unusedVariables false
set_option linter.unusedSimpArgs false
set_option linter.unnecessarySimpa false
namespace Go.Proofs.Ymbrbt
open Go.RowKit

/-! ### plain: the digits from the greatest power of ten down -/
theorem dg_pow : ∀ (j m : Nat), (j = 0 ∨ 10 ^ j ≤ m) → m < 10 ^ (j + 1) → m < 10 ^ 20 → (Ex.dg m).length = j + 1 ∧ ∀ i, i ≤ j → Ex.iAt (Ex.dg m) i = 48 + ((m / 10 ^ (j - i) % 10 : Nat) : Int)
  | 0, m, _, h2, _ => by
    rw [Ex.dg_small (by simpa using h2)]
    refine ⟨rfl, fun i hi => ?_⟩
    have : i = 0 := by omega
    subst this
    have h3 : m < 10 := by simpa using h2
    simp [Ex.iAt]
    omega
  | j + 1, m, h1, h2, h3 => by
    have h10 : 10 ^ (j + 1) = 10 ^ j * 10 := Nat.pow_succ 10 j
    have hp : 0 < 10 ^ j := Nat.pow_pos (by omega)
    have hm : 10 ^ (j + 1) ≤ m := by rcases h1 with h | h; cases h; exact h
    have h20 : 10 ^ (j + 1 + 1) = 10 ^ (j + 1) * 10 := Nat.pow_succ 10 (j + 1)
    obtain ⟨l, at'⟩ := dg_pow j (m / 10) (.inr (by omega)) (by omega) (by omega)
    rw [Ex.dg_step (by omega) h3]
    refine ⟨by simp [l], fun i hi => ?_⟩
    by_cases hij : i ≤ j
    · rw [Ex.iAt_app _ _ _ (by omega), at' i hij, Nat.div_div_eq_div_mul]
      congr 4
      rw [show j + 1 - i = (j - i) + 1 by omega, Nat.pow_succ, Nat.mul_comm]
    · have : i = j + 1 := by omega
      subst this
      have e := Ex.iAt_app' (Ex.dg (m / 10)) [48 + ((m % 10 : Nat) : Int)] 0
      rw [l] at e
      rw [show j + 1 = j + 1 + 0 from rfl, e]
      simp [Ex.iAt]

set_option maxHeartbeats 1000000 in
theorem clawful_any (k v : Int) (w : World) : Calls Ybtm.prog 40 #[.agg #[.int .u8 k, .int .i64 v]] w fun e w' => e = .returned (.bool (lawB (k, v))) ∧ Below w.heap.size w w' := by
  have hb := (Below.refl w.heap.size w).alloc (Nat.le_refl _) (.cells #[.int .u8 k, .int .i64 v] 30)
  by_cases h48 : k = 48
  · subst h48
    have e : lawB (48, v) = decide (0 ≤ v) := by simp [lawB]
    rw [e]
    clear e
    go_enter Ybtm.func40, Ybtm.ntmps40
    go_wp2
    go_ret
    exact ⟨rfl, hb⟩
  · have m1 : (k == 48) = false := by simpa using h48
    have e : lawB (k, v) = (isSym k && decide (v = 0)) := by simp [lawB, h48]
    rw [e]
    clear e
    cases hs : isSym k with
    | true =>
      have hc : k = 43 ∨ k = 45 ∨ k = 42 ∨ k = 47 ∨ k = 40 ∨ k = 41 := by
        unfold isSym at hs
        simp at hs
        rcases hs with (h | h) | h
        · rcases Ex.prec_cases k with ⟨_, h'⟩ | ⟨_, h'⟩ | ⟨h0, _⟩ <;> omega
        · omega
        · omega
      clear h48 hs m1
      have ev : (decide (v = 0)) = (v == 0) := by rw [Bool.eq_iff_iff]; simp
      rw [Bool.true_and, ev]
      rcases hc with rfl | rfl | rfl | rfl | rfl | rfl
      all_goals
        go_enter Ybtm.func40, Ybtm.ntmps40
        go_wp2
        go_ret
        exact ⟨rfl, hb⟩
    | false =>
      have hns : ¬ (k = 43 ∨ k = 45 ∨ k = 42 ∨ k = 47 ∨ k = 40 ∨ k = 41) := by
        intro h
        rcases h with h | h | h | h | h | h <;> (rw [h] at hs; simp [isSym, Ex.prec] at hs)
      have q43 : (k == 43) = false := by simp; omega
      have q45 : (k == 45) = false := by simp; omega
      have q42 : (k == 42) = false := by simp; omega
      have q47 : (k == 47) = false := by simp; omega
      have q40 : (k == 40) = false := by simp; omega
      have q41 : (k == 41) = false := by simp; omega
      clear hns hs h48
      rw [Bool.false_and]
      go_enter Ybtm.func40, Ybtm.ntmps40
      go_wp2
      go_ret
      exact ⟨rfl, hb⟩

def Pw (J i : Nat) : Nat := if i = J + 1 then 0 else 10 ^ (J - i)
theorem Pw_zero (J : Nat) : Pw J 0 = 10 ^ J := by simp [Pw]
theorem Pw_end (J : Nat) : Pw J (J + 1) = 0 := by simp [Pw]
theorem Pw_pos {J i : Nat} (h : i ≤ J) : Pw J i = 10 ^ (J - i) ∧ 1 ≤ Pw J i ∧ Pw J i ≤ 10 ^ J := by
  have e : Pw J i = 10 ^ (J - i) := if_neg (by omega)
  rw [e]
  exact ⟨rfl, Nat.pow_pos (by omega), Nat.pow_le_pow_right (by omega) (by omega)⟩
theorem Pw_next {J i : Nat} (h : i ≤ J) : Pw J i / 10 = Pw J (i + 1) := by
  rw [(Pw_pos h).1]
  by_cases hi : i = J
  · subst hi
    rw [Pw_end, Nat.sub_self]
  · rw [(Pw_pos (show i + 1 ≤ J by omega)).1, show J - i = (J - (i + 1)) + 1 by omega, Nat.pow_succ, Nat.mul_div_cancel _ (by omega)]

set_option maxRecDepth 100000 in
set_option maxHeartbeats 4000000 in
theorem cwant_any (a : Option Addr) (n cap : Nat) (ts : List (Int × Int)) (w : World) (ht : Toks w a n cap ts) (hok : TokOk ts) (hn : n ≤ 10000) :
    Calls Ybtm.prog 25 #[.slice a n cap] w fun e w' => ∃ s b, e = .returned (.tuple #[.string s, .bool b]) ∧ Below w.heap.size w w' ∧ FmtR ts s b := by
  have hnc := ht.2.1
  have hcm := ht.2.2.1
  have hln := ht.1
  unfold maxLen at hcm
  have HT : Hid (Toks w a n cap ts) := ht
  have HOK : Hid (TokOk ts) := hok
  have HLN : Hid (ts.length = n) := hln
  clear ht hok hln
  go_enter Ybtm.func25, Ybtm.ntmps25
  go_wp2_with fail
  go_loopw [5, 12] (fun _ i wr => ∃ (k : Nat), k ≤ n ∧ i = .int .i64 k ∧ Hid ((ts.take k).all lawB = true) ∧ Below w.heap.size w wr) (fun _ i _ => n - (intOf i).toNat)
  case atStart => exact ⟨0, by omega, rfl, rfl, Below.refl _ _⟩
  case round =>
    obtain ⟨k, hk, rfl, HA, hb⟩ := hrel
    have hB := hb.size
    by_cases hlt : k < n
    · obtain ⟨b, off, rfl, hc⟩ := (HT.out.below hb).2.2.2 (by omega)
      obtain ⟨c1, c2⟩ := hc k hlt
      have HA2 : Hid ((ts.take (k + 1)).all lawB = lawB (Ex.kAt ts k, Ex.vAt ts k)) := by
        show _ = _
        rw [Ex.take_at ts k (by have := HLN.out; omega), List.all_append, HA.out]; simp
      have HNO : Hid (lawB (Ex.kAt ts k, Ex.vAt ts k) = false → ts.all lawB = false) := fun h => by
        rw [List.all_eq_false]
        exact ⟨_, Ex.at_mem ts k (by have := HLN.out; omega), by simp [h]⟩
      generalize Ex.kAt ts k = K at c1 HA2 HNO
      generalize Ex.vAt ts k = V at c2 HA2 HNO
      have hb2 := hb.alloc hB (.cells #[.int .u8 K, .int .i64 V] 30)
      clear hc
      go_wp2_with fail
      refine (clawful_any K V _).mono ?_
      rintro e w3 ⟨rfl, hb3⟩
      have hb4 := hb2.trans (hb3.mono hb2.size)
      cases hl : lawB (K, V) with
      | true =>
        go_wp2_with fail
        go_roundw
        case rel => exact ⟨k + 1, by omega, by go_num, by show _ = _; rw [HA2.out, hl], hb4⟩
        case measure => simp [intOf]; omega
      | false =>
        have HE : Hid (ts.all lawB = false) := HNO.out hl
        go_wp2_with fail
        go_ret2
        exact ⟨_, _, rfl, hb4, FmtR.no HE.out⟩
    · have hkd : decide ((k : Int) < (n : Int)) = false := decide_eq_false (by omega)
      have HALL : Hid (ts.all lawB = true) := by
        have := HA.out
        rwa [List.take_of_length_le (by have := HLN.out; omega)] at this
      clear HA
      go_wp2_with fail
      go_loopw [6, 8, 9, 22] (fun u _ _ i wr => ∃ (q : Nat), q ≤ n ∧ i = .int .i64 q ∧ OwnB wr w.heap.size u (blanked (ts.take q)) ∧ Below w.heap.size w wr) (fun _ _ _ i _ => n - (intOf i).toNat)
      case atStart => exact ⟨0, by omega, rfl, by simpa [blanked] using OwnI.nil _ _, hb⟩
      case round =>
        obtain ⟨q, hq, rfl, hu, hbx⟩ := hrel
        clear hb hB
        have hB := hbx.size
        by_cases hlt2 : q < n
        · obtain ⟨b, off, rfl, hc⟩ := (HT.out.below hbx).2.2.2 (by omega)
          obtain ⟨c1, c2⟩ := hc q hlt2
          obtain ⟨o1, o2, o3⟩ := HOK.out.at q (by have := HLN.out; omega)
          have HJ : Hid (blanked (ts.take (q + 1)) = blanked (ts.take q) ++ spell (Ex.kAt ts q, Ex.vAt ts q) ++ [32]) := by
            show _ = _
            rw [Ex.take_at ts q (by have := HLN.out; omega), blanked_snoc]
          have hlaw : lawB (Ex.kAt ts q, Ex.vAt ts q) = true := (List.all_eq_true.1 HALL.out) _ (Ex.at_mem ts q (by have := HLN.out; omega))
          have hjl := blanked_len (ts.take q)
          rw [List.length_take, Nat.min_eq_left (by have := HLN.out; omega)] at hjl
          generalize Ex.kAt ts q = K at c1 o1 o2 HJ hlaw
          generalize Ex.vAt ts q = V at c2 o3 HJ hlaw
          generalize blanked (ts.take q) = X at hu HJ hjl
          unfold Ex.inI at o3
          have one := OwnT.one' wr w.heap.size K V hB
          have hu2 := hu.alloc (.cells #[.int .u8 K, .int .i64 V] 30)
          have hb2 := hbx.alloc hB (.cells #[.int .u8 K, .int .i64 V] 30)
          have hne : some wr.heap.size ≠ u6.ownBlock := fun e => by have := (hu.lt _ e.symm).2; omega
          have hspl := spell_len (K, V)
          obtain ⟨Y, hY⟩ : ∃ Y, spell (K, V) = Y := ⟨_, rfl⟩
          rw [hY] at HJ hspl
          have HY : Hid (spell (K, V) = Y) := hY
          clear hc hu hbx hY
          go_upto_if 28 with fail
          go_cut [6, 9, 22] from 22 to 58 (fun u' _ i wq => i = .int .i64 q ∧ OwnB wq w.heap.size u' (X ++ Y) ∧ Below w.heap.size w wq)
          case rest =>
            obtain ⟨rfl, hu3, hb3⟩ := hcut
            clear one hu2 hb2 hne c1 c2
            have hB3 := hb3.size
            go_wp2_with (first
              | (at_builtin; refine app_int _ 39 5 .u8 1 Ybtm.underlying39 Ybtm.infoU8 (by omega) rfl (.tmp 55) (.tmp 56) rfl w.heap.size _ (X ++ Y) rfl (hu3.alloc _) _ 32 rfl (by simp) (by rw [List.length_append]; omega) (by simp; omega) ?_; intro u5 w5 hu5 huo5 hgr5))
            go_roundw
            case rel => exact ⟨q + 1, by omega, by go_num, by rw [HJ.out]; exact hu5, below_app hb3 hB3 hu3.baseLe hgr5.after_alloc⟩
            case measure => simp [intOf]; omega
          case first =>
            by_cases h48 : K = 48
            · subst h48
              have hV0 : 0 ≤ V := by simpa [lawB] using hlaw
              obtain ⟨m, rfl⟩ : ∃ m : Nat, V = (m : Int) := ⟨V.toNat, by omega⟩
              obtain rfl : Y = Ex.dg m := by rw [← HY.out]; simp [spell]
              have f0 := one.frozenAt 0
              obtain ⟨e1, e2⟩ := one.cells 0 (by simp)
              simp [Ex.kAt, Ex.vAt] at e1 e2
              have hm9 : m ≤ 9223372036854775807 := by omega
              clear hlaw HY hV0 hspl
              go_wp2_with fail
              go_loop [9] (fun p => ∃ (P J : Nat), p = .int .i64 P ∧ Hid (P = 10 ^ J) ∧ 1 ≤ P ∧ (J = 0 ∨ P ≤ m) ∧ P ≤ m + 1) (fun p => m + 2 - (intOf p).toNat)
              case atStart => exact ⟨1, 0, rfl, rfl, by omega, .inl rfl, by omega⟩
              case round =>
                obtain ⟨P, J, rfl, HP, hP1, hPm, hPm2⟩ := hrel
                have hPne : (P : Int) ≠ 0 := by omega
                by_cases h10 : 10 ≤ m / P
                · have hle : P * 10 ≤ m := by
                    have := Nat.mul_le_mul_left P h10
                    have := Nat.mul_div_le m P
                    omega
                  have hI : (10 : Int) ≤ (m : Int) / (P : Int) := by
                    have e : (m : Int) / (P : Int) = ((m / P : Nat) : Int) := by simp
                    rw [e]; omega
                  have hI2 : (m : Int) / (P : Int) ≤ 9223372036854775807 := by
                    have e : (m : Int) / (P : Int) = ((m / P : Nat) : Int) := by simp
                    have := Nat.div_le_self m P
                    rw [e]; omega
                  clear h10
                  go_wp2_with fail
                  go_round
                  case rel => exact ⟨P * 10, J + 1, by go_num, by show _ = _; rw [Nat.pow_succ, HP.out], by omega, .inr hle, by omega⟩
                  case measure => simp [intOf]; omega
                · have hI : decide ((10 : Int) ≤ (m : Int) / (P : Int)) = false := by
                    have e : (m : Int) / (P : Int) = ((m / P : Nat) : Int) := by simp
                    exact decide_eq_false (by rw [e]; omega)
                  have hI2 : (m : Int) / (P : Int) ≤ 9223372036854775807 := by
                    have e : (m : Int) / (P : Int) = ((m / P : Nat) : Int) := by simp
                    have := Nat.div_le_self m P
                    rw [e]; omega
                  have hI3 : (0 : Int) ≤ (m : Int) / (P : Int) := Int.ediv_nonneg (by omega) (by omega)
                  have hlt10 : m < 10 ^ (J + 1) := by
                    have h2 := Nat.lt_mul_div_succ m (show 0 < P by omega)
                    have h3 : P * (m / P + 1) ≤ P * 10 := Nat.mul_le_mul_left P (by omega)
                    rw [Nat.pow_succ, ← HP.out]; omega
                  obtain ⟨hdl, hda⟩ := dg_pow J m (by rcases hPm with h | h; exact .inl h; exact .inr (by rw [← HP.out]; exact h)) hlt10 (by omega)
                  have HDA : Hid (∀ i, i ≤ J → Ex.iAt (Ex.dg m) i = 48 + ((m / 10 ^ (J - i) % 10 : Nat) : Int)) := hda
                  have HDL : Hid ((Ex.dg m).length = J + 1) := hdl
                  have hJ20 : J < 20 := by have := Ex.dg_len20 m; omega
                  clear hda hlt10 h10 hdl
                  go_wp2_with fail
                  clear hI hI2 hI3
                  go_loopw [6, 9] (fun u p wq => ∃ (i Q : Nat), i ≤ J + 1 ∧ p = .int .i64 Q ∧ Hid (Q = Pw J i) ∧ OwnB wq w.heap.size u (X ++ (Ex.dg m).take i) ∧ OwnT wq w.heap.size (.slice (some ⟨wr.heap.size, 0, none⟩) 1 1) [(48, (m : Int))] ∧ some wr.heap.size ≠ u.ownBlock ∧ Below w.heap.size w wq) (fun _ p _ => (intOf p).toNat)
                  case atStart => exact ⟨0, P, by omega, rfl, by show _ = _; rw [Pw_zero]; exact HP.out, by simpa using hu2, one, hne, hb2⟩
                  case round =>
                    obtain ⟨i, Q, hi, rfl, HQ, hu4, one4, hne4, hb4⟩ := hrel
                    clear one hu2 hb2 hne e1 e2 f0 c1 c2
                    have hB4 := hb4.size
                    by_cases hij : i ≤ J
                    · obtain ⟨p1, p2, p3⟩ := Pw_pos hij
                      rw [← HQ.out] at p1 p2 p3
                      rw [← HP.out] at p3
                      have hQ0 : (0 : Int) < (Q : Int) := by omega
                      have hQne : (Q : Int) ≠ 0 := by omega
                      obtain ⟨D, hD⟩ : ∃ D : Nat, m / Q % 10 = D := ⟨_, rfl⟩
                      have hD9 : D ≤ 9 := by omega
                      have HDI : Hid (Ex.iAt (Ex.dg m) i = 48 + (D : Int)) := by
                        show _ = _
                        rw [HDA.out i hij, ← p1, hD]
                      have hDI : (m : Int) / (Q : Int) % 10 = (D : Int) := by rw [← hD]; simp
                      have hI2 : (m : Int) / (Q : Int) ≤ 9223372036854775807 := by
                        have e : (m : Int) / (Q : Int) = ((m / Q : Nat) : Int) := by simp
                        have := Nat.div_le_self m Q
                        rw [e]; omega
                      have hI3 : (0 : Int) ≤ (m : Int) / (Q : Int) := Int.ediv_nonneg (by omega) (by omega)
                      have HS : Hid (X ++ (Ex.dg m).take (i + 1) = X ++ (Ex.dg m).take i ++ [48 + (D : Int)]) := by
                        show _ = _
                        rw [Ex.itake_at _ _ (by have := HDL.out; omega), HDI.out, List.append_assoc]
                      have hlx : (X ++ (Ex.dg m).take i).length < 1000000 := by simp; omega
                      obtain ⟨e1, e2⟩ := one4.cells 0 (by simp)
                      simp [Ex.kAt, Ex.vAt] at e1 e2
                      have HQ2 : Hid (Q / 10 = Pw J (i + 1)) := by show _ = _; rw [HQ.out]; exact Pw_next hij
                      generalize X ++ (Ex.dg m).take i = Z at hu4 HS hlx
                      clear hD p1
                      go_wp2_with (first
                        | (at_builtin; refine app_int _ 39 5 .u8 1 Ybtm.underlying39 Ybtm.infoU8 (by omega) rfl (.tmp 38) (.tmp 46) rfl w.heap.size _ Z rfl (hu4.alloc _) _ (48 + (D : Int)) rfl (by simp) (by omega) (by simp; omega) ?_; intro u5 w5 hu5 huo5 hgr5))
                      go_roundw
                      case rel =>
                        refine ⟨i + 1, Q / 10, by omega, by go_num, HQ2, by rw [HS.out]; exact hu5, (one4.alloc _).keeps hgr5 (.inr hne4), ?_, below_app hb4 hB4 hu4.baseLe hgr5.after_alloc⟩
                        rcases hgr5.apart (one4.alloc _) (.inr hne4) with h | h
                        · cases h
                        · exact h
                      case measure => simp [intOf]; omega
                    · have hi2 : i = J + 1 := by omega
                      have hQz : Q = 0 := by rw [HQ.out, hi2, Pw_end]
                      have hQd : decide ((0 : Int) < (Q : Int)) = false := decide_eq_false (by omega)
                      have hQd2 : decide (0 < Q) = false := decide_eq_false (by omega)
                      rw [List.take_of_length_le (by have := HDL.out; omega)] at hu4
                      clear hQz hi2
                      go_wp2_with fail
                      go_meet
                      case rel => exact ⟨rfl, hu4, hb4⟩
            · have hK : (K == 48) = false := by simpa using h48
              obtain rfl : Y = [K] := by rw [← HY.out]; simp [spell, h48]
              go_wp2_with (first
                | (at_builtin; refine app_int _ 39 5 .u8 1 Ybtm.underlying39 Ybtm.infoU8 (by omega) rfl (.tmp 50) (.tmp 53) rfl w.heap.size _ X rfl (hu2.alloc _) _ K rfl (by simp) (by omega) (by simp; omega) ?_; intro u5 w5 hu5 huo5 hgr5))
              go_meet
              case rel => exact ⟨rfl, hu5, below_app hb2 hb2.size hu2.baseLe hgr5.after_alloc⟩
        · have hkd : decide ((q : Int) < (n : Int)) = false := decide_eq_false (by omega)
          rw [List.take_of_length_le (by have := HLN.out; omega)] at hu
          by_cases hn0 : n = 0
          · have ets : ts = [] := List.eq_nil_of_length_eq_zero (by have := HLN.out; omega)
            have hbz : (blanked ts).length = 0 := by rw [ets]; rfl
            obtain ⟨a3, c3, rfl, _, _⟩ := hu.shape
            rw [hbz]
            have HJ0 : Hid (sb ⟨#[]⟩ = joined ts) := by show _ = _; rw [ets]; rfl
            clear ets hn0
            go_wp2_with fail
            go_ret2
            exact ⟨_, _, rfl, hbx, FmtR.yes HALL.out HJ0.out⟩
          · have hne : ts ≠ [] := fun e => hn0 (by rw [← HLN.out, e]; rfl)
            have hbj := blanked_joined ts hne
            obtain ⟨M, hM⟩ : ∃ M, (joined ts).length = M := ⟨_, rfl⟩
            have hbl : (blanked ts).length = M + 1 := by rw [hbj, List.length_append, hM]; rfl
            obtain ⟨g, c3, rfl⟩ := hu.atSome (by omega)
            obtain ⟨_, hcap, hcapm⟩ := hu.len
            unfold maxLen at hcapm
            have hut := hu.take M (by omega)
            have ejt : (blanked ts).take M = joined ts := by rw [hbj, ← hM, List.take_left]
            rw [ejt] at hut
            rw [hbl] at hcap ⊢
            obtain ⟨sx, hcx, hsx, hsxz⟩ := conv_own hut (joined_byte (fun t ht => ⟨(HOK.out t ht).1, (HOK.out t ht).2.1⟩))
            have HSX : Hid (sb sx = joined ts) := hsx
            have hb1 : ((M : Int) + 1 == 0) = false := by simp; omega
            clear hsx hsxz hut hu hbj hbl ejt hM hne
            go_wp2_with fail
            go_ret2
            exact ⟨_, .inr ⟨rfl, hbx, FmtR.yes HALL.out HSX.out⟩⟩
end Go.Proofs.Ymbrbt
