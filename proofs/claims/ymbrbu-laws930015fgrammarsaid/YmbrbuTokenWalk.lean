import Derived.Test.YmbrbuBz
import Derived.Test.YmbrbuOwnTok
set_option linter.unusedVariables false
set_option linter.unusedSimpArgs false
set_option linter.unnecessarySimpa false
namespace Go.Proofs.Ymbrbu
open Go.RowKit

set_option maxHeartbeats 1000000 in
theorem issym_any (c : Int) (w : World) : Calls Ybum.prog 49 #[.int .u8 c] w fun e w' => e = .returned (.bool (isSym c)) ∧ w' = w := by
  by_cases hp : 0 < Ex.prec c
  · have e : isSym c = true := by simp [isSym, hp]
    rw [e]; clear e
    go_enter Ybum.func49, Ybum.ntmps49
    go_wp2_with fail
    refine (prec_any _ _).mono ?_
    rintro e w' ⟨rfl, hw⟩
    subst hw
    go_wp2_with fail
    go_ret
    exact ⟨rfl, rfl⟩
  · have dp : decide (0 < Ex.prec c) = false := by simpa using hp
    have e : isSym c = (c == 40 || c == 41) := by simp [isSym, hp]
    rw [e]; clear e hp
    by_cases h40 : c = 40
    · subst h40
      go_enter Ybum.func49, Ybum.ntmps49
      go_wp2_with fail
      refine (prec_any _ _).mono ?_
      rintro e w' ⟨rfl, hw⟩
      subst hw
      go_wp2_with fail
      go_ret
      exact ⟨rfl, rfl⟩
    · have d1 : (c == 40) = false := by simpa using h40
      rw [d1, Bool.false_or]
      clear h40
      go_enter Ybum.func49, Ybum.ntmps49
      go_wp2_with fail
      refine (prec_any _ _).mono ?_
      rintro e w' ⟨rfl, hw⟩
      subst hw
      go_wp2_with fail
      go_ret
      exact ⟨rfl, rfl⟩

theorem run_cut (bs : List Int) (k : Nat) : bs.drop k = Ex.runAt bs k ++ bs.drop (k + (Ex.runAt bs k).length) := by
  unfold Ex.runAt
  conv => lhs; rw [← List.takeWhile_append_dropWhile (p := Ex.isD) (l := bs.drop k)]
  congr 1
  rw [← List.drop_drop]
  generalize bs.drop k = l
  induction l with
  | nil => rfl
  | cons c l ih =>
    by_cases hc : Ex.isD c = true
    · simp [List.takeWhile, List.dropWhile, hc, ih]
    · have hc' : Ex.isD c = false := by simpa using hc
      simp [List.takeWhile, List.dropWhile, hc']
/-- what Tokenize does at a literal -/
theorem bz_run (bs : List Int) (k : Nat) (T : List (Int × Int)) (hk : k < bs.length) (hd : Ex.isD (Ex.iAt bs k) = true) :
    0 < (Ex.runAt bs k).length ∧ k + (Ex.runAt bs k).length ≤ bs.length ∧ bz (bs.drop k) T none = if Ex.dval 0 (Ex.runAt bs k) ≤ 9223372036854775807 then bz (bs.drop (k + (Ex.runAt bs k).length)) (T ++ [(48, (Ex.dval 0 (Ex.runAt bs k) : Int))]) none else (3, []) := by
  have h0 : Ex.runAt bs k ≠ [] := by
    unfold Ex.runAt
    rw [Ex.idrop_at bs k hk]
    simp [List.takeWhile, hd]
  have hpos : 0 < (Ex.runAt bs k).length := List.length_pos_iff.2 h0
  have hle : k + (Ex.runAt bs k).length ≤ bs.length := by
    rcases Ex.run_le bs k with h | h <;> omega
  refine ⟨hpos, hle, ?_⟩
  conv => lhs; rw [run_cut bs k]
  rw [bz_digits _ T _ none (fun c hc => Ex.isD_iff.2 (Ex.run_dig bs k c hc)) h0]
  show (if Ex.dval 0 (Ex.runAt bs k) ≤ _ then _ else _) = _
  by_cases hf : Ex.dval 0 (Ex.runAt bs k) ≤ 9223372036854775807
  · rw [if_pos hf, if_pos hf]
    refine bz_flush T _ (fun c hc => ?_)
    by_cases hlt : k + (Ex.runAt bs k).length < bs.length
    · have := Ex.run_end bs k hlt
      rw [Ex.idrop_at bs _ hlt] at hc
      simp at hc
      rw [← hc, Ex.isD_not]; exact this
    · rw [List.drop_eq_nil_of_le (by omega)] at hc
      cases hc
  · rw [if_neg hf, if_neg hf]

set_option maxRecDepth 100000 in
set_option maxHeartbeats 4000000 in
theorem token_any (s : ByteArray) (w : World) (hs : s.size ≤ 100000000) :
    Calls Ybum.prog 38 #[.string s] w fun e w' => ∃ v c, e = .returned (.tuple #[v, .int .i64 c]) ∧ Below w.heap.size w w' ∧ ((bz (sb s) [] none = (c, []) ∧ c ≠ 0 ∧ v = .slice none 0 0) ∨ ∃ out, bz (sb s) [] none = (0, out) ∧ c = 0 ∧ OwnT w' w.heap.size v out) := by
  have HS : Hid ((sb s).length = s.size) := sb_len s
  have hsb := sb_at s
  go_enter Ybum.func38, Ybum.ntmps38
  go_wp2_with (first
    | (at_make; refine make_tok _ rfl _ _ rfl w.heap.size _ _ _ s.size rfl rfl (by omega) (by omega) (by omega) ?_; intro w1 hown1 hb1 hlt1))
  go_loopw [4, 5, 6, 7, 8, 9] (fun v i _ _ _ _ wr => ∃ (k : Nat) (T : List (Int × Int)), k ≤ s.size ∧ i = .int .i64 k ∧ T.length ≤ k ∧ Hid (bz ((sb s).drop k) T none = bz (sb s) [] none) ∧ OwnT wr w.heap.size v T ∧ Below w.heap.size w wr) (fun _ i _ _ _ _ _ => s.size - (intOf i).toNat)
  case atStart => exact ⟨0, [], by omega, rfl, by simp, rfl, hown1, hb1⟩
  case round =>
    clear hown1 hb1 hlt1
    obtain ⟨k, T, hk, rfl, hTk, HB, hown, hb⟩ := hrel
    have hB := hb.size
    by_cases hlt : k < s.size
    · have hkl : k < (sb s).length := by have := HS.out; omega
      have HD : Hid ((sb s).drop k = Ex.iAt (sb s) k :: (sb s).drop (k + 1)) := Ex.idrop_at (sb s) k hkl
      have hki : (k : Int) < (s.size : Int) := by omega
      have hki0 : (0 : Int) ≤ (k : Int) := by omega
      by_cases h32 : Ex.iAt (sb s) k = 32 ∨ Ex.iAt (sb s) k = 9
      · have HN : Hid (bz ((sb s).drop (k + 1)) T none = bz (sb s) [] none) := by
          show _ = _
          rw [← HB.out, HD.out, bz_blank _ _ h32]
        have hor : (Ex.iAt (sb s) k == 32) = true ∨ ((Ex.iAt (sb s) k == 32) = false ∧ (Ex.iAt (sb s) k == 9) = true) := by rcases h32 with h | h <;> simp [h]
        clear h32
        rcases hor with x1 | ⟨x1, x2⟩
        all_goals
          go_wp2_with fail
          go_roundw
          case rel => exact ⟨k + 1, T, by omega, by go_num, by omega, HN, hown, hb⟩
          case measure => simp [intOf]; omega
      · have x1 : (Ex.iAt (sb s) k == 32) = false := by simp; omega
        have x2 : (Ex.iAt (sb s) k == 9) = false := by simp; omega
        cases hsy : isSym (Ex.iAt (sb s) k) with
        | true =>
          have HN : Hid (bz ((sb s).drop (k + 1)) (T ++ [(Ex.iAt (sb s) k, 0)]) none = bz (sb s) [] none) := by
            show _ = _
            rw [← HB.out, HD.out, bz_sym _ _ hsy]
          clear h32
          go_wp2_with fail
          refine (issym_any _ _).mono ?_
          rintro e w' ⟨rfl, hw⟩
          subst hw
          rw [hsy]
          clear hsy
          go_wp2_with (first | (at_builtin; refine app_tok _ rfl (.tmp 32) (.tmp 35) rfl w.heap.size _ T rfl (hown.alloc _) _ (Ex.iAt (sb s) k) 0 rfl (by simp) (by simp) (by omega) (by simp; omega) ?_; intro v' w2 hown2 hold2 hgr))
          go_roundw
          case rel => exact ⟨k + 1, _, by omega, by go_num, by simp; omega, HN, hown2, below_app hb hB hown.base hgr.after_alloc⟩
          case measure => simp [intOf]; omega
        | false =>
          cases hdg : Ex.isD (Ex.iAt (sb s) k) with
          | false =>
            have HE : Hid (bz (sb s) [] none = (1, [])) := by
              show _ = _
              rw [← HB.out, HD.out, bz_bad _ _ _ h32 hsy hdg]
            rw [Ex.isD_not] at hdg
            have hor : decide (48 ≤ (Ex.iAt (sb s) k)) = false ∨ (decide (48 ≤ (Ex.iAt (sb s) k)) = true ∧ decide (Ex.iAt (sb s) k ≤ 57) = false) := by
              by_cases h : 48 ≤ (Ex.iAt (sb s) k)
              · right; exact ⟨by simpa using h, by simp; omega⟩
              · left; simpa using h
            clear h32 hdg
            go_wp2_with fail
            refine (issym_any _ _).mono ?_
            rintro e w' ⟨rfl, hw⟩
            subst hw
            rw [hsy]
            clear hsy
            rcases hor with y1 | ⟨y1, y2⟩
            all_goals
              go_wp2_with fail
              go_ret2
              exact ⟨_, _, rfl, hb, .inl ⟨HE.out, by decide, rfl⟩⟩
          | true =>
            obtain ⟨r1, r2, r3⟩ := bz_run (sb s) k T hkl hdg
            rw [HB.out] at r3
            rw [Ex.isD_iff] at hdg
            obtain ⟨g1, g2⟩ := hdg
            by_cases hf : Ex.dval 0 (Ex.runAt (sb s) k) ≤ 9223372036854775807
            · obtain ⟨f1, f2, f3⟩ := Ex.scan_fits hf
              rw [if_pos hf] at r3
              have f3' : Ex.scanB (sb s) k = true := by rw [f3]; simpa using r1
              obtain ⟨J, hJ⟩ : ∃ J, k + (Ex.runAt (sb s) k).length = J := ⟨_, rfl⟩
              obtain ⟨V, hV⟩ : ∃ V, Ex.dval 0 (Ex.runAt (sb s) k) = V := ⟨_, rfl⟩
              rw [hJ] at r2 r3 f2
              rw [hV] at r3 f1
              have hJs : J ≤ s.size := by have := HS.out; omega
              have hJk : k < J := by omega
              have HN : Hid (bz ((sb s).drop J) (T ++ [(48, (V : Int))]) none = bz (sb s) [] none) := r3.symm
              have HF : Hid (Ex.scanV (sb s) k = V ∧ Ex.scanJ (sb s) k = J ∧ Ex.scanB (sb s) k = true) := ⟨f1, f2, f3'⟩
              clear r1 r2 r3 f1 f2 f3 f3' hJ hV hf h32
              go_wp2_with fail
              refine (issym_any _ _).mono ?_
              rintro e w' ⟨rfl, hw⟩
              subst hw
              rw [hsy]
              clear hsy
              go_wp2_with fail
              refine (scan_any s k _ (by unfold maxLen; omega) (by omega)).mono ?_
              rintro e w' ⟨rfl, hw⟩
              subst hw
              rw [HF.out.1, HF.out.2.1, HF.out.2.2]
              go_wp2_with (first | (at_builtin; refine app_tok _ rfl (.tmp 55) (.tmp 58) rfl w.heap.size _ T rfl (hown.alloc _) _ 48 V rfl (by simp) (by simp) (by omega) (by simp; omega) ?_; intro v' w2 hown2 hold2 hgr))
              go_roundw
              case rel => exact ⟨J, _, by omega, rfl, by simp; omega, HN, hown2, below_app hb hB hown.base hgr.after_alloc⟩
              case measure => simp [intOf]; omega
            · obtain ⟨f1, f2, f3⟩ := Ex.scan_over hf
              rw [if_neg hf] at r3
              have HE : Hid (bz (sb s) [] none = (3, [])) := r3
              have HF : Hid (Ex.scanV (sb s) k = 0 ∧ Ex.scanJ (sb s) k = k ∧ Ex.scanB (sb s) k = false) := ⟨f1, f2, f3⟩
              clear r1 r2 r3 f1 f2 f3 hf h32
              go_wp2_with fail
              refine (issym_any _ _).mono ?_
              rintro e w' ⟨rfl, hw⟩
              subst hw
              rw [hsy]
              clear hsy
              go_wp2_with fail
              refine (scan_any s k _ (by unfold maxLen; omega) (by omega)).mono ?_
              rintro e w' ⟨rfl, hw⟩
              subst hw
              rw [HF.out.1, HF.out.2.1, HF.out.2.2]
              go_wp2_with fail
              go_ret2
              exact ⟨_, _, rfl, hb, .inl ⟨HE.out, by decide, rfl⟩⟩
    · have hkn : decide ((k : Int) < (s.size : Int)) = false := decide_eq_false (by omega)
      have HE : Hid (bz (sb s) [] none = (0, T)) := by
        show _ = _
        rw [← HB.out, List.drop_eq_nil_of_le (by have := HS.out; omega)]
        simp [bz, flush]
      go_wp2_with fail
      go_ret2
      exact ⟨_, _, rfl, hb, .inr ⟨_, HE.out, rfl, hown⟩⟩
end Go.Proofs.Ymbrbu
