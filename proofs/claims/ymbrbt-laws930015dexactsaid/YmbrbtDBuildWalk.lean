import Derived.Test.YmbrbtDAccWalk
set_option linter.unusedVariables false
set_option linter.unusedSimpArgs false
set_option linter.unnecessarySimpa false
namespace Go.Proofs.Ymbrbt
open Go.RowKit

def dopK (k : Int) : Int := if k % 4 = 0 then 43 else if k % 4 = 1 then 45 else if k % 4 = 2 then 42 else 47
theorem dopK_prec (k : Int) : 0 < Ex.prec (dopK k) := by
  unfold dopK
  repeat' split
  all_goals decide
theorem dopK_byte (k : Int) : 0 ≤ dopK k ∧ dopK k ≤ 255 := by
  unfold dopK
  repeat' split
  all_goals omega
theorem dop_any (k : Int) (w : World) (h0 : 0 ≤ k) (h1 : k ≤ 255) : Calls Ybtm.prog 42 #[.int .u8 k] w fun e w' => e = .returned (.int .u8 (dopK k)) ∧ w' = w := by
  have hk : k % 4 = 0 ∨ k % 4 = 1 ∨ k % 4 = 2 ∨ k % 4 = 3 := by omega
  rcases hk with hk | hk | hk | hk
  all_goals
    have e : dopK k = dopK k := rfl
    conv at e => rhs; unfold dopK; simp [hk]
    rw [e]
    clear e
    go_enter Ybtm.func42, Ybtm.ntmps42
    go_wp2
    go_ret
    exact ⟨rfl, rfl⟩

/-- what the script builds, step by step: the tokens and the depth -/
def dStep (s : List Tk × Nat) (t : Tk) : List Tk × Nat := if t.1 % 2 = 1 ∧ 2 ≤ s.2 then (s.1 ++ [(dopK (t.1 / 2), t.2)], s.2 - 1) else (s.1 ++ [(48, t.2)], s.2 + 1)
def dRun (rs : List Tk) : List Tk × Nat := rs.foldl dStep ([], 0)
def dClose : Nat → List Tk → List Tk
  | 0, T => T
  | 1, T => T
  | d + 2, T => dClose (d + 1) (T ++ [(dopK (((d + 2) % 4 : Nat) : Int), 0)])
def dB (rs : List Tk) : List Tk := if (dRun rs).2 = 0 then (dRun rs).1 ++ [(48, 7)] else dClose (dRun rs).2 (dRun rs).1
theorem dRun_snoc (rs : List Tk) (t : Tk) : dRun (rs ++ [t]) = dStep (dRun rs) t := by simp [dRun]
theorem dRun_ok (rs : List Tk) : ∀ k, Ex.vrun 0 (dRun (rs.take k)).1 = some (dRun (rs.take k)).2 ∧ (dRun (rs.take k)).1.length = (rs.take k).length ∧ (dRun (rs.take k)).2 ≤ (rs.take k).length
  | 0 => by simp [dRun, Ex.vrun]
  | k + 1 => by
    obtain ⟨h1, h2, h3⟩ := dRun_ok rs k
    by_cases hk : k < rs.length
    · rw [List.take_add_one, List.getElem?_eq_getElem hk]
      simp only [Option.toList]
      rw [dRun_snoc]
      unfold dStep
      split
      · rename_i h
        refine ⟨Ex.vrun_snoc_op h1 (dopK_prec _) h.2, by rw [List.length_append, List.length_append, h2]; rfl, ?_⟩
        rw [List.length_append]
        show (dRun (rs.take k)).2 - 1 ≤ _ + 1
        omega
      · refine ⟨Ex.vrun_snoc_num h1, by rw [List.length_append, List.length_append, h2]; rfl, ?_⟩
        rw [List.length_append]
        show (dRun (rs.take k)).2 + 1 ≤ _ + 1
        omega
    · rw [List.take_of_length_le (show rs.length ≤ k by omega)] at h1 h2 h3
      rw [List.take_of_length_le (show rs.length ≤ k + 1 by omega)]
      exact ⟨h1, h2, h3⟩
theorem dClose_ok : ∀ (d : Nat) (T : List Tk), 1 ≤ d → Ex.vrun 0 T = some d → Ex.vrun 0 (dClose d T) = some 1 ∧ (dClose d T).length ≤ T.length + d
  | 1, T, _, h => ⟨h, by simp [dClose]⟩
  | d + 2, T, _, h => by
    have h2 := Ex.vrun_snoc_op (v := 0) h (dopK_prec (((d + 2) % 4 : Nat) : Int)) (by omega)
    obtain ⟨a, b⟩ := dClose_ok (d + 1) (T ++ [(dopK (((d + 2) % 4 : Nat) : Int), 0)]) (by omega) (by simpa using h2)
    refine ⟨a, ?_⟩
    simp [dClose] at b ⊢
    omega
theorem dB_ok (rs : List Tk) : Ex.vpB (dB rs) = true ∧ (dB rs).length ≤ 2 * rs.length + 1 := by
  obtain ⟨h1, h2, h3⟩ := dRun_ok rs rs.length
  rw [List.take_length] at h1 h2 h3
  unfold dB
  split
  · rename_i h
    rw [h] at h1
    refine ⟨?_, by simp; omega⟩
    have := Ex.vrun_snoc_num (v := 7) h1
    simp [Ex.vpB, this]
  · rename_i h
    obtain ⟨a, b⟩ := dClose_ok _ _ (by omega) h1
    exact ⟨by simp [Ex.vpB, a], by omega⟩

set_option maxRecDepth 100000 in
set_option maxHeartbeats 8000000 in
theorem dbuild_any (a : Option Addr) (n cap : Nat) (rs : List Tk) (w : World) (ht : Toks w a n cap rs) (hok : TokOk rs) (hn : n ≤ 512) :
    Calls Ybtm.prog 28 #[.slice a n cap] w fun e w' => ∃ v, e = .returned v ∧ OwnT w' w.heap.size v (dB rs) ∧ Below w.heap.size w w' := by
  have hnc := ht.2.1
  have hcm := ht.2.2.1
  unfold maxLen at hcm
  have HT : Hid (Toks w a n cap rs) := ht
  have HOK : Hid (TokOk rs) := hok
  have HLN : Hid (rs.length = n) := ht.1
  clear ht hok
  go_enter Ybtm.func28, Ybtm.ntmps28
  go_wp2_with (first
    | (at_make; refine make_tok _ rfl _ _ rfl w.heap.size _ _ _ (2 * n + 1) rfl rfl (by omega) (by omega) (by omega) ?_; intro w1 hown1 hb1 hlt1))
  go_loopw [3, 4, 6, 14] (fun u d _ i wr => ∃ (k D : Nat) (T : List Tk), k ≤ n ∧ i = .int .i64 k ∧ d = .int .i64 D ∧ D ≤ k ∧ T.length = k ∧ Hid (dRun (rs.take k) = (T, D)) ∧ OwnT wr w.heap.size u T ∧ Below w.heap.size w wr) (fun _ _ _ i _ => n - (intOf i).toNat)
  case atStart => exact ⟨0, 0, [], by omega, rfl, rfl, by omega, rfl, rfl, hown1, hb1⟩
  case round =>
    obtain ⟨k, D, T, hk, rfl, rfl, hDk, hTk, HR, hown, hb⟩ := hrel
    clear hown1 hb1 hlt1
    have hB := hb.size
    by_cases hlt : k < n
    · obtain ⟨b, off, rfl, hc⟩ := (HT.out.below hb).2.2.2 (by omega)
      obtain ⟨c1, c2⟩ := hc k hlt
      obtain ⟨o1, o2, o3⟩ := HOK.out.at k (by have := HLN.out; omega)
      have HS : Hid (dRun (rs.take (k + 1)) = dStep (T, D) (Ex.kAt rs k, Ex.vAt rs k)) := by
        show _ = _
        rw [Ex.take_at rs k (by have := HLN.out; omega), dRun_snoc, HR.out]
      generalize Ex.kAt rs k = K at c1 o1 o2 HS
      generalize Ex.vAt rs k = V at c2 o3 HS
      have hne : some wr.heap.size ≠ u3.ownBlock := fun e => by have := (hown.lt _ e.symm).2; omega
      clear hc HR
      by_cases hodd : K % 2 = 1 ∧ 2 ≤ D
      · obtain ⟨ho, hD2⟩ := hodd
        have HS2 : Hid (dRun (rs.take (k + 1)) = (T ++ [(dopK (K / 2), V)], D - 1)) := by
          show _ = _
          rw [HS.out, dStep, if_pos ⟨ho, hD2⟩]
        have hDi : (2 : Int) ≤ (D : Int) := by omega
        obtain ⟨Q, hQ⟩ : ∃ Q, IntKind.u8.wrap (K.tdiv 2) = Q := ⟨_, rfl⟩
        have hQK : Q = K / 2 := by
          rw [← hQ, Int.tdiv_eq_ediv_of_nonneg o1, IntKind.wrap_u8]; omega
        have hQ0 : 0 ≤ Q := by omega
        have hQ1 : Q ≤ 255 := by omega
        rw [← hQK] at HS2
        clear HS hQK
        go_wp2_with fail
        go_region_held3 (fun w' => w'.cell? ⟨wr.heap.size, 0, none⟩ = some (.int .u8 K) ∧ w'.cell? ⟨wr.heap.size, 1, none⟩ = some (.int .i64 V))
          (first | go_keep | (exact ⟨hgr.1.cell (by simp) hne, hgr.1.cell (by simp) hne⟩))
          (first
            | (refine step_tok (by rfl) _ _ (by rfl) w.heap.size _ T (by rfl) (((hown.alloc _).alloc _).drew) _ (dopK Q) V (by rfl) (by simp) (by simp) (by omega) (by simp; omega) ?_; intro v' w2 hown2 hold2 hgr)
            | (go_at_call 42; refine (dop_any _ _ (by omega) (by omega)).mono ?_; rintro e w' ⟨rfl, rfl⟩))
        have hgr' := hgr.after_drew.after_alloc.after_alloc
        clear hgr
        go_wp2_with fail
        go_roundw
        case rel => exact ⟨k + 1, D - 1, _, by omega, by go_num, by go_num, by omega, by simp [hTk], HS2, hown2, below_app hb hB hown.base hgr'⟩
        case measure => simp [intOf]; omega
      · have HS2 : Hid (dRun (rs.take (k + 1)) = (T ++ [(48, V)], D + 1)) := by
          show _ = _
          rw [HS.out, dStep, if_neg hodd]
        have hway : (K % 2 == 1) = false ∨ ((K % 2 == 1) = true ∧ decide ((2 : Int) ≤ (D : Int)) = false) := by
          by_cases h1 : K % 2 = 1
          · exact .inr ⟨by simpa using h1, decide_eq_false (by omega)⟩
          · exact .inl (by simpa using h1)
        clear HS hodd
        rcases hway with hy | ⟨hy, hy2⟩
        all_goals
          go_wp2_with (first
            | (at_builtin; refine app_tok _ rfl (.tmp 38) (.tmp 42) rfl w.heap.size _ T rfl ((hown.alloc _).alloc _) _ 48 V rfl (by simp) (by simp) (by omega) (by simp; omega) ?_; intro v' w2 hown2 hold2 hgr))
          go_roundw
          case rel => exact ⟨k + 1, D + 1, _, by omega, by go_num, by go_num, by omega, by simp [hTk], HS2, hown2, below_app hb hB hown.base hgr.after_alloc.after_alloc⟩
          case measure => simp [intOf]; omega
    · have hkd : decide ((k : Int) < (n : Int)) = false := decide_eq_false (by omega)
      have HR2 : Hid (dRun rs = (T, D)) := by
        have := HR.out
        rwa [List.take_of_length_le (by have := HLN.out; omega)] at this
      clear HR
      by_cases hD0 : D = 0
      · have dD : ((D : Int) == 0) = true := by simp; omega
        have HF : Hid (dB rs = T ++ [(48, 7)]) := by
          show _ = _
          rw [dB, HR2.out, if_pos hD0]
        clear hD0 hDk
        go_wp2_with (first
          | (at_builtin; refine app_tok _ rfl (.tmp 49) (.tmp 51) rfl w.heap.size _ T rfl (hown.alloc _) _ 48 7 rfl (by simp) (by simp) (by omega) (by simp; omega) ?_; intro v' w2 hown2 hold2 hgr))
        have hb2 := below_app hb hB hown.base hgr.after_alloc
        go_loopw [3, 4] (fun u d wr => u = v' ∧ d = .int .i64 1 ∧ w2 = wr) (fun _ _ _ => 0)
        case atStart => exact ⟨rfl, rfl, rfl⟩
        case round =>
          obtain ⟨rfl, rfl, rfl⟩ := hrel
          go_wp2_with fail
          go_ret
          exact ⟨_, rfl, by rw [HF.out]; exact hown2, hb2⟩
      · have dD : ((D : Int) == 0) = false := by simp; omega
        have HF : Hid (dB rs = dClose D T) := by
          show _ = _
          rw [dB, HR2.out, if_neg hD0]
        go_wp2_with fail
        go_loopw [3, 4] (fun u d wr => ∃ (E : Nat) (Z : List Tk), d = .int .i64 E ∧ 1 ≤ E ∧ E ≤ 512 ∧ Z.length ≤ 2000 - E ∧ Hid (dClose E Z = dB rs) ∧ OwnT wr w.heap.size u Z ∧ Below w.heap.size w wr) (fun _ d _ => (intOf d).toNat)
        case atStart => exact ⟨D, T, rfl, by omega, by omega, by omega, HF.out.symm, hown, hb⟩
        case round =>
          obtain ⟨E, Z, rfl, hE1, hE2, hZ, HC, hu, hbz⟩ := hrel
          clear hown hb hB
          have hB := hbz.size
          by_cases h1 : 1 < E
          · obtain ⟨e, rfl⟩ : ∃ e, E = e + 2 := ⟨E - 2, by omega⟩
            obtain ⟨r, hr⟩ : ∃ r : Nat, (e + 2) % 4 = r := ⟨_, rfl⟩
            have hr4 : r < 4 := by omega
            have HC2 : Hid (dClose (e + 1) (Z ++ [(dopK (r : Int), 0)]) = dB rs) := by
              show _ = _
              rw [← HC.out, ← hr]; rfl
            obtain ⟨E2, hE⟩ : ∃ E2, e + 2 = E2 := ⟨_, rfl⟩
            have hri : (E2 : Int) % 4 = (r : Int) := by omega
            have hEi : (1 : Int) < (E2 : Int) := by omega
            rw [hE] at hE1 hE2 hZ ⊢
            have HEE : Hid (e + 2 = E2) := hE
            clear HC hr hE h1
            go_wp2_with fail
            refine (dop_any r _ (by omega) (by omega)).mono ?_
            rintro e' w' ⟨rfl, hw⟩
            subst hw
            go_wp2_with (first
              | (at_builtin; refine app_tok _ rfl (.tmp 55) (.tmp 61) rfl w.heap.size _ Z rfl (hu.alloc _) _ (dopK (r : Int)) 0 rfl (by simp) (by simp) (by omega) (by simp; omega) ?_; intro v5 w5 hown5 hold5 hgr5))
            go_roundw
            case rel =>
              have := HEE.out
              exact ⟨e + 1, _, by go_num, by omega, by omega, by simp; omega, HC2, hown5, below_app hbz hB hu.base hgr5.after_alloc⟩
            case measure => simp [intOf]; omega
          · obtain rfl : E = 1 := by omega
            go_wp2_with fail
            go_ret
            exact ⟨_, rfl, by rw [← HC.out]; exact hu, hbz⟩
end Go.Proofs.Ymbrbt
