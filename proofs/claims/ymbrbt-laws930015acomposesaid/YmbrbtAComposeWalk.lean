import Derived.Test.YmbrbtABuildWalk
import Derived.Test.YmbrbtEvWalk
set_option linter.unusedVariables false
set_option linter.unusedSimpArgs false
set_option linter.unnecessarySimpa false
namespace Go.Proofs.Ymbrbt
open Go.RowKit

theorem TokOk.append {a b : List (Int × Int)} (ha : TokOk a) (hb : TokOk b) : TokOk (a ++ b) := fun t ht => by
  rcases List.mem_append.1 ht with h | h
  · exact ha t h
  · exact hb t h
theorem er_in {p : List (Int × Int)} (hp : Ex.vrun 0 p = some 1) (hok : TokOk p) : Ex.inI (Ex.er [] p).1 := by
  refine Ex.valid_ind (M := fun p => TokOk p → Ex.inI (Ex.er [] p).1) ?_ ?_ p.length p (Nat.le_refl _) hp hok
  · intro v h
    rw [Ex.er_num rfl, Ex.er_nil]
    exact (h (48, v) (by simp)).2.2
  · intro a b k v h48 hk ha hb ia ib h
    rw [Ex.er_join h48 ha hb]
    split
    · simp [Ex.inI]
    · split
      · simp [Ex.inI]
      · exact Ex.ap_in

set_option maxRecDepth 100000 in
set_option maxHeartbeats 4000000 in
theorem acompose_any (a0 a1 : Option Addr) (n0 n1 cap0 cap1 : Nat) (r0 r1 : List (Int × Int)) (op val : Int) (w : World) (ht0 : Toks w a0 n0 cap0 r0) (hok0 : TokOk r0) (ht1 : Toks w a1 n1 cap1 r1) (hok1 : TokOk r1)
    (hop0 : 0 ≤ op) (hop1 : op ≤ 255) (hval : Ex.inI val) :
    Calls Ybtm.prog 5 #[.slice a0 n0 cap0, .slice a1 n1 cap1, .int .u8 op, .int .i64 val] w fun e w' => e = .returned (.bool true) ∧ Below w.heap.size w w' := by
  have hnc0 := ht0.2.1
  have hnc1 := ht1.2.1
  have hcm0 := ht0.2.2.1
  have hcm1 := ht1.2.2.1
  unfold maxLen at hcm0 hcm1
  have T0 : Hid (Toks w a0 n0 cap0 r0) := ht0
  have T1 : Hid (Toks w a1 n1 cap1 r1) := ht1
  have O0 : Hid (TokOk r0) := hok0
  have O1 : Hid (TokOk r1) := hok1
  clear ht0 ht1 hok0 hok1
  by_cases hbig0 : 1024 < n0
  · go_enter Ybtm.func5, Ybtm.ntmps5
    go_wp2_with fail
    go_ret
    exact ⟨rfl, Below.refl _ _⟩
  have d0 : decide ((1024 : Int) < (n0 : Int)) = false := decide_eq_false (by omega)
  by_cases hbig1 : 1024 < n1
  · go_enter Ybtm.func5, Ybtm.ntmps5
    go_wp2_with fail
    go_ret
    exact ⟨rfl, Below.refl _ _⟩
  have d1 : decide ((1024 : Int) < (n1 : Int)) = false := decide_eq_false (by omega)
  go_enter Ybtm.func5, Ybtm.ntmps5
  go_wp2_with fail
  refine (abuild_any _ _ _ r0 _ T0.out O0.out (by omega)).mono ?_
  rintro e w1 ⟨v1, p, rfl, hown1, hv1, hl1, hk1, hb1⟩
  obtain ⟨b0, c0, rfl, hn0, hT0⟩ := hown1.toks'
  have V1 : Hid (Ex.vrun 0 p = some 1) := hv1
  have K1 : Hid (TokOk p) := hk1
  have HP0 : Hid (Toks w1 b0 p.length c0 p) := hT0
  have hc0 := hT0.2.2.1
  unfold maxLen at hc0
  clear hown1 hv1 hk1 hT0
  go_wp2_with fail
  refine (abuild_any _ _ _ r1 _ (T1.out.below hb1) O1.out (by omega)).mono ?_
  rintro e w2 ⟨v2, q, rfl, hown2, hv2, hl2, hk2, hb2⟩
  obtain ⟨b1, c1, rfl, hn1, hT1⟩ := hown2.toks'
  have V2 : Hid (Ex.vrun 0 q = some 1) := hv2
  have K2 : Hid (TokOk q) := hk2
  have HQ1 : Hid (Toks w2 b1 q.length c1 q) := hT1
  have HP1 : Hid (Toks w2 b0 p.length c0 p) := HP0.out.below hb2
  have hbw : Below w.heap.size w w2 := hb1.trans (hb2.mono hb1.size)
  have hc1 := hT1.2.2.1
  unfold maxLen at hc1
  clear hown2 hv2 hk2 hT1 hb1 hb2 HP0 T0 T1 O0 O1
  go_wp2_with fail
  refine (aop_any op _ hop0 hop1).mono ?_
  rintro e w2' ⟨rfl, hw⟩
  subst hw
  have hP := aopK_prec op
  have hk48 : aopK op ≠ 48 := by rcases aopK_cases op with h | h | h | h <;> rw [h] <;> omega
  have hkb : 0 ≤ aopK op ∧ aopK op ≤ 255 := by rcases aopK_cases op with h | h | h | h <;> rw [h] <;> omega
  generalize aopK op = kk at hP hk48 hkb ⊢
  have KA : Hid (TokOk (p ++ q ++ [(kk, val)])) := (K1.out.append K2.out).append (fun t ht => by simp at ht; subst ht; exact ⟨hkb.1, hkb.2, hval⟩)
  obtain ⟨P, hPe⟩ : ∃ P, Ex.er [] p = P := ⟨_, rfl⟩
  obtain ⟨pv, pc⟩ := P
  obtain ⟨R, hRe⟩ : ∃ R, Ex.er [] q = R := ⟨_, rfl⟩
  obtain ⟨qv, qc⟩ := R
  have ip : Ex.inI pv := by have := er_in V1.out K1.out; rw [hPe] at this; exact this
  have iq : Ex.inI qv := by have := er_in V2.out K2.out; rw [hRe] at this; exact this
  have hj := Ex.er_join (v := val) hk48 V1.out V2.out
  rw [hPe, hRe] at hj
  have HJ : Hid (Ex.evP (p ++ q ++ [(kk, val)]) = if pc ≠ 0 then (0, pc) else if qc ≠ 0 then (0, qc) else Ex.ap kk pv qv) := by
    show _ = _
    unfold Ex.evP
    rw [if_pos (Ex.vpB_iff.2 (Ex.vrun_snoc_op (Ex.valid_cat V1.out V2.out) hP (by omega)))]
    exact hj
  have HEP : Hid (Ex.evP p = (pv, pc)) := by show _ = _; unfold Ex.evP; rw [if_pos (Ex.vpB_iff.2 V1.out)]; exact hPe
  have HEQ : Hid (Ex.evP q = (qv, qc)) := by show _ = _; unfold Ex.evP; rw [if_pos (Ex.vpB_iff.2 V2.out)]; exact hRe
  clear hPe hRe hj hkb hk48 hP V1 V2
  go_wp2_with (first
    | (at_make; go_must (refine make_tok _ rfl _ (.tmp 40) rfl w2'.heap.size _ _ _ (p.length + q.length + 1) rfl rfl (by omega) (by omega) (by omega) ?_; intro w4 hown4 hb4 hlt4))
    | (at_builtin; refine app_toks _ rfl (.tmp 42) (.tmp 43) rfl w2'.heap.size _ [] rfl hown4 _ _ _ p rfl hn0 (HP1.out.below hb4) (by simp; omega) (by omega) ?_; intro v5 w5 hown5 hold5 hgr5; have hb5 := below_app hb4 hb4.size hown4.base hgr5; have hs5 := hb5.size)
    | (at_builtin; refine app_toks _ rfl (.tmp 45) (.tmp 46) rfl w2'.heap.size _ ([] ++ p) rfl hown5 _ _ _ q rfl hn1 (HQ1.out.below hb5) (by simp; omega) (by omega) ?_; intro v6 w6 hown6 hold6 hgr6; have hb6 := below_app hb5 hb5.size hown5.base hgr6; have hs6 := hb6.size; simp only [List.nil_append] at hown6)
    | (at_builtin; refine app_tok _ rfl (.tmp 48) (.tmp 52) rfl w2'.heap.size _ (p ++ q) rfl (hown6.alloc _) _ kk val rfl (by simp) (by simp) (by simp; omega) (by simp; omega) ?_; intro v7 w7 hown7 hold7 hgr7; have hb7 := below_app hb6 hb6.size hown6.base hgr7.after_alloc; generalize hL7 : p ++ q ++ [(kk, val)] = L7 at hown7; have HL7 : Hid (p ++ q ++ [(kk, val)] = L7) := hL7; have hl7 : L7.length < 10000 := (by rw [← hL7]; simp; omega); clear hL7; obtain ⟨b7, c7, rfl, hn7, hT7⟩ := hown7.toks'))
  have hc7 := hT7.2.2.1
  unfold maxLen at hc7
  have HT7 : Hid (Toks w7 b7 L7.length c7 L7) := hT7
  rw [HL7.out] at KA HJ
  clear hown4 hb4 hlt4 hown5 hold5 hgr5 hb5 hs5 hown6 hold6 hgr6 hb6 hs6 hown7 hold7 hgr7 hT7
  refine (ev_any b0 p.length c0 p pv pc _ (HP1.out.below hb7) K1.out (by omega) HEP.out).mono ?_
  rintro e w8 ⟨rfl, hb8⟩
  have hbA : Below w2'.heap.size w2' w8 := hb7.trans (hb8.mono hb7.size)
  go_wp2_with fail
  refine (ev_any b1 q.length c1 q qv qc _ (HQ1.out.below hbA) K2.out (by omega) HEQ.out).mono ?_
  rintro e w9 ⟨rfl, hb9⟩
  have hbB : Below w2'.heap.size w2' w9 := hbA.trans (hb9.mono hbA.size)
  have hbC : Below w.heap.size w w9 := hbw.trans (hbB.mono hbw.size)
  have HT9 : Hid (Toks w9 b7 L7.length c7 L7) := (HT7.out.below hb8).below hb9
  clear hbA hb8 hb9 hb7 HT7 hbB hbw
  go_wp2_with fail
  by_cases hpc : pc = 0
  · by_cases hqc : qc = 0
    · subst hpc hqc
      obtain ⟨S, hS⟩ : ∃ S, Ex.ap kk pv qv = S := ⟨_, rfl⟩
      obtain ⟨sv, sc⟩ := S
      have HS : Hid (Ex.ap kk pv qv = (sv, sc)) := hS
      refine (ev_any b7 L7.length c7 L7 sv sc _ HT9.out KA.out (by omega) (HJ.out.trans (by simp [HS.out]))).mono ?_
      clear hS
      rintro e w10 ⟨rfl, hb10⟩
      go_wp2_with fail
      refine (apply_is kk pv qv sv sc _ ip iq HS.out).mono ?_
      rintro e w11 ⟨rfl, rfl⟩
      go_wp2_with fail
      go_ret
      exact ⟨rfl, hbC.trans (hb10.mono hbC.size)⟩
    · have hqc' : (qc != 0) = true := by simpa using hqc
      subst hpc
      refine (ev_any b7 L7.length c7 L7 0 qc _ HT9.out KA.out (by omega) (HJ.out.trans (by simp [hqc]))).mono ?_
      rintro e w10 ⟨rfl, hb10⟩
      clear hqc
      go_wp2_with fail
      go_ret
      exact ⟨rfl, hbC.trans (hb10.mono hbC.size)⟩
  · have hpc' : (pc != 0) = true := by simpa using hpc
    refine (ev_any b7 L7.length c7 L7 0 pc _ HT9.out KA.out (by omega) (HJ.out.trans (by simp [hpc]))).mono ?_
    rintro e w10 ⟨rfl, hb10⟩
    clear hpc
    go_wp2_with fail
    go_ret
    exact ⟨rfl, hbC.trans (hb10.mono hbC.size)⟩
end Go.Proofs.Ymbrbt
