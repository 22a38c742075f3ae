import Derived.Test.YmbrbuHCopyWalk
set_option linter.unusedVariables false
set_option linter.unusedSimpArgs false
set_option linter.unnecessarySimpa false
namespace Go.Proofs.Ymbrbu
open Go.RowKit

theorem nilEq (w : World) : Sem.run Ybum.prog (binOp BinOp.eql 51 (.slice none 0 0) (.slice none 0 0)) w = .ok (.bool true) w := by
  first
  | rfl
  | (simp [binOp, run_underlying Ybum.underlying51]; done)

set_option maxRecDepth 100000 in
set_option maxHeartbeats 10000000 in
theorem hverdict_any (a : Option Addr) (n cap : Nat) (rs : List (Int × Int)) (guide close : Bool) (w : World) (ht : Toks w a n cap rs) (hok : TokOk rs) :
    Calls Ybum.prog 10 #[.slice a n cap, .bool guide, .bool close] w fun e w' => e = .returned (.bool true) ∧ Below w.heap.size w w' := by
  have hnc := ht.2.1
  have hcm := ht.2.2.1
  unfold maxLen at hcm
  have HT0 : Hid (Toks w a n cap rs) := ht
  have HO : Hid (TokOk rs) := hok
  clear ht hok
  by_cases hn : 1024 < n
  · go_enter Ybum.func10, Ybum.ntmps10
    go_wp2_with fail
    go_ret
    exact ⟨rfl, Below.refl _ _⟩
  have dn : decide ((1024 : Int) < (n : Int)) = false := decide_eq_false (by omega)
  go_enter Ybum.func10, Ybum.ntmps10
  go_wp2_with fail
  refine (htoks_any a n cap rs guide close w HT0.out HO.out (by omega)).mono ?_
  rintro e w1 ⟨v1, ts, rfl, own1, hlen, be1⟩
  obtain ⟨aT, cT, rfl, hnT, hTT⟩ := own1.toks'
  obtain ⟨m, hm⟩ : ∃ m, ts.length = m := ⟨_, rfl⟩
  rw [hm] at hTT ⊢
  have hm2 : m ≤ 2049 := by omega
  have HM : Hid (ts.length = m) := hm
  clear own1 hlen hm hnT
  go_wp2_with fail
  refine (hcopy_any aT m cT ts w1 hTT (by omega)).mono ?_
  rintro e w2 ⟨v2, rfl, own2, be2⟩
  have bA2 := be1.trans (be2.mono be1.size)
  obtain ⟨aK, cK, rfl, hnK, hTK⟩ := own2.toks'
  rw [HM.out] at hTK ⊢
  have hT2 := hTT.below be2
  clear own2 hTT hnK
  go_wp2_with fail
  refine (topost_any aT m cT ts w2 hT2 (by omega)).mono ?_
  rintro e w3 ⟨v, c, rfl, be3, hor⟩
  have HOR : Hid ((tp ts = none ∧ c = 2 ∧ v = .slice none 0 0) ∨ ∃ out, tp ts = some out ∧ c = 0 ∧ OwnT w3 w2.heap.size v out) := hor
  have bA3 := bA2.trans (be3.mono bA2.size)
  have hT3 := hT2.below be3
  have hK3 := hTK.below be3
  clear hor hT2 hTK be1 be2 bA2
  go_wp2_with fail
  refine (hsame_any _ _ _ _ _ _ ts ts _ hT3 hK3).mono ?_
  rintro e w4 ⟨rfl, be4⟩
  have dt : decide (ts = ts) = true := by simp
  rw [dt]
  have bA4 := bA3.trans (be4.mono bA3.size)
  have HK4 : Hid (Toks w4 aK m cK ts) := hK3.below be4
  have HOR4 : Hid ((tp ts = none ∧ c = 2 ∧ v = .slice none 0 0) ∨ ∃ out, tp ts = some out ∧ c = 0 ∧ OwnT w4 w2.heap.size v out) := by
    rcases HOR.out with h | ⟨out, h1, h2, h3⟩
    · exact .inl h
    · exact .inr ⟨out, h1, h2, h3.below be4⟩
  have hcK := HK4.out.2.2.1
  have hmK := HK4.out.2.1
  unfold maxLen at hcK
  clear hT3 hK3 HOR dt be4 bA3 be3
  go_wp2_with (first
    | (at_make; refine make_tok _ rfl _ (.tmp 40) rfl w4.heap.size _ _ _ m rfl rfl (by omega) (by omega) (by omega) ?_; intro w5 hown5 hb5 hlt5))
  go_loopw [11, 12, 13, 14, 15, 17, 44] (fun o wt d pr u _ i wr => ∃ (k pn : Nat) (ok want : Bool) (dp : Int) (nums : List Tk), k ≤ m ∧ i = .int .i64 k ∧ o = .bool ok ∧ wt = .bool want ∧ d = .int .i64 dp ∧ pr = .int .i64 pn ∧ -(k : Int) ≤ dp ∧ dp ≤ (k : Int) ∧ pn ≤ k ∧ nums.length ≤ k ∧ Hid (vRun (ts.take k) (true, true, 0) = (ok, want, dp)) ∧ Hid ((ts.take k).countP isPar = pn) ∧ Hid ((ts.take k).filter isNum = nums) ∧ OwnT wr w4.heap.size u nums ∧ Below w4.heap.size w4 wr) (fun _ _ _ _ _ _ i _ => m - (intOf i).toNat)
  case atStart => exact ⟨0, 0, true, true, 0, [], by omega, rfl, rfl, rfl, rfl, rfl, by omega, by omega, by omega, by simp, rfl, rfl, rfl, hown5, hb5⟩
  case round =>
    clear hown5 hb5 hlt5
    obtain ⟨k, pn, ok, want, dp, nums, hk, rfl, rfl, rfl, rfl, rfl, hd1, hd2, hpk, hnl, HR, HP, HN, hown, hb⟩ := hrel
    have hB := hb.size
    by_cases hlt : k < m
    · obtain ⟨b, off, rfl, hc⟩ := (HK4.out.below hb).2.2.2 (by omega)
      obtain ⟨c1, c2⟩ := hc k hlt
      have hkl : k < ts.length := by have := HM.out; omega
      have hki : (k : Int) < (m : Int) := by omega
      have HST : Hid (∀ st', vStep (ok, want, dp) (Ex.kAt ts k, Ex.vAt ts k) = st' → vRun (ts.take (k + 1)) (true, true, 0) = st') := fun st' h => vRun_take HR.out hkl h
      have HP1 : Hid (isPar (Ex.kAt ts k, Ex.vAt ts k) = true → (ts.take (k + 1)).countP isPar = pn + 1) := fun h => by rw [cnt_take isPar hkl, HP.out, h]; rfl
      have HP0 : Hid (isPar (Ex.kAt ts k, Ex.vAt ts k) = false → (ts.take (k + 1)).countP isPar = pn) := fun h => by rw [cnt_take isPar hkl, HP.out, h]; rfl
      have HN1 : Hid (isNum (Ex.kAt ts k, Ex.vAt ts k) = true → (ts.take (k + 1)).filter isNum = nums ++ [(Ex.kAt ts k, Ex.vAt ts k)]) := fun h => by rw [flt_take isNum hkl, HN.out, h]; rfl
      have HN0 : Hid (isNum (Ex.kAt ts k, Ex.vAt ts k) = false → (ts.take (k + 1)).filter isNum = nums) := fun h => by rw [flt_take isNum hkl, HN.out, h]; simp
      clear hc hkl HR HP HN
      rcases op_split' (Ex.kAt ts k) with ⟨hor, hp⟩ | ⟨⟨x1, x2, x3, x4⟩, hp⟩
      · obtain ⟨n1, n2, n3⟩ := prec_ne hp
        have m1 : (Ex.kAt ts k == 48) = false := by simpa using n1
        have m2 : (Ex.kAt ts k == 40) = false := by simpa using n2
        have m3 : (Ex.kAt ts k == 41) = false := by simpa using n3
        have HA : Hid (vRun (ts.take (k + 1)) (true, true, 0) = (ok && !want, true, dp)) := HST.out _ (by simp [vStep, n1, n2, n3, hp])
        have HB : Hid ((ts.take (k + 1)).countP isPar = pn) := HP0.out (by simp [isPar, n2, n3])
        have HC : Hid ((ts.take (k + 1)).filter isNum = nums) := HN0.out (by simp [isNum, n1])
        clear n1 n2 n3 hp HST HP1 HP0 HN1 HN0
        rcases hor with x1 | ⟨x1, x2⟩ | ⟨x1, x2, x3⟩ | ⟨x1, x2, x3, x4⟩ <;> cases ok <;> cases want
        all_goals
          go_wp2_with fail
          go_roundw
          case rel => exact ⟨k + 1, pn, _, true, dp, nums, by omega, by go_num, rfl, rfl, rfl, rfl, by omega, by omega, by omega, by omega, HA, HB, HC, hown.alloc _, hb.alloc hB _⟩
          case measure => simp [intOf]; omega
      · by_cases h48 : Ex.kAt ts k = 48
        · have m1 : (Ex.kAt ts k == 48) = true := by simpa using h48
          have HA : Hid (vRun (ts.take (k + 1)) (true, true, 0) = (ok && want, false, dp)) := HST.out _ (by simp [vStep, h48])
          have HB : Hid ((ts.take (k + 1)).countP isPar = pn) := HP0.out (by simp [isPar, h48])
          have HC : Hid ((ts.take (k + 1)).filter isNum = nums ++ [(Ex.kAt ts k, Ex.vAt ts k)]) := HN1.out (by simp [isNum, h48])
          clear h48 hp HST HP1 HP0 HN1 HN0
          cases ok <;> cases want
          all_goals
            go_wp2_with (first | (at_builtin; refine app_tok _ rfl (.tmp 56) (.tmp 58) rfl w4.heap.size _ nums rfl ((hown.alloc _).alloc _) _ (Ex.kAt ts k) (Ex.vAt ts k) rfl (by simp) (by simp) (by omega) (by simp; omega) ?_; intro v' w2 hown2 hold2 hgr))
            go_roundw
            case rel => exact ⟨k + 1, pn, _, false, dp, _, by omega, by go_num, rfl, rfl, rfl, rfl, by omega, by omega, by omega, by simp; omega, HA, HB, HC, hown2, below_app hb hB hown.base hgr.after_alloc.after_alloc⟩
            case measure => simp [intOf]; omega
        · have m1 : (Ex.kAt ts k == 48) = false := by simpa using h48
          by_cases h40 : Ex.kAt ts k = 40
          · have m2 : (Ex.kAt ts k == 40) = true := by simpa using h40
            have HA : Hid (vRun (ts.take (k + 1)) (true, true, 0) = (ok && want, want, dp + 1)) := HST.out _ (by simp [vStep, h40])
            have HB : Hid ((ts.take (k + 1)).countP isPar = pn + 1) := HP1.out (by simp [isPar, h40])
            have HC : Hid ((ts.take (k + 1)).filter isNum = nums) := HN0.out (by simp [isNum, h40])
            clear h48 h40 hp HST HP1 HP0 HN1 HN0
            cases ok <;> cases want
            all_goals
              go_wp2_with fail
              go_roundw
              case rel => exact ⟨k + 1, pn + 1, _, _, dp + 1, nums, by omega, by go_num, rfl, rfl, by go_num, by go_num, by omega, by omega, by omega, by omega, HA, HB, HC, hown.alloc _, hb.alloc hB _⟩
              case measure => simp [intOf]; omega
          · have m2 : (Ex.kAt ts k == 40) = false := by simpa using h40
            by_cases h41 : Ex.kAt ts k = 41
            · have m3 : (Ex.kAt ts k == 41) = true := by simpa using h41
              have HA : Hid (vRun (ts.take (k + 1)) (true, true, 0) = (ok && !want && decide (1 ≤ dp), want, dp - 1)) := HST.out _ (by
                have e : decide (0 ≤ dp - 1) = decide (1 ≤ dp) := by rw [decide_eq_decide]; omega
                simp only [vStep, h41]; rw [e]; simp)
              have HB : Hid ((ts.take (k + 1)).countP isPar = pn + 1) := HP1.out (by simp [isPar, h41])
              have HC : Hid ((ts.take (k + 1)).filter isNum = nums) := HN0.out (by simp [isNum, h41])
              clear h48 h40 h41 hp HST HP1 HP0 HN1 HN0
              cases ok <;> cases want
              all_goals
                go_wp2_with fail
                go_roundw
                case rel => exact ⟨k + 1, pn + 1, _, _, dp - 1, nums, by omega, by go_num, rfl, rfl, by go_num, by go_num, by omega, by omega, by omega, by omega, HA, HB, HC, hown.alloc _, hb.alloc hB _⟩
                case measure => simp [intOf]; omega
            · have m3 : (Ex.kAt ts k == 41) = false := by simpa using h41
              have HA : Hid (vRun (ts.take (k + 1)) (true, true, 0) = (false, want, dp)) := HST.out _ (by simp [vStep, h48, h40, h41, hp])
              have HB : Hid ((ts.take (k + 1)).countP isPar = pn) := HP0.out (by simp [isPar, h40, h41])
              have HC : Hid ((ts.take (k + 1)).filter isNum = nums) := HN0.out (by simp [isNum, h48])
              clear h48 h40 h41 hp HST HP1 HP0 HN1 HN0
              go_wp2_with fail
              go_roundw
              case rel => exact ⟨k + 1, pn, _, _, dp, nums, by omega, by go_num, rfl, rfl, rfl, rfl, by omega, by omega, by omega, by omega, HA, HB, HC, hown.alloc _, hb.alloc hB _⟩
              case measure => simp [intOf]; omega
    · have hkn : decide ((k : Int) < (m : Int)) = false := decide_eq_false (by omega)
      have hx := bA4.trans (hb.mono bA4.size)
      have hl := HM.out
      have hr := HR.out
      have hp' := HP.out
      have hn' := HN.out
      rw [List.take_of_length_le (by omega)] at hr hp' hn'
      obtain ⟨V0, V1⟩ := tp_verdict ts ok want dp hr
      have HV0 : Hid (¬ (ok = true ∧ want = false ∧ dp = 0) → c = 2 ∧ v = .slice none 0 0) := fun h => by
        have h0 := V0 h
        rcases HOR4.out with ⟨_, h1, h2⟩ | ⟨out, h1, _⟩
        · exact ⟨h1, h2⟩
        · rw [h0] at h1; cases h1
      have HV1 : Hid ((ok = true ∧ want = false ∧ dp = 0) → ∃ out, c = 0 ∧ OwnT w4 w2.heap.size v out ∧ out.length + pn = m ∧ Ex.vpB out = true ∧ out.filter isNum = nums) := fun h => by
        obtain ⟨out, h0, h1, h2, h3⟩ := V1 h
        rcases HOR4.out with ⟨h5, _⟩ | ⟨out', h5, h6, h7⟩
        · rw [h0] at h5; cases h5
        · rw [h0] at h5; cases h5
          exact ⟨out, h6, h7, by rw [← hp', h1, hl], h2, by rw [h3, hn']⟩
      clear hr hp' hn' hl V0 V1 HOR4 HR HP HN
      by_cases hgood : ok = true ∧ want = false ∧ dp = 0
      · obtain ⟨out, rfl, hvo, hlo, hvp, hfl⟩ := HV1.out hgood
        obtain ⟨rfl, rfl, rfl⟩ := hgood
        obtain ⟨aO, cO, rfl, hnO, hTO⟩ := (hvo.below hb).toks'
        obtain ⟨q, hq⟩ : ∃ q, out.length = q := ⟨_, rfl⟩
        rw [hq] at hTO hlo ⊢
        have hcO := hTO.2.2.1
        have hqO := hTO.2.1
        unfold maxLen at hcO
        have HTO : Hid (Toks wr aO q cO out) := hTO
        have HVP : Hid (Ex.vpB out = true) := hvp
        have HFL : Hid (out.filter isNum = nums) := hfl
        have HQ : Hid (out.length = q) := hq
        have hqi : (m : Int) - (pn : Int) = (q : Int) := by omega
        have dq : ((q : Int) != (q : Int)) = false := by simp
        clear hvo hTO hvp hfl hq HV0 HV1 hnO
        go_wp2_with fail
        refine (vp_any aO q cO out wr HTO.out).mono ?_
        rintro e w6 ⟨rfl, be6⟩
        rw [HVP.out]
        have hx6 := hx.trans (be6.mono hx.size)
        have hown6 := hown.below be6
        have HT6 : Hid (Toks w6 aO q cO out) := HTO.out.below be6
        have HN6 : Hid (OwnT w6 w4.heap.size u15 nums) := hown6
        obtain ⟨aN, cN, rfl, hnN, hTN⟩ := hown6.toks'
        have HTN : Hid (Toks w6 aN nums.length cN nums) := hTN
        clear hown hown6 hx hTN HN6 be6 HTO hb
        go_wp2_with (first
          | (at_make; refine make_tok _ rfl _ (.tmp 128) rfl w6.heap.size _ _ _ q rfl rfl (by omega) (by omega) (by omega) ?_; intro w7 hown7 hb7 hlt7))
        go_loopw [18, 20, 132] (fun u _ i wx => ∃ (j : Nat) (got : List Tk), j ≤ q ∧ i = .int .i64 j ∧ got.length ≤ j ∧ Hid ((out.take j).filter isNum = got) ∧ OwnT wx w6.heap.size u got ∧ Below w6.heap.size w6 wx) (fun _ _ i _ => q - (intOf i).toNat)
        case atStart => exact ⟨0, [], by omega, rfl, by simp, rfl, hown7, hb7⟩
        case round =>
          clear hown7 hb7 hlt7
          obtain ⟨j, got, hj, rfl, hgl, HG, hown, hb⟩ := hrel
          have hB := hb.size
          by_cases hjq : j < q
          · obtain ⟨b, off, rfl, hc⟩ := (HT6.out.below hb).2.2.2 (by omega)
            obtain ⟨c1, c2⟩ := hc j hjq
            have hkl : j < out.length := by have := HQ.out; omega
            have hji : (j : Int) < (q : Int) := by omega
            by_cases h48 : Ex.kAt out j = 48
            · have m1 : (Ex.kAt out j == 48) = true := by simpa using h48
              have HG2 : Hid ((out.take (j + 1)).filter isNum = got ++ [(Ex.kAt out j, Ex.vAt out j)]) := by
                show _ = _
                rw [flt_take isNum hkl, HG.out, if_pos (by simp [isNum, h48])]
              clear h48 hc hkl
              go_wp2_with (first | (at_builtin; refine app_tok _ rfl (.tmp 139) (.tmp 141) rfl w6.heap.size _ got rfl ((hown.alloc _).alloc _) _ (Ex.kAt out j) (Ex.vAt out j) rfl (by simp) (by simp) (by omega) (by simp; omega) ?_; intro v' w2 hown2 hold2 hgr))
              go_roundw
              case rel => exact ⟨j + 1, _, by omega, by go_num, by simp; omega, HG2, hown2, below_app hb hB hown.base hgr.after_alloc.after_alloc⟩
              case measure => simp [intOf]; omega
            · have m1 : (Ex.kAt out j == 48) = false := by simpa using h48
              have HG2 : Hid ((out.take (j + 1)).filter isNum = got) := by
                show _ = _
                rw [flt_take isNum hkl, HG.out, if_neg (by simp [isNum, h48]), List.append_nil]
              clear h48 hc hkl
              go_wp2_with fail
              go_roundw
              case rel => exact ⟨j + 1, _, by omega, by go_num, by omega, HG2, hown.alloc _, hb.alloc hB _⟩
              case measure => simp [intOf]; omega
          · have hjn : decide ((j : Int) < (q : Int)) = false := decide_eq_false (by omega)
            have hg := HG.out
            rw [List.take_of_length_le (by have := HQ.out; omega), HFL.out] at hg
            subst hg
            obtain ⟨aG, cG, rfl, hnG, hTG⟩ := hown.toks'
            have hx8 := hx6.trans (hb.mono hx6.size)
            go_wp2_with fail
            refine (hsame_any _ _ _ _ _ _ nums nums _ hTG (HTN.out.below hb)).mono ?_
            rintro e w8 ⟨rfl, be8⟩
            have dt : decide (nums = nums) = true := by simp
            rw [dt]
            go_wp2_with fail
            go_ret
            exact ⟨rfl, hx8.trans (be8.mono hx8.size)⟩
      · obtain ⟨rfl, rfl⟩ := HV0.out hgood
        have hway : ok = false ∨ (ok = true ∧ want = true) ∨ (ok = true ∧ want = false ∧ (dp != 0) = true) := by
          cases ok <;> cases want <;> simp at hgood ⊢
          exact hgood
        clear hgood HV0 HV1
        rcases hway with rfl | ⟨rfl, rfl⟩ | ⟨rfl, rfl, hne⟩
        all_goals
          have hnil := nilEq
          go_wp2_with fail
          go_ret
          exact ⟨rfl, hx⟩
end Go.Proofs.Ymbrbu
