import Derived.Test.YmbrbtASyn
set_option linter.unusedVariables false
set_option linter.unusedSimpArgs false
set_option linter.unnecessarySimpa false
namespace Go.Proofs.Ymbrbt
open Go.RowKit

theorem op_split (K : Int) : ((K == 43) = true ∨ ((K == 43) = false ∧ (K == 45) = true) ∨ ((K == 43) = false ∧ (K == 45) = false ∧ (K == 42) = true) ∨ ((K == 43) = false ∧ (K == 45) = false ∧ (K == 42) = false ∧ (K == 47) = true)) ∧ 0 < Ex.prec K ∨ ((K == 43) = false ∧ (K == 45) = false ∧ (K == 42) = false ∧ (K == 47) = false) ∧ Ex.prec K = 0 := by
  rcases Ex.prec_cases K with ⟨_, rfl | rfl⟩ | ⟨_, rfl | rfl⟩ | ⟨h0, h1, h2, h3, h4⟩
  · left; simp [Ex.prec]
  · left; simp [Ex.prec]
  · left; simp [Ex.prec]
  · left; simp [Ex.prec]
  · right; exact ⟨⟨by simpa using h1, by simpa using h2, by simpa using h3, by simpa using h4⟩, h0⟩

set_option maxRecDepth 100000 in
set_option maxHeartbeats 4000000 in
theorem asyntax_any (a : Option Addr) (n cap : Nat) (rs : List (Int × Int)) (w : World) (ht : Toks w a n cap rs) (hok : TokOk rs) :
    Calls Ybtm.prog 4 #[.slice a n cap] w fun e w' => e = .returned (.bool true) ∧ Below w.heap.size w w' := by
  have hnc := ht.2.1
  have hcm := ht.2.2.1
  unfold maxLen at hcm
  have HL : Hid (rs.length = n) := ht.1
  have HT : Hid (Toks w a n cap rs) := ht
  have HO : Hid (TokOk rs) := hok
  clear ht hok
  by_cases hn : 1024 < n
  · go_enter Ybtm.func4, Ybtm.ntmps4
    go_wp2_with fail
    go_ret
    exact ⟨rfl, Below.refl _ _⟩
  have dn : decide ((1024 : Int) < (n : Int)) = false := decide_eq_false (by omega)
  go_enter Ybtm.func4, Ybtm.ntmps4
  go_wp2_with (first
    | (at_make; refine make_tok _ rfl _ _ rfl w.heap.size _ _ _ n rfl rfl (by omega) (by omega) (by omega) ?_; intro w1 hown1 hb1 hlt1))
  go_loopw [3, 5, 6, 21] (fun v _ _ i wr => ∃ (k : Nat) (ts : List (Int × Int)), k ≤ n ∧ i = .int .i64 k ∧ ts.length = k ∧ Hid (TokOk ts) ∧ OwnT wr w.heap.size v ts ∧ Below w.heap.size w wr) (fun _ _ _ i _ => n - (intOf i).toNat)
  case atStart => exact ⟨0, [], by omega, rfl, rfl, (fun t ht => by cases ht), hown1, hb1⟩
  case round =>
    clear hown1 hb1 hlt1
    obtain ⟨k, ts, hk, rfl, htl, HK, hown, hb⟩ := hrel
    have hB := hb.size
    by_cases hlt : k < n
    · obtain ⟨b, off, rfl, hc⟩ := (HT.out.below hb).2.2.2 (by omega)
      obtain ⟨c1, c2⟩ := hc k hlt
      obtain ⟨o1, o2, o3⟩ := HO.out.at k (by have := HL.out; omega)
      clear hc
      have hki : (k : Int) < (n : Int) := by omega
      by_cases h16 : Ex.kAt rs k < 16
      · have d16 : decide (Ex.kAt rs k < 16) = true := by simpa using h16
        by_cases h15 : Ex.kAt rs k = 15
        · have d15 : (Ex.kAt rs k == 15) = true := by simpa using h15
          have HK2 : Hid (TokOk (ts ++ [(40, Ex.vAt rs k)])) := tokOk_snoc HK.out (by omega) (by omega) o3
          clear h15 h16
          go_wp2_with (first | (at_builtin; go_must (refine app_tok _ rfl _ _ rfl w.heap.size _ ts rfl ((hown.alloc _).alloc _) _ 40 (Ex.vAt rs k) rfl (by simp) (by simp) (by omega) (by simp; omega) ?_; intro v' w2 hown2 hold2 hgr)))
          go_roundw
          case rel => exact ⟨k + 1, _, by omega, by go_num, by simp [htl], HK2, hown2, below_app hb hB hown.base hgr.after_alloc.after_alloc⟩
          case measure => simp [intOf]; omega
        · have d15 : (Ex.kAt rs k == 15) = false := by simpa using h15
          by_cases hev : Ex.kAt rs k % 2 = 0
          · have HK2 : Hid (TokOk (ts ++ [(48, Ex.vAt rs k)])) := tokOk_snoc HK.out (by omega) (by omega) o3
            clear h15 h16
            go_wp2_with (first | (at_builtin; go_must (refine app_tok _ rfl _ _ rfl w.heap.size _ ts rfl ((hown.alloc _).alloc _) _ 48 (Ex.vAt rs k) rfl (by simp) (by simp) (by omega) (by simp; omega) ?_; intro v' w2 hown2 hold2 hgr)))
            go_roundw
            case rel => exact ⟨k + 1, _, by omega, by go_num, by simp [htl], HK2, hown2, below_app hb hB hown.base hgr.after_alloc.after_alloc⟩
            case measure => simp [intOf]; omega
          · have dev : (Ex.kAt rs k % 2 == 0) = false := by simpa using hev
            obtain ⟨q, hq⟩ : ∃ q, IntKind.u8.wrap ((Ex.kAt rs k).tdiv 2) = q := ⟨_, rfl⟩
            have hq0 : 0 ≤ q ∧ q ≤ 255 := by rw [IntKind.wrap_u8] at hq; omega
            obtain ⟨hq1, hq2⟩ := hq0
            have HK2 : Hid (TokOk (ts ++ [(aopK q, Ex.vAt rs k)])) := tokOk_snoc HK.out (by rcases aopK_cases q with h | h | h | h <;> rw [h] <;> omega) (by rcases aopK_cases q with h | h | h | h <;> rw [h] <;> omega) o3
            clear h15 h16 hev
            go_wp2_with fail
            refine (aop_any _ _ (by omega) (by omega)).mono ?_
            rintro e w' ⟨rfl, hw⟩
            subst hw
            go_wp2_with (first | (at_builtin; go_must (refine app_tok _ rfl _ _ rfl w.heap.size _ ts rfl ((hown.alloc _).alloc _) _ (aopK q) (Ex.vAt rs k) rfl (by simp) (by simp) (by omega) (by simp; omega) ?_; intro v' w2 hown2 hold2 hgr)))
            go_roundw
            case rel => exact ⟨k + 1, _, by omega, by go_num, by simp [htl], HK2, hown2, below_app hb hB hown.base hgr.after_alloc.after_alloc⟩
            case measure => simp [intOf]; omega
      · have d16 : decide (Ex.kAt rs k < 16) = false := by simpa using h16
        have HK2 : Hid (TokOk (ts ++ [(Ex.kAt rs k, Ex.vAt rs k)])) := tokOk_snoc HK.out o1 o2 o3
        clear h16
        go_wp2_with (first | (at_builtin; go_must (refine app_tok _ rfl _ _ rfl w.heap.size _ ts rfl ((hown.alloc _).alloc _) _ (Ex.kAt rs k) (Ex.vAt rs k) rfl (by simp) (by simp) (by omega) (by simp; omega) ?_; intro v' w2 hown2 hold2 hgr)))
        go_roundw
        case rel => exact ⟨k + 1, _, by omega, by go_num, by simp [htl], HK2, hown2, below_app hb hB hown.base hgr.after_alloc.after_alloc⟩
        case measure => simp [intOf]; omega
    · have hkn : decide ((k : Int) < (n : Int)) = false := decide_eq_false (by omega)
      obtain ⟨aT, cT, rfl, hnT, hTT⟩ := hown.toks'
      obtain ⟨m, hm⟩ : ∃ m, ts.length = m := ⟨_, rfl⟩
      rw [hm] at hTT ⊢
      have hm' : m ≤ 1024 := by omega
      have hcT := hTT.2.2.1
      have hmc := hTT.2.1
      unfold maxLen at hcT
      have HTT : Hid (Toks wr aT m cT ts) := hTT
      have HM : Hid (ts.length = m) := hm
      have HBI : Hid (Back ts m 1 true) := by show Back _ _ _ _; rw [← hm]; exact back_init ts
      clear hTT htl hm hown
      go_wp2_with fail
      go_loopw [7, 8, 9, 10] (fun d g i _ wx => ∃ (q : Nat) (nd : Int) (gd : Bool), q ≤ m ∧ i = .int .i64 ((q : Int) - 1) ∧ d = .int .i64 nd ∧ g = .bool gd ∧ (q : Int) - m ≤ nd ∧ nd ≤ 1 + m - q ∧ Hid (Back ts q nd gd) ∧ wr = wx) (fun _ _ i _ _ => ((intOf i) + 1).toNat)
      case atStart => exact ⟨m, 1, true, by omega, rfl, rfl, rfl, by omega, by omega, HBI, rfl⟩
      case round =>
        clear HBI
        obtain ⟨q, nd, gd, hq, rfl, rfl, rfl, hn1, hn2, HBK, hw⟩ := hrel
        subst hw
        by_cases hq0 : q = 0
        · subst hq0
          have HV : Hid (Ex.vpB ts = (gd && nd == 0)) := back_end HBK.out
          obtain ⟨S, hS⟩ : ∃ S, Ex.evP ts = S := ⟨_, rfl⟩
          obtain ⟨V, C⟩ := S
          have HS : Hid (Ex.evP ts = (V, C)) := hS
          clear hS HBK
          by_cases hnd : nd = 0
          · have dnd : (nd != 0) = false := by simpa using hnd
            cases gd with
            | true =>
              have HC := evP_codes ts (HV.out.trans (by simp [hnd]))
              rw [HS.out] at HC
              clear hnd
              go_wp2_with fail
              refine (ev_any aT m cT ts V C _ HTT.out HK.out (by omega) HS.out).mono ?_
              rintro e w5 ⟨rfl, hb5⟩
              have hx := hb.trans (hb5.mono hb.size)
              by_cases hC0 : C = 0
              · have dC : (C == 0) = true := by simpa using hC0
                clear hC0 HC
                go_wp2_with fail
                go_ret
                exact ⟨rfl, hx⟩
              · have dC : (C == 0) = false := by simpa using hC0
                rcases HC with HC | ⟨rfl, rfl | rfl⟩
                · exact absurd HC hC0
                · clear hC0
                  go_wp2_with fail
                  go_ret
                  exact ⟨rfl, hx⟩
                · clear hC0
                  go_wp2_with fail
                  go_ret
                  exact ⟨rfl, hx⟩
            | false =>
              have HE : Hid (Ex.evP ts = (0, 2)) := by
                show _ = _
                unfold Ex.evP
                rw [if_neg (by rw [HV.out]; simp)]
              clear hnd
              go_wp2_with fail
              refine (ev_any aT m cT ts 0 2 _ HTT.out HK.out (by omega) HE.out).mono ?_
              rintro e w5 ⟨rfl, hb5⟩
              have hx := hb.trans (hb5.mono hb.size)
              go_wp2_with fail
              go_ret
              exact ⟨rfl, hx⟩
          · have dnd : (nd != 0) = true := by simpa using hnd
            have HE : Hid (Ex.evP ts = (0, 2)) := by
              show _ = _
              unfold Ex.evP
              rw [if_neg (by rw [HV.out]; simp [hnd])]
            clear hnd
            go_wp2_with fail
            refine (ev_any aT m cT ts 0 2 _ HTT.out HK.out (by omega) HE.out).mono ?_
            rintro e w5 ⟨rfl, hb5⟩
            have hx := hb.trans (hb5.mono hb.size)
            go_wp2_with fail
            go_ret
            exact ⟨rfl, hx⟩
        · obtain ⟨j, rfl⟩ : ∃ j, q = j + 1 := ⟨q - 1, by omega⟩
          obtain ⟨b, off, rfl, hc⟩ := HTT.out.2.2.2 (by omega)
          obtain ⟨c1, c2⟩ := hc j (by omega)
          have hjl : j < ts.length := by have := HM.out; omega
          have ej : ((j + 1 : Nat) : Int) - 1 = (j : Int) := by omega
          rw [ej]
          have hj0 : (0 : Int) ≤ (j : Int) := by omega
          have hjm : (j : Int) < (m : Int) := by omega
          have hlow : Hid (nd < 1 → Ex.vpB ts = false) := back_low HBK.out hjl
          have hbad : Hid (Ex.kAt ts j ≠ 48 → Ex.prec (Ex.kAt ts j) = 0 → Ex.vpB ts = false) := back_bad HBK.out hjl
          have hnum : Hid (1 ≤ nd → Ex.kAt ts j = 48 → Back ts j (nd - 1) gd) := back_num HBK.out hjl
          have hopp : Hid (1 ≤ nd → 0 < Ex.prec (Ex.kAt ts j) → Back ts j (nd + 1) gd) := back_op HBK.out hjl
          clear hc HBK hjl hq0
          by_cases h48 : Ex.kAt ts j = 48
          · have d48 : (Ex.kAt ts j == 48) = true := by simpa using h48
            by_cases hnd : nd < 1
            · have dn1 : decide (nd < 1) = true := by simpa using hnd
              have HB2 : Hid (Back ts j (nd - 1) false) := back_false (hlow.out hnd)
              clear h48 hnd
              go_wp2_with fail
              go_roundw
              case rel => exact ⟨j, nd - 1, false, by omega, by go_num, by go_num, rfl, by omega, by omega, HB2, by trivial⟩
              case measure => first | (simp [intOf]; done) | (simp [intOf]; omega)
            · have dn1 : decide (nd < 1) = false := by simpa using hnd
              have HB2 : Hid (Back ts j (nd - 1) gd) := hnum.out (by omega) h48
              clear h48 hnd
              go_wp2_with fail
              go_roundw
              case rel => exact ⟨j, nd - 1, gd, by omega, by go_num, by go_num, rfl, by omega, by omega, HB2, by trivial⟩
              case measure => first | (simp [intOf]; done) | (simp [intOf]; omega)
          · have d48 : (Ex.kAt ts j == 48) = false := by simpa using h48
            rcases op_split (Ex.kAt ts j) with ⟨hor, hp⟩ | ⟨⟨x1, x2, x3, x4⟩, hp⟩
            · by_cases hnd : nd < 1
              · have dn1 : decide (nd < 1) = true := by simpa using hnd
                have HB2 : Hid (Back ts j (nd + 1) false) := back_false (hlow.out hnd)
                clear h48 hnd hp
                rcases hor with x1 | ⟨x1, x2⟩ | ⟨x1, x2, x3⟩ | ⟨x1, x2, x3, x4⟩
                all_goals
                  go_wp2_with fail
                  go_roundw
                  case rel => exact ⟨j, nd + 1, false, by omega, by go_num, by go_num, rfl, by omega, by omega, HB2, by trivial⟩
                  case measure => first | (simp [intOf]; done) | (simp [intOf]; omega)
              · have dn1 : decide (nd < 1) = false := by simpa using hnd
                have HB2 : Hid (Back ts j (nd + 1) gd) := hopp.out (by omega) hp
                clear h48 hnd hp
                rcases hor with x1 | ⟨x1, x2⟩ | ⟨x1, x2, x3⟩ | ⟨x1, x2, x3, x4⟩
                all_goals
                  go_wp2_with fail
                  go_roundw
                  case rel => exact ⟨j, nd + 1, gd, by omega, by go_num, by go_num, rfl, by omega, by omega, HB2, by trivial⟩
                  case measure => first | (simp [intOf]; done) | (simp [intOf]; omega)
            · have HB2 : Hid (Back ts j nd false) := back_false (hbad.out h48 hp)
              clear h48 hp
              by_cases hnd : nd < 1
              · have dn1 : decide (nd < 1) = true := by simpa using hnd
                clear hnd
                go_wp2_with fail
                go_roundw
                case rel => exact ⟨j, nd, false, by omega, by go_num, rfl, rfl, by omega, by omega, HB2, by trivial⟩
                case measure => first | (simp [intOf]; done) | (simp [intOf]; omega)
              · have dn1 : decide (nd < 1) = false := by simpa using hnd
                clear hnd
                go_wp2_with fail
                go_roundw
                case rel => exact ⟨j, nd, false, by omega, by go_num, rfl, rfl, by omega, by omega, HB2, by trivial⟩
                case measure => first | (simp [intOf]; done) | (simp [intOf]; omega)
end Go.Proofs.Ymbrbt
