import Derived.Test.YmbrbuFdecWalk
import Derived.Test.YmbrbuGTail
import Derived.Test.YmbrbuOwnTok
import Derived.Deep.Cut
import Derived.Deep.CutRange
set_option linter.unusedVariables false
set_option linter.unusedSimpArgs false
set_option linter.unnecessarySimpa false
namespace Go.Proofs.Ymbrbu
open Go.RowKit

theorem dval_zeros (ds : List Int) : ∀ k, Ex.dval 0 (List.replicate k 48 ++ ds) = Ex.dval 0 ds
  | 0 => rfl
  | k + 1 => by
    rw [List.replicate_succ, List.cons_append]
    exact dval_zeros ds k
theorem set_take (L : List Int) (i : Nat) (x : Int) (h : i < L.length) : (L.set i x).take (i + 1) = L.take i ++ [x] := by
  rw [List.take_add_one, List.take_set_of_le (Nat.le_refl _)]
  simp [h]
abbrev Arr (g : Nat) (w : World) (L : List Int) : Prop := OwnI 48 .u8 w g (.slice (some ⟨g, 0, none⟩) 20 20) L
theorem rev_at (L : List Int) (c j : Nat) (hc : c ≤ L.length) (hj : j < c) : (L.take c).reverse.take (c - j) = (L.take c).reverse.take (c - (j + 1)) ++ [Ex.iAt L j] := by
  rw [show c - j = (c - (j + 1)) + 1 by omega, Ex.itake_at _ _ (by simp; omega)]
  congr 2
  simp [Ex.iAt, List.getD_eq_getElem?_getD]
  rw [List.getElem?_reverse (by simp; omega)]
  simp
  rw [List.getElem?_take_of_lt (by omega)]
  congr 2; omega

set_option maxRecDepth 100000 in
set_option maxHeartbeats 4000000 in
theorem groundtrip_any (n : Nat) (near : Bool) (z : Int) (pre post : ByteArray) (w : World) (hn : n ≤ 18446744073709551615) (hz0 : 0 ≤ z) (hz1 : z ≤ 255) (hs1 : pre.size ≤ maxLen) (hs2 : post.size ≤ maxLen) :
    Calls Ybum.prog 9 #[.int .u64 n, .bool near, .int .u8 z, .string pre, .string post] w fun e w' => e = .returned (.bool true) ∧ Below w.heap.size w w' := by
  unfold maxLen at hs1 hs2
  by_cases hb0 : 1024 < pre.size
  · go_enter Ybum.func9, Ybum.ntmps9
    go_wp2_with fail
    go_ret
    exact ⟨rfl, Below.refl _ _⟩
  have d0 : decide ((1024 : Int) < (pre.size : Int)) = false := by simp; omega
  by_cases hb1 : 1024 < post.size
  · go_enter Ybum.func9, Ybum.ntmps9
    go_wp2_with fail
    go_ret
    exact ⟨rfl, Below.refl _ _⟩
  have d1 : decide ((1024 : Int) < (post.size : Int)) = false := by simp; omega
  go_enter Ybum.func9, Ybum.ntmps9
  go_upto_if 31 with fail
  go_cut [11] from 22 to 34 (fun m wq => (∃ X : Nat, m = .int .u64 X ∧ X ≤ 18446744073709551615) ∧ w = wq)
  case first =>
    cases near
    · go_wp2_with fail
      go_meet
      case rel => exact ⟨⟨n, rfl, hn⟩, rfl⟩
    · go_wp2_with fail
      go_meet
      case rel => exact ⟨⟨9223372036854775800 + n % 16, by go_num, by omega⟩, rfl⟩
  case rest =>
    obtain ⟨⟨X, rfl, hX⟩, rfl⟩ := hcut
    clear d0 d1 hn
    go_wp2_with fail
    go_loopw [13, 14] (fun c r wr => ∃ (C M : Nat) (L : List Int), c = .int .i64 C ∧ r = .int .u64 M ∧ M ≤ 18446744073709551615 ∧ Hid (Ex.dg X = Ex.dg M ++ (L.take C).reverse) ∧ Hid (L.length = 20) ∧ Arr w.heap.size wr L ∧ Below w.heap.size w wr) (fun _ r _ => (intOf r).toNat)
    case atStart =>
      refine ⟨0, X, List.replicate 20 0, rfl, rfl, hX, ?_, rfl, ?_, (Below.refl _ _).alloc (Nat.le_refl _) _⟩
      · show _ = _
        simp
      · exact World.ownsRow_lit w _ 20 (Nat.le_refl _) (by unfold maxLen; omega) rfl
    case round =>
      obtain ⟨C, M, L, rfl, rfl, hM, HT, HL, harr, hb⟩ := hrel
      have hB := hb.size
      have hC : C < 20 := by
        have h1 := Ex.dg_len20 X
        rw [HT.out, List.length_append, List.length_reverse, List.length_take, HL.out] at h1
        have := Ex.dg_pos M
        omega
      have hC0 : (0 : Int) ≤ (C : Int) := by omega
      have hC1 : (C : Int) < 20 := by omega
      have HN : Hid (Ex.dg X = pd (M / 10) ++ ((L.set C (48 + (M : Int) % 10)).take (C + 1)).reverse) := by
        show _ = _
        rw [set_take _ _ _ (by have := HL.out; omega), HT.out, dg_pd M (by omega)]
        simp
      have HLN : Hid ((L.set C (48 + (M : Int) % 10)).length = 20) := by show _ = _; rw [List.length_set]; exact HL.out
      obtain ⟨ha2, hgr2⟩ := OwnI.set harr C (48 + (M : Int) % 10)
      have c1 := harr.cellsAt C (by have := HL.out; omega)
      have f1 := harr.frozenAt C
      have hb2 := below_setTok hb hgr2 hB (Nat.le_refl _)
      generalize hL2 : L.set C (48 + (M : Int) % 10) = L2 at ha2 HN HLN
      clear HT
      by_cases h0 : M / 10 = 0
      · have hq : ((M : Int) / 10 == 0) = true := by simp; omega
        have HE : Hid (Ex.dg X = (L2.take (C + 1)).reverse) := by
          show _ = _
          rw [HN.out, pd, if_pos h0]; rfl
        clear HN
        go_upto_region 14 with fail
        obtain ⟨Z, hZ⟩ : ∃ Z : Nat, z % 24 = (Z : Int) := ⟨(z % 24).toNat, by omega⟩
        have hZ24 : Z < 24 := by omega
        clear hq h0 hL2 c1 f1 hgr2 harr hb HL
        generalize wr.setCell ⟨w.heap.size, C, none⟩ (Value.int IntKind.u8 (48 + (M : Int) % 10)) = w1 at ha2 hb2 ⊢
        have hB1 := hb2.size
        have HPL : Hid ((sb pre).length = pre.size) := sb_len pre
        have HPB : Hid (∀ c ∈ sb pre, 0 ≤ c ∧ c ≤ 255) := sb_byte pre
        go_wp2_with (first
          | (at_make; refine make_int _ 22 5 .u8 1 Ybum.underlying22 Ybum.infoU8 (by omega) rfl _ (.tmp 58) rfl w1.heap.size _ _ _ _ 0 (pre.size + post.size + 50) rfl rfl rfl (by omega) (by omega) (by omega) (by omega) ?_; intro w3 hown3 hb3 hlt3)
          | (at_builtin; refine app_str _ rfl (.tmp 60) (.tmp 61) rfl w1.heap.size _ (List.replicate 0 0) rfl hown3 pre rfl (by simp; omega) (by omega) ?_; intro v4 w4 hown4 hold4 hgr4; have hb4 := below_app hb3 hb3.size hown3.baseLe hgr4; simp only [List.replicate_zero, List.nil_append] at hown4))
        clear hZ hown3 hold4 hgr4 hb3 hlt3
        go_loopw [16, 17] (fun u i wq => ∃ (j : Nat), j ≤ Z ∧ i = .int .i64 j ∧ OwnB wq w1.heap.size u (sb pre ++ List.replicate j 48) ∧ Below w1.heap.size w1 wq) (fun _ i _ => Z - (intOf i).toNat)
        case atStart => exact ⟨0, by omega, rfl, by simpa using hown4, hb4⟩
        case round =>
          obtain ⟨j, hj, rfl, hu, hbx⟩ := hrel
          clear hown4 hb4
          have hBx := hbx.size
          have hlk : (sb pre ++ List.replicate j (48 : Int)).length < 2000 := by
            have := HPL.out
            simp; omega
          by_cases hlt : j < Z
          · have hji : (j : Int) < (Z : Int) := by omega
            have HS : Hid (sb pre ++ List.replicate (j + 1) (48 : Int) = sb pre ++ List.replicate j 48 ++ [48]) := by
              show _ = _
              rw [List.replicate_succ', List.append_assoc]
            generalize sb pre ++ List.replicate j (48 : Int) = R at hu hlk HS
            go_wp2_with (first
              | (at_builtin; refine app_int _ 22 5 .u8 1 Ybum.underlying22 Ybum.infoU8 (by omega) rfl (.tmp 68) (.tmp 69) rfl w1.heap.size _ R rfl (hu.alloc _) _ 48 rfl (by simp) (by omega) (by simp; omega) ?_; intro u2 w2 hu2 huo2 hgr2))
            go_roundw
            case rel => exact ⟨j + 1, by omega, by go_num, by rw [HS.out]; exact hu2, below_app hbx hBx hu.baseLe hgr2.after_alloc⟩
            case measure => simp [intOf]; omega
          · have hjd : decide ((j : Int) < (Z : Int)) = false := decide_eq_false (by omega)
            obtain rfl : j = Z := by omega
            obtain ⟨Y, hY⟩ : ∃ Y, Y = sb pre ++ List.replicate j (48 : Int) := ⟨_, rfl⟩
            have HY : Hid (Y = sb pre ++ List.replicate j (48 : Int)) := hY
            rw [← hY] at hu hlk
            clear hY
            go_wp2_with fail
            go_loopw [16, 18] (fun u i wq => ∃ (q : Nat), q ≤ C + 1 ∧ i = .int .i64 ((q : Int) - 1) ∧ OwnB wq w1.heap.size u (Y ++ (L2.take (C + 1)).reverse.take (C + 1 - q)) ∧ Below w1.heap.size w1 wq) (fun _ i _ => (intOf i + 1).toNat)
            case atStart => exact ⟨C + 1, by omega, by go_num, by simpa using hu, hbx⟩
            case round =>
              obtain ⟨q, hq, rfl, hu3, hb3⟩ := hrel
              clear hu hbx hBx
              have hB3 := hb3.size
              rcases q with _ | p
              · rw [show (((0 : Nat) : Int) - 1) = -1 by omega]
                rw [Nat.sub_zero, List.take_of_length_le (by simp; omega), ← HE.out] at hu3
                obtain ⟨Y2, hY2⟩ : ∃ Y2, Y2 = Y ++ Ex.dg X := ⟨_, rfl⟩
                rw [← hY2] at hu3
                have hl2 : Y2.length < 3000 := by
                  have := Ex.dg_len20 X
                  rw [hY2, List.length_append]; omega
                have HY2 : Hid (Y2 = sb pre ++ (List.replicate j (48 : Int) ++ Ex.dg X)) := by
                  show _ = _
                  rw [hY2, HY.out, List.append_assoc]
                have HLX : Hid ((List.replicate j (48 : Int) ++ Ex.dg X).length = j + (C + 1)) := by
                  show _ = _
                  rw [HE.out]
                  have := HLN.out
                  simp; omega
                clear hY2 HE HY
                go_wp2_with fail
                refine (gtail_any w1.heap.size _ Y2 post _ hu3 (by omega) (by omega) (by omega)).mono ?_
                rintro e w6 ⟨v6, T, rfl, hown6, hgr6, hT1, hT2, hT3⟩
                have hb6 := below_app hb3 hb3.size hu3.baseLe hgr6
                have hbw : Below w.heap.size w w6 := hb2.trans (hb6.mono hB1)
                obtain ⟨a6, c6, rfl, _, _⟩ := hown6.shape
                have HRD : Hid (∀ c ∈ List.replicate j (48 : Int) ++ Ex.dg X, 48 ≤ c ∧ c ≤ 57) := fun c hc => by
                  rcases List.mem_append.1 hc with h | h
                  · rw [(List.mem_replicate.1 h).2]; omega
                  · exact Ex.dg_dig X c h
                obtain ⟨sx, hcx, hsx, hsxz⟩ := conv_own hown6 (fun c hc => by
                  rw [HY2.out] at hc
                  rcases List.mem_append.1 hc with h | h
                  · rcases List.mem_append.1 h with h | h
                    · exact HPB.out c h
                    · have := HRD.out c h; omega
                  · exact hT3 c h)
                have HRUN : Hid (Ex.runAt (sb sx) pre.size = List.replicate j (48 : Int) ++ Ex.dg X) := by
                  show _ = _
                  rw [hsx, HY2.out, ← HPL.out]
                  exact Ex.run_mid (sb pre) _ T HRD.out hT1
                have HXZ : Hid (sx.size ≤ maxLen) := by show _ ≤ _; rw [hsxz]; unfold maxLen; rw [List.length_append]; omega
                have HV : Hid (Ex.dval 0 (List.replicate j (48 : Int) ++ Ex.dg X) = X) := by
                  show _ = _
                  rw [dval_zeros, Ex.dval_dg X (by omega)]
                generalize hZZ : (Y2 ++ T).length = m6 at hcx hown6 ⊢
                clear hZZ hown6 hgr6 hT1 hT2 hT3 hsx hsxz hb6 HY2 hu3 hb3
                go_wp2_with fail
                refine (scan_any sx pre.size _ HXZ.out (by omega)).mono ?_
                rintro e w7 ⟨rfl, hw⟩
                subst hw
                clear hcx
                by_cases hVb : X ≤ 9223372036854775807
                · obtain ⟨s1, s2, s3⟩ := Ex.scan_fits (bs := sb sx) (k := pre.size) (by rw [HRUN.out, HV.out]; exact hVb)
                  rw [HRUN.out, HV.out] at s1
                  rw [HRUN.out, HLX.out] at s2 s3
                  rw [s1, s2, s3]
                  have hdn : decide (0 < j + (C + 1)) = true := by simp; omega
                  rw [hdn]
                  have dX : decide ((9223372036854775807 : Int) < (X : Int)) = false := decide_eq_false (by omega)
                  clear s1 s2 s3 hdn
                  go_wp2_with fail
                  go_ret
                  exact ⟨rfl, hbw⟩
                · obtain ⟨s1, s2, s3⟩ := Ex.scan_over (bs := sb sx) (k := pre.size) (by rw [HRUN.out, HV.out]; exact hVb)
                  rw [s1, s2, s3]
                  have dX : (9223372036854775807 : Int) < (X : Int) := by omega
                  clear s1 s2 s3
                  go_wp2_with fail
                  go_ret
                  exact ⟨rfl, hbw⟩
              · rw [show (((p + 1 : Nat) : Int) - 1) = (p : Int) by omega]
                have c1 := (ha2.below hb3).cellsAt p (by have := HLN.out; omega)
                have hp0 : (0 : Int) ≤ (p : Int) := by omega
                have hp1 : (p : Int) < 20 := by omega
                have HS : Hid (Y ++ (L2.take (C + 1)).reverse.take (C + 1 - p) = Y ++ (L2.take (C + 1)).reverse.take (C + 1 - (p + 1)) ++ [Ex.iAt L2 p]) := by
                  show _ = _
                  rw [rev_at L2 (C + 1) p (by have := HLN.out; omega) (by omega), List.append_assoc]
                have hlk3 : (Y ++ (L2.take (C + 1)).reverse.take (C + 1 - (p + 1))).length < 3000 := by
                  rw [List.length_append, List.length_take, List.length_reverse, List.length_take]; omega
                generalize Y ++ (L2.take (C + 1)).reverse.take (C + 1 - (p + 1)) = R at hu3 hlk3 HS
                go_wp2_with (first
                  | (at_builtin; refine app_int _ 22 5 .u8 1 Ybum.underlying22 Ybum.infoU8 (by omega) rfl (.tmp 77) (.tmp 81) rfl w1.heap.size _ R rfl (hu3.alloc _) _ (Ex.iAt L2 p) rfl (by simp) (by omega) (by simp; omega) ?_; intro u5 w5 hu5 huo5 hgr5))
                go_roundw
                case rel => exact ⟨p, by omega, by go_num, by rw [HS.out]; exact hu5, below_app hb3 hB3 hu3.baseLe hgr5.after_alloc⟩
                case measure => first | (simp [intOf]; done) | (simp [intOf]; omega)
      · have hq : ((M : Int) / 10 == 0) = false := by simp; omega
        have HN2 : Hid (Ex.dg X = Ex.dg (M / 10) ++ (L2.take (C + 1)).reverse) := by
          show _ = _
          rw [HN.out, pd, if_neg h0]
        clear HN
        go_wp2_with fail
        go_roundw
        case rel => exact ⟨C + 1, M / 10, L2, by go_num, by go_num, by omega, HN2, HLN, ha2, hb2⟩
        case measure => simp [intOf]; omega
end Go.Proofs.Ymbrbu
