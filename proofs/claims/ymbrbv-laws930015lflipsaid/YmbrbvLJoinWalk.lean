import Derived.Test.YmbrbvLBuildWalk
import Derived.Deep.Cut
set_option linter.unusedVariables false
set_option linter.unusedSimpArgs false
set_option linter.unnecessarySimpa false
namespace Go.Proofs.Ymbrbv
open Go.RowKit

theorem join_ab {a b : List (Int × Int)} (ha : Ex.vrun 0 a = some 1) (hb : Ex.vrun 0 b = some 1) : Ex.vrun 0 (a ++ b) = some 2 := by
  rw [Ex.vrun_append, ha]; exact Ex.vrun_shift b 0 1 1 hb
theorem join_1 {a b : List (Int × Int)} (ha : Ex.vrun 0 a = some 1) (hb : Ex.vrun 0 b = some 1) : Ex.vpB (a ++ b) = false := Ex.vpB_of_not (by rw [join_ab ha hb]; simp)
theorem join_2 {a b : List (Int × Int)} {k v : Int} (ha : Ex.vrun 0 a = some 1) (hb : Ex.vrun 0 b = some 1) (hk : 0 < Ex.prec k) : Ex.vpB (a ++ b ++ [(k, v)]) = true := Ex.vpB_iff.2 (Ex.vrun_snoc_op (join_ab ha hb) hk (by omega))
theorem join_3 {a : List (Int × Int)} {k v : Int} (ha : Ex.vrun 0 a = some 1) (hk : 0 < Ex.prec k) : Ex.vrun 0 (a ++ [(k, v)]) = none := by
  have h48 : k ≠ 48 := by rintro rfl; simp [Ex.prec] at hk
  rw [Ex.vrun_append, ha]; simp [Ex.vrun, h48]
theorem join_3' {a : List (Int × Int)} {k v : Int} (ha : Ex.vrun 0 a = some 1) (hk : 0 < Ex.prec k) : Ex.vpB (a ++ [(k, v)]) = false := Ex.vpB_of_not (by rw [join_3 ha hk]; simp)
theorem join_4 {a b : List (Int × Int)} {k v : Int} (ha : Ex.vrun 0 a = some 1) (hk : 0 < Ex.prec k) : Ex.vpB (a ++ [(k, v)] ++ b) = false := Ex.vpB_of_not (by rw [Ex.vrun_append, join_3 ha hk]; simp)

theorem vp_true (a : Option Addr) (n cap : Nat) (ts : List (Int × Int)) (w : World) (ht : Toks w a n cap ts) (h : Ex.vpB ts = true) :
    Calls Ybvm.prog 21 #[.slice a n cap] w fun e w' => e = .returned (.bool true) ∧ Below w.heap.size w w' := by
  have := vp_any a n cap ts w ht; rw [h] at this; exact this
theorem vp_false (a : Option Addr) (n cap : Nat) (ts : List (Int × Int)) (w : World) (ht : Toks w a n cap ts) (h : Ex.vpB ts = false) :
    Calls Ybvm.prog 21 #[.slice a n cap] w fun e w' => e = .returned (.bool false) ∧ Below w.heap.size w w' := by
  have := vp_any a n cap ts w ht; rw [h] at this; exact this

set_option maxHeartbeats 2000000 in
theorem ljoin_any (a0 a1 : Option Addr) (n0 n1 cap0 cap1 : Nat) (z0 z1 : List Int) (op : Int) (w : World) (ht0 : Ints .u8 w a0 n0 cap0 z0) (hz0 : ∀ x ∈ z0, 0 ≤ x ∧ x ≤ 255)
    (ht1 : Ints .u8 w a1 n1 cap1 z1) (hz1 : ∀ x ∈ z1, 0 ≤ x ∧ x ≤ 255) (ho : 0 ≤ op) (ho2 : op ≤ 255) :
    Calls Ybvm.prog 12 #[.slice a0 n0 cap0, .slice a1 n1 cap1, .int .u8 op] w fun e w' => e = .returned (.bool true) ∧ Below w.heap.size w w' := by
  have hcm0 := ht0.2.2.1
  have hcm1 := ht1.2.2.1
  have hnc0 := ht0.2.1
  have hnc1 := ht1.2.1
  unfold maxLen at hcm0 hcm1
  by_cases hbig0 : 1024 < n0
  · clear ht0 ht1 hz0 hz1
    go_enter Ybvm.func12, Ybvm.ntmps12
    go_wp2_with fail
    go_ret
    exact ⟨rfl, Below.refl _ _⟩
  have d0 : decide ((1024 : Int) < (n0 : Int)) = false := by simp; omega
  by_cases hbig1 : 1024 < n1
  · clear ht0 ht1 hz0 hz1
    go_enter Ybvm.func12, Ybvm.ntmps12
    go_wp2_with fail
    go_ret
    exact ⟨rfl, Below.refl _ _⟩
  have d1 : decide ((1024 : Int) < (n1 : Int)) = false := by simp; omega
  have T0 : Hid (Ints .u8 w a0 n0 cap0 z0) := ht0
  have T1 : Hid (Ints .u8 w a1 n1 cap1 z1) := ht1
  have Z0 : Hid (∀ x ∈ z0, 0 ≤ x ∧ x ≤ 255) := hz0
  have Z1 : Hid (∀ x ∈ z1, 0 ≤ x ∧ x ≤ 255) := hz1
  clear ht0 ht1 hz0 hz1
  go_enter Ybvm.func12, Ybvm.ntmps12
  go_wp2_with fail
  refine (lbuild_any _ _ _ z0 _ T0.out Z0.out (by omega)).mono ?_
  rintro e w1 ⟨v1, ts1, rfl, hown1, hv1, hl1, hp1, hb1⟩
  obtain ⟨b0, c0, rfl, hn0, hT0⟩ := hown1.toks'
  have V1 : Hid (Ex.vrun 0 ts1 = some 1) := hv1
  have HT0 : Hid (Toks w1 b0 ts1.length c0 ts1) := hT0
  have hc0 := hT0.2.2.1
  unfold maxLen at hc0
  clear hown1 hv1 hT0
  go_wp2_with fail
  refine (lbuild_any _ _ _ z1 _ (T1.out.below hb1) Z1.out (by omega)).mono ?_
  rintro e w2 ⟨v2, ts2, rfl, hown2, hv2, hl2, hp2, hb2⟩
  obtain ⟨b1, c1, rfl, hn1, hT1⟩ := hown2.toks'
  have V2 : Hid (Ex.vrun 0 ts2 = some 1) := hv2
  have HT1 : Hid (Toks w2 b1 ts2.length c1 ts2) := hT1
  have HT0' : Hid (Toks w2 b0 ts1.length c0 ts1) := HT0.out.below hb2
  have hbw : Below w.heap.size w w2 := hb1.trans (hb2.mono hb1.size)
  clear hown2 hv2 hT1 HT0 hb1 hb2 T0 T1 Z0 Z1
  have hix := l4_index op
  go_upto_region 6 with fail
  obtain ⟨W3, hW3⟩ : ∃ W, W = w2.alloc (.cells #[.int .u8 (l4 op), .int .i64 0] 25) := ⟨_, rfl⟩
  rw [← hW3]
  have q0 : W3.cell? ⟨w2.heap.size, 0, none⟩ = some (.int .u8 (l4 op)) := by rw [hW3]; simp
  have q1 : W3.cell? ⟨w2.heap.size, 1, none⟩ = some (.int .i64 0) := by rw [hW3]; simp
  have hbx : Below w2.heap.size w2 W3 := by rw [hW3]; exact (Below.refl _ _).alloc (Nat.le_refl _) _
  have hbw3 : Below w.heap.size w W3 := hbw.trans (hbx.mono hbw.size)
  have U0 : Hid (Toks W3 b0 ts1.length c0 ts1) := HT0'.out.below hbx
  have U1 : Hid (Toks W3 b1 ts2.length c1 ts2) := HT1.out.below hbx
  have hg3 : w2.heap.size < W3.heap.size := by rw [hW3]; simp
  obtain ⟨g0, hg0⟩ : ∃ g, g = w2.heap.size := ⟨_, rfl⟩
  rw [← hg0] at q0 q1 hg3 ⊢
  clear hW3 hbx HT0' HT1 hbw hix hg0
  have hP := l4_prec op
  obtain ⟨kk, hkk⟩ : ∃ kk, kk = l4 op := ⟨_, rfl⟩
  rw [← hkk] at q0 hP ⊢
  clear hkk
  go_wp2_with (first
    | (at_make; refine make_tok _ rfl _ (.tmp 33) rfl W3.heap.size _ _ _ (ts1.length + ts2.length + 1) rfl rfl (by omega) (by omega) (by omega) ?_; intro w4 hown4 hb4 hlt4)
    | (at_builtin; refine app_toks _ rfl (.tmp 35) (.tmp 36) rfl W3.heap.size _ [] rfl hown4 _ _ _ ts1 rfl hn0 (U0.out.below hb4) (by simp; omega) (by omega) ?_; intro v5 w5 hown5 hold5 hgr5; have hb5 := below_app hb4 hb4.size hown4.base hgr5; have hs5 := hb5.size)
    | (at_builtin; refine app_toks _ rfl (.tmp 38) (.tmp 39) rfl W3.heap.size _ ([] ++ ts1) rfl hown5 _ _ _ ts2 rfl hn1 (U1.out.below hb5) (by simp; omega) (by omega) ?_; intro v6 w6 hown6 hold6 hgr6; have hb6 := below_app hb5 hb5.size hown5.base hgr6; have hs6 := hb6.size; simp only [List.nil_append] at hown6; obtain ⟨b6, c6, rfl, hn6, hT6⟩ := hown6.toks'; simp only [List.length_append] at hT6))
  clear hown4 hown5 hold5 hold6 hgr5 hgr6 hb4 hb5 hlt4 hs5
  refine (vp_false _ _ _ (ts1 ++ ts2) _ hT6 (join_1 V1.out V2.out)).mono ?_
  rintro e w7 ⟨rfl, hx7⟩
  have hb7 : Below W3.heap.size W3 w7 := hb6.trans (hx7.mono hb6.size)
  have hown7 := hown6.below hx7
  clear hown6 hT6 hx7 hb6 hs6
  have r0 := (hb7.cell (p := ⟨g0, 0, none⟩) hg3).trans q0
  have r1 := (hb7.cell (p := ⟨g0, 1, none⟩) hg3).trans q1
  have hs7 := hb7.size
  go_wp2_with (first
    | (at_builtin; refine app_tok _ rfl (.tmp 43) (.tmp 45) rfl W3.heap.size _ (ts1 ++ ts2) (by simp [Act.eval]) (hown7.alloc _) _ kk 0 rfl (by simp) (by simp) (by simp; omega) (by simp; omega) ?_; intro v8 w8 hown8 hold8 hgr8; have hb8 := below_app hb7 hb7.size hown7.base hgr8.after_alloc; generalize hL8 : ts1 ++ ts2 ++ [(kk, 0)] = L8 at hown8; have HL8 : Hid (ts1 ++ ts2 ++ [(kk, 0)] = L8) := hL8; clear hL8; obtain ⟨b8, c8, rfl, hn8, hT8⟩ := hown8.toks'))
  refine (vp_true _ _ _ L8 _ hT8 (by rw [← HL8.out]; exact join_2 V1.out V2.out hP)).mono ?_
  rintro e w9 ⟨rfl, hx9⟩
  have hb9 : Below W3.heap.size W3 w9 := hb8.trans (hx9.mono hb8.size)
  clear hown7 hown8 hold8 hT8 hx9 hb8 hgr8 hb7 r0 r1 hs7
  have hs9 := hb9.size
  have U0' : Hid (Toks w9 b0 ts1.length c0 ts1) := U0.out.below hb9
  have U1' : Hid (Toks w9 b1 ts2.length c1 ts2) := U1.out.below hb9
  have r0 := (hb9.cell (p := ⟨g0, 0, none⟩) hg3).trans q0
  have r1 := (hb9.cell (p := ⟨g0, 1, none⟩) hg3).trans q1
  have hbw9 : Below w.heap.size w w9 := hbw3.trans (hb9.mono hbw3.size)
  have hg9 : g0 < w9.heap.size := by omega
  clear U0 U1 hb9 q0 q1 hbw3 hs9 hg3
  go_wp2_with (first
    | (at_make; refine make_tok _ rfl _ (.tmp 55) rfl w9.heap.size _ _ _ (ts1.length + ts2.length + 1) rfl rfl (by omega) (by omega) (by omega) ?_; intro w10 hown10 hb10 hlt10)
    | (at_builtin; refine app_toks _ rfl (.tmp 57) (.tmp 58) rfl w9.heap.size _ [] rfl hown10 _ _ _ ts1 rfl hn0 (U0'.out.below hb10) (by simp; omega) (by omega) ?_; intro v11 w11 hown11 hold11 hgr11; have hb11 := below_app hb10 hb10.size hown10.base hgr11; have hs11 := hb11.size; simp only [List.nil_append] at hown11; have t0 := (hb11.cell (p := ⟨g0, 0, none⟩) hg9).trans r0; have t1 := (hb11.cell (p := ⟨g0, 1, none⟩) hg9).trans r1)
    | (at_builtin; refine app_tok _ rfl (.tmp 60) (.tmp 62) rfl w9.heap.size _ ts1 rfl (hown11.alloc _) _ kk 0 rfl (by simp) (by simp) (by omega) (by simp; omega) ?_; intro v12 w12 hown12 hold12 hgr12; have hb12 := below_app hb11 hb11.size hown11.base hgr12.after_alloc; generalize hL12 : ts1 ++ [(kk, 0)] = L12 at hown12; have HL12 : Hid (ts1 ++ [(kk, 0)] = L12) := hL12; have hl12 : L12.length < 10000 := (by rw [← hL12]; simp; omega); clear hL12; obtain ⟨b12, c12, rfl, hn12, hT12⟩ := hown12.toks'))
  refine (vp_false _ _ _ L12 _ hT12 (by rw [← HL12.out]; exact join_3' V1.out hP)).mono ?_
  rintro e w13 ⟨rfl, hx13⟩
  have hb13 : Below w9.heap.size w9 w13 := hb12.trans (hx13.mono hb12.size)
  have hown13 := hown12.below hx13
  have hs13 := hb13.size
  clear hown10 hown11 hold11 hold12 hgr11 hgr12 hb10 hb11 hb12 hx13 hT12 hown12 r0 r1 t0 t1 hlt10 hs11
  go_wp2_with (first
    | (at_builtin; refine app_toks _ rfl (.tmp 66) (.tmp 67) rfl w9.heap.size _ L12 rfl hown13 _ _ _ ts2 rfl hn1 (U1'.out.below hb13) (by omega) (by omega) ?_; intro v14 w14 hown14 hold14 hgr14; have hb14 := below_app hb13 hb13.size hown13.base hgr14; generalize hL14 : L12 ++ ts2 = L14 at hown14; have HL14 : Hid (L12 ++ ts2 = L14) := hL14; clear hL14; obtain ⟨b14, c14, rfl, hn14, hT14⟩ := hown14.toks'))
  refine (vp_false _ _ _ L14 _ hT14 (by rw [← HL14.out, ← HL12.out]; exact join_4 V1.out hP)).mono ?_
  rintro e w15 ⟨rfl, hx15⟩
  go_wp2_with fail
  go_ret
  exact ⟨rfl, (hbw9.trans (hb14.mono hbw9.size)).trans (hx15.mono (by have := hbw9.size; have := hb14.size; omega))⟩
end Go.Proofs.Ymbrbv
