import Derived.Test.YmbrbuNatWalk
import Derived.Deep.Cut
set_option linter.unusedVariables false
set_option linter.unusedSimpArgs false
set_option linter.unnecessarySimpa false
namespace Go.Proofs.Ymbrbu
open Go.RowKit

/-- the digits gathered, and the number, after one more -/
def edS (W : List Int) (d : Int) : List Int := if d = 0 ∧ W = [] then [] else W ++ [48 + d]

theorem edS_val {W : List Int} {d : Int} (hd : 0 ≤ d) : Ex.dval 0 (edS W d) = Ex.dval 0 W * 10 + d.toNat := by
  unfold edS
  split
  · rename_i h; obtain ⟨h1, h2⟩ := h; subst h1 h2; simp [Ex.dval]
  · rw [Ex.dval_append]
    simp only [Ex.dval]
    congr 2; omega
theorem edS_ok {W : List Int} {d : Int} (hd : 0 ≤ d) (hd2 : d < 10) (hW : (∀ c ∈ W, 48 ≤ c ∧ c ≤ 57) ∧ (W ≠ [] → Ex.iAt W 0 ≠ 48)) : (∀ c ∈ edS W d, 48 ≤ c ∧ c ≤ 57) ∧ (edS W d ≠ [] → Ex.iAt (edS W d) 0 ≠ 48) := by
  unfold edS
  split
  · exact ⟨fun c h => (by cases h), fun h => absurd rfl h⟩
  · rename_i hn
    refine ⟨fun c hc => ?_, fun _ => ?_⟩
    · rcases List.mem_append.1 hc with h | h
      · exact hW.1 c h
      · simp at h; omega
    · cases W with
      | nil =>
        simp [Ex.iAt]
        intro h
        exact hn ⟨by omega, rfl⟩
      | cons c cs => exact hW.2 (by simp)
theorem edS_len (W : List Int) (d : Int) : (edS W d).length ≤ W.length + 1 := by unfold edS; split <;> simp

set_option maxRecDepth 100000 in
set_option maxHeartbeats 4000000 in
theorem edigits_any (a0 a1 : Option Addr) (n m cap0 cap1 : Nat) (zs ds : List Int) (w : World) (ht0 : Ints .u8 w a0 n cap0 zs) (hzb : ∀ c ∈ zs, 0 ≤ c ∧ c ≤ 255) (ht1 : Ints .u8 w a1 m cap1 ds) (hdb : ∀ c ∈ ds, 0 ≤ c ∧ c ≤ 255) :
    Calls Ybum.prog 3 #[.slice a0 n cap0, .slice a1 m cap1] w fun e w' => e = .returned (.bool true) ∧ Below w.heap.size w w' := by
  have hnc := ht0.2.1
  have hcm := ht0.2.2.1
  have hmc := ht1.2.1
  have hcm1 := ht1.2.2.1
  unfold maxLen at hcm hcm1
  have T0 : Hid (Ints .u8 w a0 n cap0 zs) := ht0
  have T1 : Hid (Ints .u8 w a1 m cap1 ds) := ht1
  have DB : Hid (∀ c ∈ ds, 0 ≤ c ∧ c ≤ 255) := hdb
  clear ht0 ht1 hzb hdb
  by_cases hbig : 1024 < n
  · go_enter Ybum.func3, Ybum.ntmps3
    go_wp2_with fail
    go_ret
    exact ⟨rfl, Below.refl _ _⟩
  have d0 : decide ((1024 : Int) < (n : Int)) = false := by simp; omega
  go_enter Ybum.func3, Ybum.ntmps3
  go_wp2_with (first
    | (at_make; refine make_int _ 22 5 .u8 1 Ybum.underlying22 Ybum.infoU8 (by omega) rfl _ (.tmp 18) rfl w.heap.size _ _ _ _ 0 (n + 19) rfl rfl rfl (by omega) (by omega) (by omega) (by omega) ?_; intro w1 hown1 hb1 hlt1)
    | (at_make; refine make_int _ 22 5 .u8 1 Ybum.underlying22 Ybum.infoU8 (by omega) rfl _ (.tmp 21) rfl w.heap.size _ _ _ _ 0 n rfl rfl rfl (by omega) (by omega) (by omega) (by omega) ?_; intro w2 hown2 hb2 hlt2))
  have hown1' := hown1.below hb2
  have hb2' : Below w.heap.size w w2 := hb1.trans (hb2.mono hb1.size)
  have hap : Apart (.slice (some ⟨w1.heap.size, 0, none⟩) 0 n) (.slice (some ⟨w.heap.size, 0, none⟩) 0 (n + 19)) := .inr (by simp [Value.ownBlock]; omega)
  clear hown1 hb1 hb2 hlt2
  go_loopw [5, 6, 7] (fun u v i wr => ∃ (k : Nat), k ≤ n ∧ i = .int .i64 k ∧ OwnB wr w.heap.size u (zs.take k) ∧ OwnB wr w.heap.size v (zs.take k) ∧ Apart v u ∧ Below w.heap.size w wr) (fun _ _ i _ => n - (intOf i).toNat)
  case atStart => exact ⟨0, by omega, rfl, by simpa using hown1', by simpa using hown2, hap, hb2'⟩
  case round =>
    obtain ⟨k, hk, rfl, hu, hv, hap, hb⟩ := hrel
    clear hown1' hown2 hb2'
    have hB := hb.size
    have hzl := T0.out.1
    by_cases hlt : k < n
    · obtain ⟨b, off, rfl, hc⟩ := (T0.out.below hb).2.2.2 (by omega)
      have c1 := hc k hlt
      have hlk : (zs.take k).length = k := by rw [List.length_take]; omega
      have HS : Hid (zs.take (k + 1) = zs.take k ++ [Ex.iAt zs k]) := Ex.itake_at zs k (by omega)
      have hbb := World.block_lt_of_cell? wr _ c1
      clear hc hzl
      have hbw : b < w.heap.size := by
        obtain ⟨b', off', e, hc'⟩ := T0.out.2.2.2 (by omega)
        cases e
        exact World.block_lt_of_cell? w _ (hc' k hlt)
      go_wp2_with (first
        | (at_builtin; refine app_int _ 22 5 .u8 1 Ybum.underlying22 Ybum.infoU8 (by omega) rfl (.tmp 29) (.tmp 34) rfl w.heap.size _ (zs.take k) rfl (hu.alloc _) _ (Ex.iAt zs k) rfl (by simp) (by omega) (by simp; omega) ?_; intro u2 w2 hu2 huo hgr2; have hb2 := below_app hb hB hu.baseLe hgr2.after_alloc; have c2 : w2.cell? ⟨b, off + k, none⟩ = some (.int .u8 (Ex.iAt zs k)) := (hb2.cell hbw).trans ((hb.cell hbw).symm.trans c1); have hv2 := OwnI.keeps hv hgr2.after_alloc hap; have hap2 : Apart _ u2 := hgr2.after_alloc.apart' hv hap; have hs2 := hb2.size)
        | (at_builtin; refine app_int _ 22 5 .u8 1 Ybum.underlying22 Ybum.infoU8 (by omega) rfl (.tmp 36) (.tmp 41) rfl w.heap.size _ (zs.take k) rfl (hv2.alloc _) _ (Ex.iAt zs k) rfl (by simp) (by omega) (by simp; omega) ?_; intro v3 w3 hv3 hvo hgr3))
      have hu3 := OwnI.keeps hu2 hgr3.after_alloc hap2.symm
      have hap3 : Apart v3 u2 := (hgr3.after_alloc.apart' hu2 hap2.symm).symm
      go_roundw
      case rel => exact ⟨k + 1, by omega, by go_num, by rw [HS.out]; exact hu3, by rw [HS.out]; exact hv3, hap3, below_app hb2 hs2 hv2.baseLe hgr3.after_alloc⟩
      case measure => simp [intOf]; omega
    · have hkn : k = n := by omega
      have hkd : decide ((k : Int) < (n : Int)) = false := by simp; omega
      rw [hkn, List.take_of_length_le (by omega)] at hu hv
      have HZ : Hid (zs.length = n) := hzl
      clear hkn hzl
      obtain ⟨au, cu, rfl, _, _⟩ := hu.shape
      rw [HZ.out] at hu hap ⊢
      generalize u6 = v at hv hap ⊢
      go_wp2_with fail
      go_loopw [5, 8, 9, 10] (fun u x i _ wr => ∃ (j V : Nat) (W : List Int) (au : Option Addr) (cu : Nat), j ≤ 18 ∧ j ≤ m ∧ i = .int .i64 j ∧ x = .int .i64 V ∧ W.length ≤ j ∧ V < 1000000000000000000 ∧ Hid (Ex.dval 0 W = V) ∧
        Hid ((∀ c ∈ W, 48 ≤ c ∧ c ≤ 57) ∧ (W ≠ [] → Ex.iAt W 0 ≠ 48)) ∧ u = .slice au (n + W.length) cu ∧ OwnB wr w.heap.size (.slice au (n + W.length) cu) (zs ++ W) ∧ OwnB wr w.heap.size v zs ∧ Apart v (.slice au (n + W.length) cu) ∧ Below w.heap.size w wr) (fun _ _ i _ _ => 18 - (intOf i).toNat)
      case atStart => exact ⟨0, 0, [], au, cu, by omega, by omega, rfl, rfl, by simp, by omega, rfl, ⟨fun c h => (by cases h), fun h => absurd rfl h⟩, rfl, by simpa using hu, hv, by simpa using hap, hb⟩
      case round =>
        clear hu hv hap hb hB
        obtain ⟨j, V, W, au, cu, hj1, hj2, rfl, rfl, hWl, hVb, HV, HWO, rfl, hu, hv, hap, hb⟩ := hrel
        have hB := hb.size
        have hcu := hu.len
        unfold maxLen at hcu
        obtain ⟨_, hcu1, hcu2⟩ := hcu
        by_cases hjm : j < m
        · by_cases hj18 : j < 18
          · obtain ⟨b, off, rfl, hc⟩ := (T1.out.below hb).2.2.2 (by omega)
            have c1 := hc j hjm
            have hdl := T1.out.1
            obtain ⟨e1, e2⟩ := DB.out _ (Ex.iAt_mem ds j (by omega))
            have hVb2 : V < 100000000000000000 := by
              have h1 := Ex.dval_lt W HWO.out.1 0
              rw [HV.out] at h1
              have h2 : 10 ^ W.length ≤ 10 ^ 17 := Nat.pow_le_pow_right (by omega) (by omega)
              omega
            have HV2 : Hid (Ex.dval 0 (edS W (Ex.iAt ds j % 10)) = V * 10 + (Ex.iAt ds j % 10).toNat) := by
              show _ = _
              rw [edS_val (by omega), HV.out]
            have HWO2 : Hid ((∀ c ∈ edS W (Ex.iAt ds j % 10), 48 ≤ c ∧ c ≤ 57) ∧ (edS W (Ex.iAt ds j % 10) ≠ [] → Ex.iAt (edS W (Ex.iAt ds j % 10)) 0 ≠ 48)) := edS_ok (by omega) (by omega) HWO.out
            clear hc hdl
            by_cases hap0 : Ex.iAt ds j % 10 = 0 ∧ W = []
            · obtain ⟨h0, hW⟩ := hap0
              have hE : edS W (Ex.iAt ds j % 10) = W := by unfold edS; rw [if_pos ⟨h0, hW⟩, hW]
              have hm0 : (Ex.iAt ds j % 10 != 0) = false := by simpa using h0
              have hl0 : W.length = 0 := by rw [hW]; rfl
              have hgt : decide ((n : Int) < (n : Int) + (W.length : Int)) = false := by simp; omega
              rw [hE, h0] at HV2
              clear hW hE HWO2
              go_wp2_with fail
              go_roundw
              case rel => exact ⟨j + 1, V * 10, W, au, cu, by omega, by omega, by go_num, by go_num, by omega, by omega, HV2, HWO, rfl, hu, hv, hap, hb⟩
              case measure => simp [intOf]; omega
            · have hE : edS W (Ex.iAt ds j % 10) = W ++ [48 + Ex.iAt ds j % 10] := by unfold edS; rw [if_neg hap0]
              rw [hE] at HV2 HWO2
              obtain ⟨d, hd⟩ : ∃ d : Nat, Ex.iAt ds j % 10 = (d : Int) := ⟨(Ex.iAt ds j % 10).toNat, by omega⟩
              have hd9 : d ≤ 9 := by omega
              rw [hd] at HV2 HWO2 hap0
              clear hE
              rcases (show ((d : Int) != 0) = true ∨ (((d : Int) != 0) = false ∧ decide ((n : Int) < (n : Int) + (W.length : Int)) = true) from by
                by_cases h0 : (d : Int) = 0
                · right
                  refine ⟨by simpa using h0, ?_⟩
                  have : W ≠ [] := fun k => hap0 ⟨h0, k⟩
                  have := List.length_pos_iff.2 this
                  exact decide_eq_true (by omega)
                · left; simpa using h0) with hq | ⟨hq1, hq2⟩
              all_goals
                clear hap0
                go_wp2_with (first
                  | (at_builtin; go_must (refine app_int _ 22 5 .u8 1 Ybum.underlying22 Ybum.infoU8 (by omega) rfl (.tmp 67) (.tmp 70) rfl w.heap.size _ (zs ++ W) rfl (hu.alloc _) _ (48 + (d : Int)) rfl (by simp) (by have := HZ.out; rw [List.length_append]; omega) (by simp; omega) ?_; intro u2 w2 hu2 huo hgr2))
                )
                have hv2 := OwnI.keeps hv hgr2.after_alloc hap
                have hap2 : Apart v u2 := hgr2.after_alloc.apart' hv hap
                have hb2 := below_app hb hB hu.baseLe hgr2.after_alloc
                rw [List.append_assoc] at hu2
                have hl2 : (zs ++ (W ++ [48 + (d : Int)])).length = n + (W ++ [48 + (d : Int)]).length := by have := HZ.out; rw [List.length_append]; omega
                obtain ⟨au2, cu2, rfl, _, _⟩ := hu2.shape
                rw [hl2] at hu2 hap2 ⊢
                go_roundw
                case rel => exact ⟨j + 1, V * 10 + (d : Int).toNat, W ++ [48 + (d : Int)], au2, cu2, by omega, by omega, by go_num, by go_num, by simp; omega, by omega, HV2, HWO2, rfl, hu2, hv2, hap2, hb2⟩
                case measure => simp [intOf]; omega
          · have q1 : decide ((j : Int) < 18) = false := by simp; omega
            by_cases hW : W = []
            · have hz0 : (W.length : Int) = 0 := by rw [hW]; rfl
              have hW0 : W.length = 0 := by omega
              have hV0 : V = 0 := by rw [← HV.out, hW]; rfl
              have hlen : ((n : Int) + (W.length : Int) == (n : Int)) = true := by simp; omega
              have hu' : OwnB wr w.heap.size (.slice au (n + W.length) cu) zs := by have h := hu; rw [show zs ++ W = zs from by rw [hW, List.append_nil]] at h; exact h
              clear hu HV HWO hW
              subst hV0
              go_wp2_with (first
                | (at_builtin; go_must (refine app_int _ 22 5 .u8 1 Ybum.underlying22 Ybum.infoU8 (by omega) rfl (.tmp 82) (.tmp 83) rfl w.heap.size _ zs rfl (hu'.alloc _) _ 48 rfl (by simp) (by have := HZ.out; omega) (by have := hb.size; simp; omega) ?_; intro u2 w2 hu2 huo hgr2)))
              have hv2 := OwnI.keeps hv hgr2.after_alloc hap
              have hap2 : Apart v u2 := hgr2.after_alloc.apart' hv hap
              have hb2 := below_app hb hb.size hu'.baseLe hgr2.after_alloc
              clear hu' hv hap hb huo hgr2
              have hu := hu2
              have hv := hv2
              have hap := hap2
              have hb := hb2
              clear hu2 hv2 hap2 hb2
              obtain ⟨V, hV⟩ : ∃ V : Nat, V = 0 := ⟨0, rfl⟩
              rw [show [48] = Ex.dg V from by rw [hV, Ex.dg_small (by omega)]; rfl] at hu
              rw [show (0 : Int) = (V : Int) from by rw [hV]; rfl]
              have hVb : V < 1000000000000000000 := by omega
              clear hV
              obtain ⟨au2, cu2, rfl, _, _⟩ := hu.shape
              -- here: OwnB wz w.heap.size (.slice au nu cu) (zs ++ Ex.dg V), OwnB wz w.heap.size v zs, Apart v (.slice au nu cu)
              refine (nat_any 18 V w.heap.size v zs _ (by omega) (by omega) hv (by have := HZ.out; omega) hb.size).mono ?_
              rintro e w5 ⟨v5, rfl, hown5, _, hgr5⟩
              have hu5 := OwnI.keeps hu hgr5 hap.symm
              have hb5 : Below w.heap.size w w5 := below_app hb hb.size hv.baseLe hgr5
              have hpos : 0 < (zs ++ Ex.dg V).length := by rw [List.length_append]; have := Ex.dg_pos V; omega
              have hll : (zs ++ Ex.dg V).length ≤ 2000 := by rw [List.length_append]; have := Ex.dg_len20 V; have := HZ.out; omega
              obtain ⟨R, hR⟩ : ∃ R, R = zs ++ Ex.dg V := ⟨_, rfl⟩
              rw [← hR] at hown5 hu5 hpos hll
              obtain ⟨g5, c5, rfl⟩ := hown5.atSome hpos
              obtain ⟨gu, cu', eu⟩ := hu5.atSome hpos
              simp only [Value.slice.injEq] at eu
              obtain ⟨rfl, e2, rfl⟩ := eu
              first | rw [e2] at hu5 ⊢ | rw [← hR]
              have HG : Hid (∀ i, i < R.length → w5.cell? ⟨g5, i, none⟩ = some (.int .u8 (Ex.iAt R i))) := fun i hi => hown5.cellsAt i hi
              have HU : Hid (∀ i, i < R.length → w5.cell? ⟨gu, i, none⟩ = some (.int .u8 (Ex.iAt R i))) := fun i hi => hu5.cellsAt i hi
              have hc5 := hown5.len
              have hcu := hu5.len
              unfold maxLen at hc5 hcu
              obtain ⟨_, hc5a, hc5b⟩ := hc5
              obtain ⟨_, hcua, hcub⟩ := hcu
              clear hown5 hu5 hgr5 hR hu hv hap hb
              go_wp2_with fail
              go_loopw [12] (fun i wx => ∃ (q : Nat), q ≤ R.length ∧ i = .int .i64 q ∧ Below w5.heap.size w5 wx) (fun i _ => R.length - (intOf i).toNat)
              case atStart => exact ⟨0, by omega, rfl, Below.refl _ _⟩
              case round =>
                obtain ⟨q, hq, rfl, hbx⟩ := hrel
                by_cases hqn : q < R.length
                · have r2 := (hbx.cell (World.block_lt_of_cell? w5 _ (HG.out q hqn))).trans (HG.out q hqn)
                  have r3 := (hbx.cell (World.block_lt_of_cell? w5 _ (HU.out q hqn))).trans (HU.out q hqn)
                  have p1 : (Ex.iAt R q != Ex.iAt R q) = false := by simp
                  have hqi : (q : Int) < (R.length : Int) := by omega
                  have hqi0 : (0 : Int) ≤ (q : Int) := by omega
                  go_wp2_with fail
                  go_quiet (fail)
                  go_wp2_with fail
                  go_roundw
                  case rel => exact ⟨q + 1, by omega, by go_num, below_drewN hbx _⟩
                  case measure => simp [intOf]; omega
                · have hqd : decide ((q : Int) < (R.length : Int)) = false := by simp; omega
                  go_wp2_with fail
                  go_ret
                  exact ⟨rfl, hb5.trans (hbx.mono hb5.size)⟩

            · have hW0 : 0 < W.length := List.length_pos_iff.2 hW
              have hlen : ((n : Int) + (W.length : Int) == (n : Int)) = false := by simp; omega
              have hdg : Ex.dg V = W := by
                obtain ⟨o1, o2⟩ := HWO.out
                rw [← HV.out]
                exact Ex.dg_of o1 (o2 hW) hW0 (by rw [HV.out]; omega)
              have hu : OwnB wr w.heap.size (.slice au (n + W.length) cu) (zs ++ Ex.dg V) := by rw [hdg]; exact hu
              clear HWO HV hW
              go_wp2_with fail
              -- here: OwnB wz w.heap.size (.slice au nu cu) (zs ++ Ex.dg V), OwnB wz w.heap.size v zs, Apart v (.slice au nu cu)
              refine (nat_any 18 V w.heap.size v zs _ (by omega) (by omega) hv (by have := HZ.out; omega) hb.size).mono ?_
              rintro e w5 ⟨v5, rfl, hown5, _, hgr5⟩
              have hu5 := OwnI.keeps hu hgr5 hap.symm
              have hb5 : Below w.heap.size w w5 := below_app hb hb.size hv.baseLe hgr5
              have hpos : 0 < (zs ++ Ex.dg V).length := by rw [List.length_append]; have := Ex.dg_pos V; omega
              have hll : (zs ++ Ex.dg V).length ≤ 2000 := by rw [List.length_append]; have := Ex.dg_len20 V; have := HZ.out; omega
              obtain ⟨R, hR⟩ : ∃ R, R = zs ++ Ex.dg V := ⟨_, rfl⟩
              rw [← hR] at hown5 hu5 hpos hll
              obtain ⟨g5, c5, rfl⟩ := hown5.atSome hpos
              obtain ⟨gu, cu', eu⟩ := hu5.atSome hpos
              simp only [Value.slice.injEq] at eu
              obtain ⟨rfl, e2, rfl⟩ := eu
              first | rw [e2] at hu5 ⊢ | rw [← hR]
              have HG : Hid (∀ i, i < R.length → w5.cell? ⟨g5, i, none⟩ = some (.int .u8 (Ex.iAt R i))) := fun i hi => hown5.cellsAt i hi
              have HU : Hid (∀ i, i < R.length → w5.cell? ⟨gu, i, none⟩ = some (.int .u8 (Ex.iAt R i))) := fun i hi => hu5.cellsAt i hi
              have hc5 := hown5.len
              have hcu := hu5.len
              unfold maxLen at hc5 hcu
              obtain ⟨_, hc5a, hc5b⟩ := hc5
              obtain ⟨_, hcua, hcub⟩ := hcu
              clear hown5 hu5 hgr5 hR hu hv hap hb
              go_wp2_with fail
              go_loopw [12] (fun i wx => ∃ (q : Nat), q ≤ R.length ∧ i = .int .i64 q ∧ Below w5.heap.size w5 wx) (fun i _ => R.length - (intOf i).toNat)
              case atStart => exact ⟨0, by omega, rfl, Below.refl _ _⟩
              case round =>
                obtain ⟨q, hq, rfl, hbx⟩ := hrel
                by_cases hqn : q < R.length
                · have r2 := (hbx.cell (World.block_lt_of_cell? w5 _ (HG.out q hqn))).trans (HG.out q hqn)
                  have r3 := (hbx.cell (World.block_lt_of_cell? w5 _ (HU.out q hqn))).trans (HU.out q hqn)
                  have p1 : (Ex.iAt R q != Ex.iAt R q) = false := by simp
                  have hqi : (q : Int) < (R.length : Int) := by omega
                  have hqi0 : (0 : Int) ≤ (q : Int) := by omega
                  go_wp2_with fail
                  go_quiet (fail)
                  go_wp2_with fail
                  go_roundw
                  case rel => exact ⟨q + 1, by omega, by go_num, below_drewN hbx _⟩
                  case measure => simp [intOf]; omega
                · have hqd : decide ((q : Int) < (R.length : Int)) = false := by simp; omega
                  go_wp2_with fail
                  go_ret
                  exact ⟨rfl, hb5.trans (hbx.mono hb5.size)⟩

        · have q1 : decide ((j : Int) < (m : Int)) = false := by simp; omega
          by_cases hW : W = []
          · have hz0 : (W.length : Int) = 0 := by rw [hW]; rfl
            have hW0 : W.length = 0 := by omega
            have hV0 : V = 0 := by rw [← HV.out, hW]; rfl
            have hlen : ((n : Int) + (W.length : Int) == (n : Int)) = true := by simp; omega
            have hu' : OwnB wr w.heap.size (.slice au (n + W.length) cu) zs := by have h := hu; rw [show zs ++ W = zs from by rw [hW, List.append_nil]] at h; exact h
            clear hu HV HWO hW
            subst hV0
            go_wp2_with (first
              | (at_builtin; go_must (refine app_int _ 22 5 .u8 1 Ybum.underlying22 Ybum.infoU8 (by omega) rfl (.tmp 82) (.tmp 83) rfl w.heap.size _ zs rfl (hu'.alloc _) _ 48 rfl (by simp) (by have := HZ.out; omega) (by have := hb.size; simp; omega) ?_; intro u2 w2 hu2 huo hgr2)))
            have hv2 := OwnI.keeps hv hgr2.after_alloc hap
            have hap2 : Apart v u2 := hgr2.after_alloc.apart' hv hap
            have hb2 := below_app hb hb.size hu'.baseLe hgr2.after_alloc
            clear hu' hv hap hb huo hgr2
            have hu := hu2
            have hv := hv2
            have hap := hap2
            have hb := hb2
            clear hu2 hv2 hap2 hb2
            obtain ⟨V, hV⟩ : ∃ V : Nat, V = 0 := ⟨0, rfl⟩
            rw [show [48] = Ex.dg V from by rw [hV, Ex.dg_small (by omega)]; rfl] at hu
            rw [show (0 : Int) = (V : Int) from by rw [hV]; rfl]
            have hVb : V < 1000000000000000000 := by omega
            clear hV
            obtain ⟨au2, cu2, rfl, _, _⟩ := hu.shape
            -- here: OwnB wz w.heap.size (.slice au nu cu) (zs ++ Ex.dg V), OwnB wz w.heap.size v zs, Apart v (.slice au nu cu)
            refine (nat_any 18 V w.heap.size v zs _ (by omega) (by omega) hv (by have := HZ.out; omega) hb.size).mono ?_
            rintro e w5 ⟨v5, rfl, hown5, _, hgr5⟩
            have hu5 := OwnI.keeps hu hgr5 hap.symm
            have hb5 : Below w.heap.size w w5 := below_app hb hb.size hv.baseLe hgr5
            have hpos : 0 < (zs ++ Ex.dg V).length := by rw [List.length_append]; have := Ex.dg_pos V; omega
            have hll : (zs ++ Ex.dg V).length ≤ 2000 := by rw [List.length_append]; have := Ex.dg_len20 V; have := HZ.out; omega
            obtain ⟨R, hR⟩ : ∃ R, R = zs ++ Ex.dg V := ⟨_, rfl⟩
            rw [← hR] at hown5 hu5 hpos hll
            obtain ⟨g5, c5, rfl⟩ := hown5.atSome hpos
            obtain ⟨gu, cu', eu⟩ := hu5.atSome hpos
            simp only [Value.slice.injEq] at eu
            obtain ⟨rfl, e2, rfl⟩ := eu
            first | rw [e2] at hu5 ⊢ | rw [← hR]
            have HG : Hid (∀ i, i < R.length → w5.cell? ⟨g5, i, none⟩ = some (.int .u8 (Ex.iAt R i))) := fun i hi => hown5.cellsAt i hi
            have HU : Hid (∀ i, i < R.length → w5.cell? ⟨gu, i, none⟩ = some (.int .u8 (Ex.iAt R i))) := fun i hi => hu5.cellsAt i hi
            have hc5 := hown5.len
            have hcu := hu5.len
            unfold maxLen at hc5 hcu
            obtain ⟨_, hc5a, hc5b⟩ := hc5
            obtain ⟨_, hcua, hcub⟩ := hcu
            clear hown5 hu5 hgr5 hR hu hv hap hb
            go_wp2_with fail
            go_loopw [12] (fun i wx => ∃ (q : Nat), q ≤ R.length ∧ i = .int .i64 q ∧ Below w5.heap.size w5 wx) (fun i _ => R.length - (intOf i).toNat)
            case atStart => exact ⟨0, by omega, rfl, Below.refl _ _⟩
            case round =>
              obtain ⟨q, hq, rfl, hbx⟩ := hrel
              by_cases hqn : q < R.length
              · have r2 := (hbx.cell (World.block_lt_of_cell? w5 _ (HG.out q hqn))).trans (HG.out q hqn)
                have r3 := (hbx.cell (World.block_lt_of_cell? w5 _ (HU.out q hqn))).trans (HU.out q hqn)
                have p1 : (Ex.iAt R q != Ex.iAt R q) = false := by simp
                have hqi : (q : Int) < (R.length : Int) := by omega
                have hqi0 : (0 : Int) ≤ (q : Int) := by omega
                go_wp2_with fail
                go_quiet (fail)
                go_wp2_with fail
                go_roundw
                case rel => exact ⟨q + 1, by omega, by go_num, below_drewN hbx _⟩
                case measure => simp [intOf]; omega
              · have hqd : decide ((q : Int) < (R.length : Int)) = false := by simp; omega
                go_wp2_with fail
                go_ret
                exact ⟨rfl, hb5.trans (hbx.mono hb5.size)⟩

          · have hW0 : 0 < W.length := List.length_pos_iff.2 hW
            have hlen : ((n : Int) + (W.length : Int) == (n : Int)) = false := by simp; omega
            have hdg : Ex.dg V = W := by
              obtain ⟨o1, o2⟩ := HWO.out
              rw [← HV.out]
              exact Ex.dg_of o1 (o2 hW) hW0 (by rw [HV.out]; omega)
            have hu : OwnB wr w.heap.size (.slice au (n + W.length) cu) (zs ++ Ex.dg V) := by rw [hdg]; exact hu
            clear HWO HV hW
            go_wp2_with fail
            -- here: OwnB wz w.heap.size (.slice au nu cu) (zs ++ Ex.dg V), OwnB wz w.heap.size v zs, Apart v (.slice au nu cu)
            refine (nat_any 18 V w.heap.size v zs _ (by omega) (by omega) hv (by have := HZ.out; omega) hb.size).mono ?_
            rintro e w5 ⟨v5, rfl, hown5, _, hgr5⟩
            have hu5 := OwnI.keeps hu hgr5 hap.symm
            have hb5 : Below w.heap.size w w5 := below_app hb hb.size hv.baseLe hgr5
            have hpos : 0 < (zs ++ Ex.dg V).length := by rw [List.length_append]; have := Ex.dg_pos V; omega
            have hll : (zs ++ Ex.dg V).length ≤ 2000 := by rw [List.length_append]; have := Ex.dg_len20 V; have := HZ.out; omega
            obtain ⟨R, hR⟩ : ∃ R, R = zs ++ Ex.dg V := ⟨_, rfl⟩
            rw [← hR] at hown5 hu5 hpos hll
            obtain ⟨g5, c5, rfl⟩ := hown5.atSome hpos
            obtain ⟨gu, cu', eu⟩ := hu5.atSome hpos
            simp only [Value.slice.injEq] at eu
            obtain ⟨rfl, e2, rfl⟩ := eu
            first | rw [e2] at hu5 ⊢ | rw [← hR]
            have HG : Hid (∀ i, i < R.length → w5.cell? ⟨g5, i, none⟩ = some (.int .u8 (Ex.iAt R i))) := fun i hi => hown5.cellsAt i hi
            have HU : Hid (∀ i, i < R.length → w5.cell? ⟨gu, i, none⟩ = some (.int .u8 (Ex.iAt R i))) := fun i hi => hu5.cellsAt i hi
            have hc5 := hown5.len
            have hcu := hu5.len
            unfold maxLen at hc5 hcu
            obtain ⟨_, hc5a, hc5b⟩ := hc5
            obtain ⟨_, hcua, hcub⟩ := hcu
            clear hown5 hu5 hgr5 hR hu hv hap hb
            go_wp2_with fail
            go_loopw [12] (fun i wx => ∃ (q : Nat), q ≤ R.length ∧ i = .int .i64 q ∧ Below w5.heap.size w5 wx) (fun i _ => R.length - (intOf i).toNat)
            case atStart => exact ⟨0, by omega, rfl, Below.refl _ _⟩
            case round =>
              obtain ⟨q, hq, rfl, hbx⟩ := hrel
              by_cases hqn : q < R.length
              · have r2 := (hbx.cell (World.block_lt_of_cell? w5 _ (HG.out q hqn))).trans (HG.out q hqn)
                have r3 := (hbx.cell (World.block_lt_of_cell? w5 _ (HU.out q hqn))).trans (HU.out q hqn)
                have p1 : (Ex.iAt R q != Ex.iAt R q) = false := by simp
                have hqi : (q : Int) < (R.length : Int) := by omega
                have hqi0 : (0 : Int) ≤ (q : Int) := by omega
                go_wp2_with fail
                go_quiet (fail)
                go_wp2_with fail
                go_roundw
                case rel => exact ⟨q + 1, by omega, by go_num, below_drewN hbx _⟩
                case measure => simp [intOf]; omega
              · have hqd : decide ((q : Int) < (R.length : Int)) = false := by simp; omega
                go_wp2_with fail
                go_ret
                exact ⟨rfl, hb5.trans (hbx.mono hb5.size)⟩

end Go.Proofs.Ymbrbu
