import Derived.Test.YmbrbtNatWalk
import Derived.Deep.Cut
set_option linter.unusedVariables false
set_option linter.unusedSimpArgs false
set_option linter.unnecessarySimpa false
namespace Go.Proofs.Ymbrbt
open Go.RowKit

set_option maxRecDepth 100000 in
set_option maxHeartbeats 4000000 in
theorem evalue_any (a : Option Addr) (n cap : Nat) (zs : List Int) (spare x : Int) (w : World) (ht : Ints .u8 w a n cap zs) (hzb : ∀ c ∈ zs, 0 ≤ c ∧ c ≤ 255) (hs0 : 0 ≤ spare) (hs1 : spare ≤ 255)
    (hx0 : -9223372036854775808 ≤ x) (hx1 : x ≤ 9223372036854775807) :
    Calls Ybtm.prog 14 #[.slice a n cap, .int .u8 spare, .int .i64 x] w fun e w' => e = .returned (.bool true) ∧ Below w.heap.size w w' := by
  have hnc := ht.2.1
  have hcm := ht.2.2.1
  unfold maxLen at hcm
  have T0 : Hid (Ints .u8 w a n cap zs) := ht
  have ZB : Hid (∀ c ∈ zs, 0 ≤ c ∧ c ≤ 255) := hzb
  clear ht hzb
  by_cases hbig : 1024 < n
  · go_enter Ybtm.func14, Ybtm.ntmps14
    go_wp2_with fail
    go_ret
    exact ⟨rfl, Below.refl _ _⟩
  have d0 : decide ((1024 : Int) < (n : Int)) = false := by simp; omega
  obtain ⟨sp, hsp⟩ : ∃ sp : Nat, spare % 32 = (sp : Int) := ⟨(spare % 32).toNat, by omega⟩
  have hsp2 : sp < 32 := by omega
  obtain ⟨N, hN, hNb⟩ : ∃ N : Nat, (if x < 0 then -(x + 1) else x) = (N : Int) ∧ N ≤ 9223372036854775807 := ⟨(if x < 0 then -(x + 1) else x).toNat, by split <;> omega, by split <;> omega⟩
  rcases (show (x < 0 ∧ -(x + 1) = (N : Int)) ∨ (¬ x < 0 ∧ x = (N : Int)) from by
    by_cases h : x < 0
    · left; rw [if_pos h] at hN; exact ⟨h, hN⟩
    · right; rw [if_neg h] at hN; exact ⟨h, hN⟩) with ⟨hneg, hxN⟩ | ⟨hneg, hxN⟩
  all_goals clear hN
  · go_enter Ybtm.func14, Ybtm.ntmps14
    go_upto_region 5 with fail
    go_wp2_with (first | (at_make; go_must (refine make_int _ 39 5 .u8 1 Ybtm.underlying39 Ybtm.infoU8 (by omega) rfl _ _ rfl w.heap.size _ _ _ _ n (n + sp) rfl rfl rfl (by omega) (by omega) (by omega) (by omega) ?_; intro w1 hown1 hb1 hlt1)))
    go_loopw [8] (fun i wr => ∃ (k : Nat), k ≤ n ∧ i = .int .i64 k ∧ OwnB wr w.heap.size (.slice (some ⟨w.heap.size, 0, none⟩) n (n + sp)) (zs.take k ++ List.replicate (n - k) 0) ∧ Below w.heap.size w wr) (fun i _ => n - (intOf i).toNat)
    case atStart => exact ⟨0, by omega, rfl, by simpa using hown1, hb1⟩
    case round =>
      obtain ⟨k, hk, rfl, hown, hb⟩ := hrel
      clear hown1 hb1 hlt1
      have hB := hb.size
      have hzl := T0.out.1
      by_cases hlt : k < n
      · obtain ⟨b, off, rfl, hc⟩ := (T0.out.below hb).2.2.2 (by omega)
        have c1 := hc k hlt
        have hlen : (zs.take k ++ List.replicate (n - k) (0 : Int)).length = n := by simp; omega
        obtain ⟨hown2, hgb2⟩ := OwnI.set hown k (Ex.iAt zs k)
        have f1 := hown.frozenAt k
        have c3 := hown.cellsAt k (by omega)
        have HS : Hid ((zs.take k ++ List.replicate (n - k) (0 : Int)).set k (Ex.iAt zs k) = zs.take (k + 1) ++ List.replicate (n - (k + 1)) 0) := by
          show _ = _
          have e1 : (zs.take k).length = k := by rw [List.length_take]; omega
          have e2 : n - k = (n - (k + 1)) + 1 := by omega
          have := set_mid (zs.take k) (0 : Int) (Ex.iAt zs k) (n - (k + 1))
          rw [e1] at this
          rw [e2, this, Ex.itake_at zs k (by omega)]
        clear hc hlen
        go_wp2_with fail
        go_roundw
        case rel => exact ⟨k + 1, by omega, by go_num, by rw [← HS.out]; exact hown2, below_setTok hb hgb2 hB (Nat.le_refl _)⟩
        case measure => simp [intOf]; omega
      · have hkn : k = n := by omega
        have hkd : decide ((k : Int) < (n : Int)) = false := by simp; omega
        rw [hkn, Nat.sub_self, List.replicate_zero, List.append_nil, List.take_of_length_le (by omega)] at hown
        have HZ : Hid (zs.length = n) := hzl
        clear hkn hzl
        go_wp2_with fail
        refine (nat_any 18 N w.heap.size _ zs _ (by omega) hNb hown (by have := HZ.out; omega) hB).mono ?_
        rintro e w3 ⟨v3, rfl, hown3, hold3, hgr3⟩
        have hb3 : Below w.heap.size w w3 := below_app hb hB (fun k hk => by simp [Value.ownBlock] at hk; omega) hgr3
        obtain ⟨D, hD⟩ : ∃ D, D = Ex.dg N := ⟨_, rfl⟩
        rw [← hD] at hown3
        have l1 : 0 < D.length := by rw [hD]; exact Ex.dg_pos N
        have l2 : D.length ≤ 19 := by rw [hD]; exact Ex.dg_lenF 18 N (by omega) (by omega)
        have HDD : Hid (∀ c ∈ D, 48 ≤ c ∧ c ≤ 57) := by rw [hD]; exact Ex.dg_dig N
        have HDV : Hid (Ex.dval 0 D = N) := by rw [hD]; exact Ex.dval_dg N (by omega)
        have HDL : Hid (∀ c cs, D = c :: cs → c = 48 → cs = []) := by rw [hD]; exact Ex.dg_lead N (by omega)
        clear hD
        obtain ⟨g, cap4, rfl⟩ := hown3.atSome (by rw [List.length_append]; omega)
        have hlen3 := hown3.len
        have hl4 : (zs ++ D).length = n + D.length := by rw [List.length_append, HZ.out]
        rw [hl4] at hown3 ⊢
        have hcap4 : n + D.length ≤ cap4 ∧ cap4 ≤ 9223372036854775807 := by rw [hl4] at hlen3; unfold maxLen at hlen3; exact ⟨hlen3.2.1, by omega⟩
        have HG : Hid (∀ i, i < n + D.length → w3.cell? ⟨g, i, none⟩ = some (.int .u8 (Ex.iAt (zs ++ D) i))) := fun i hi => hown3.cellsAt i (by rw [hl4]; exact hi)
        have HB2 : Hid (∀ i, i < n → w3.cell? ⟨w.heap.size, i, none⟩ = some (.int .u8 (Ex.iAt zs i))) := fun i hi => hold3.cellsAt i (by have := HZ.out; omega)
        clear hown3 hold3 hgr3 hlen3 hl4 hown hb hB
        have q1 : decide (((n + D.length : Nat) : Int) ≤ (n : Int)) = false := by simp; omega
        have q2 : decide ((n : Int) + 19 < ((n + D.length : Nat) : Int)) = false := by simp; omega
        have q3 : decide ((n : Int) + (D.length : Int) ≤ (n : Int)) = false := by simp; omega
        have q4 : decide ((n : Int) + 19 < (n : Int) + (D.length : Int)) = false := by simp; omega
        go_wp2_with fail
        go_loopw [10] (fun i wx => ∃ (q : Nat), q ≤ n ∧ i = .int .i64 q ∧ Below w3.heap.size w3 wx) (fun i _ => n - (intOf i).toNat)
        case atStart => exact ⟨0, by omega, rfl, Below.refl _ _⟩
        case round =>
          obtain ⟨q, hq, rfl, hbx⟩ := hrel
          by_cases hqn : q < n
          · obtain ⟨b2, o2, rfl, hc2⟩ := ((T0.out.below hb3).below hbx).2.2.2 (by omega)
            have r1 := hc2 q hqn
            have r2 := (hbx.cell (World.block_lt_of_cell? w3 _ (HG.out q (by omega)))).trans (HG.out q (by omega))
            have r3 := (hbx.cell (World.block_lt_of_cell? w3 _ (HB2.out q hqn))).trans (HB2.out q hqn)
            rw [Ex.iAt_app zs D q (by have := HZ.out; omega)] at r2
            have p1 : (Ex.iAt zs q != Ex.iAt zs q) = false := by simp
            have hqi : (q : Int) < (n : Int) := by omega
            have hqi2 : (q : Int) < (n : Int) + (D.length : Int) := by omega
            have hqi3 : (q : Int) < ((n + D.length : Nat) : Int) := by omega
            have hqi0 : (0 : Int) ≤ (q : Int) := by omega
            clear hc2
            go_wp2_with fail
            go_quiet (fail)
            go_wp2_with fail
            go_roundw
            case rel => exact ⟨q + 1, by omega, by go_num, below_drewN hbx _⟩
            case measure => simp [intOf]; omega
          · have hqd : decide ((q : Int) < (n : Int)) = false := by simp; omega
            have HG2 : Hid (∀ i, i < D.length → wr.cell? ⟨g, n + i, none⟩ = some (.int .u8 (Ex.iAt D i))) := fun i hi => by
              have h0 := HG.out (n + i) (by omega)
              have h1 := (hbx.cell (World.block_lt_of_cell? w3 _ h0)).trans h0
              have h2 := Ex.iAt_app' zs D i
              rw [HZ.out] at h2
              rw [h2] at h1
              exact h1
            have hbw : Below w.heap.size w wr := hb3.trans (hbx.mono hb3.size)
            clear HG HB2 hb3 hbx
            have r0 := HG2.out 0 l1
            rw [Nat.add_zero] at r0
            have hn1 : n < n + D.length := by omega
            -- the leading digit
            have hlead : (Ex.iAt D 0 == 48) = false ∨ ((Ex.iAt D 0 == 48) = true ∧ D.length = 1) := by
              cases D with
              | nil => simp at l1
              | cons c cs =>
                by_cases hc : c = 48
                · right
                  have := HDL.out c cs rfl hc
                  subst this
                  exact ⟨by simpa [Ex.iAt] using hc, rfl⟩
                · left; simpa [Ex.iAt] using hc
            have fin : ∀ (K : Prop), ((Ex.iAt D 0 == 48) = false → K) → ((Ex.iAt D 0 == 48) = true → D.length = 1 → K) → K := fun K h1 h2 => by
              rcases hlead with h | ⟨h, h'⟩
              · exact h1 h
              · exact h2 h h'
            clear hlead
            refine fin _ (fun hld => ?_) (fun hld hl1 => ?_)
            all_goals
              clear fin
              try (have hl1i : ((n : Int) + (D.length : Int) != (n : Int) + 1) = false := by simp; omega)
              go_wp2_with fail
              clear r0
              try clear hl1i
              go_loop [11, 12, 13] (fun v i _ => ∃ (q : Nat), q ≤ D.length ∧ i = .int .i64 ((n : Int) + (q : Int)) ∧ v = .int .u64 (Ex.dval 0 (D.take q))) (fun _ i _ => (n + D.length) - (intOf i).toNat)
              case atStart => exact ⟨0, by omega, by go_num, rfl⟩
              case round =>
                obtain ⟨q, hq, rfl, rfl⟩ := hrel
                by_cases hqd : q < D.length
                · have r1 := HG2.out q hqd
                  obtain ⟨e1, e2⟩ := HDD.out _ (Ex.iAt_mem D q hqd)
                  have hdv := Ex.dval_take_succ D q hqd
                  have hdl := Ex.dval_take_le D (q + 1)
                  rw [HDV.out] at hdl
                  have HDVS : Hid (Ex.dval 0 (D.take (q + 1)) = Ex.dval 0 (D.take q) * 10 + (Ex.iAt D q - 48).toNat) := hdv
                  have hbd : Ex.dval 0 (D.take q) * 10 + (Ex.iAt D q - 48).toNat ≤ N := by rw [← hdv]; exact hdl
                  clear hdv hdl
                  generalize Ex.iAt D q = c at *
                  generalize Ex.dval 0 (D.take q) = V at *
                  have d1 : decide (c < 48) = false := by simp; omega
                  have d2 : decide (57 < c) = false := by simp; omega
                  go_wp2_with fail
                  go_round
                  case rel => exact ⟨q + 1, by omega, by go_num, by rw [HDVS.out]; go_num⟩
                  case measure => simp [intOf]; omega
                · have e1 : Ex.dval 0 (D.take q) = N := by rw [List.take_of_length_le (by omega)]; exact HDV.out
                  rw [e1]
                  go_wp2_with fail
                  go_ret
                  exact ⟨by simp, hbw⟩
  · subst hxN
    have hneg' : decide ((N : Int) < 0) = false := by simp
    go_enter Ybtm.func14, Ybtm.ntmps14
    go_upto_region 5 with fail
    go_wp2_with (first | (at_make; go_must (refine make_int _ 39 5 .u8 1 Ybtm.underlying39 Ybtm.infoU8 (by omega) rfl _ _ rfl w.heap.size _ _ _ _ n (n + sp) rfl rfl rfl (by omega) (by omega) (by omega) (by omega) ?_; intro w1 hown1 hb1 hlt1)))
    go_loopw [8] (fun i wr => ∃ (k : Nat), k ≤ n ∧ i = .int .i64 k ∧ OwnB wr w.heap.size (.slice (some ⟨w.heap.size, 0, none⟩) n (n + sp)) (zs.take k ++ List.replicate (n - k) 0) ∧ Below w.heap.size w wr) (fun i _ => n - (intOf i).toNat)
    case atStart => exact ⟨0, by omega, rfl, by simpa using hown1, hb1⟩
    case round =>
      obtain ⟨k, hk, rfl, hown, hb⟩ := hrel
      clear hown1 hb1 hlt1
      have hB := hb.size
      have hzl := T0.out.1
      by_cases hlt : k < n
      · obtain ⟨b, off, rfl, hc⟩ := (T0.out.below hb).2.2.2 (by omega)
        have c1 := hc k hlt
        have hlen : (zs.take k ++ List.replicate (n - k) (0 : Int)).length = n := by simp; omega
        obtain ⟨hown2, hgb2⟩ := OwnI.set hown k (Ex.iAt zs k)
        have f1 := hown.frozenAt k
        have c3 := hown.cellsAt k (by omega)
        have HS : Hid ((zs.take k ++ List.replicate (n - k) (0 : Int)).set k (Ex.iAt zs k) = zs.take (k + 1) ++ List.replicate (n - (k + 1)) 0) := by
          show _ = _
          have e1 : (zs.take k).length = k := by rw [List.length_take]; omega
          have e2 : n - k = (n - (k + 1)) + 1 := by omega
          have := set_mid (zs.take k) (0 : Int) (Ex.iAt zs k) (n - (k + 1))
          rw [e1] at this
          rw [e2, this, Ex.itake_at zs k (by omega)]
        clear hc hlen
        go_wp2_with fail
        go_roundw
        case rel => exact ⟨k + 1, by omega, by go_num, by rw [← HS.out]; exact hown2, below_setTok hb hgb2 hB (Nat.le_refl _)⟩
        case measure => simp [intOf]; omega
      · have hkn : k = n := by omega
        have hkd : decide ((k : Int) < (n : Int)) = false := by simp; omega
        rw [hkn, Nat.sub_self, List.replicate_zero, List.append_nil, List.take_of_length_le (by omega)] at hown
        have HZ : Hid (zs.length = n) := hzl
        clear hkn hzl
        go_wp2_with fail
        refine (nat_any 18 N w.heap.size _ zs _ (by omega) hNb hown (by have := HZ.out; omega) hB).mono ?_
        rintro e w3 ⟨v3, rfl, hown3, hold3, hgr3⟩
        have hb3 : Below w.heap.size w w3 := below_app hb hB (fun k hk => by simp [Value.ownBlock] at hk; omega) hgr3
        obtain ⟨D, hD⟩ : ∃ D, D = Ex.dg N := ⟨_, rfl⟩
        rw [← hD] at hown3
        have l1 : 0 < D.length := by rw [hD]; exact Ex.dg_pos N
        have l2 : D.length ≤ 19 := by rw [hD]; exact Ex.dg_lenF 18 N (by omega) (by omega)
        have HDD : Hid (∀ c ∈ D, 48 ≤ c ∧ c ≤ 57) := by rw [hD]; exact Ex.dg_dig N
        have HDV : Hid (Ex.dval 0 D = N) := by rw [hD]; exact Ex.dval_dg N (by omega)
        have HDL : Hid (∀ c cs, D = c :: cs → c = 48 → cs = []) := by rw [hD]; exact Ex.dg_lead N (by omega)
        clear hD
        obtain ⟨g, cap4, rfl⟩ := hown3.atSome (by rw [List.length_append]; omega)
        have hlen3 := hown3.len
        have hl4 : (zs ++ D).length = n + D.length := by rw [List.length_append, HZ.out]
        rw [hl4] at hown3 ⊢
        have hcap4 : n + D.length ≤ cap4 ∧ cap4 ≤ 9223372036854775807 := by rw [hl4] at hlen3; unfold maxLen at hlen3; exact ⟨hlen3.2.1, by omega⟩
        have HG : Hid (∀ i, i < n + D.length → w3.cell? ⟨g, i, none⟩ = some (.int .u8 (Ex.iAt (zs ++ D) i))) := fun i hi => hown3.cellsAt i (by rw [hl4]; exact hi)
        have HB2 : Hid (∀ i, i < n → w3.cell? ⟨w.heap.size, i, none⟩ = some (.int .u8 (Ex.iAt zs i))) := fun i hi => hold3.cellsAt i (by have := HZ.out; omega)
        clear hown3 hold3 hgr3 hlen3 hl4 hown hb hB
        have q1 : decide (((n + D.length : Nat) : Int) ≤ (n : Int)) = false := by simp; omega
        have q2 : decide ((n : Int) + 19 < ((n + D.length : Nat) : Int)) = false := by simp; omega
        have q3 : decide ((n : Int) + (D.length : Int) ≤ (n : Int)) = false := by simp; omega
        have q4 : decide ((n : Int) + 19 < (n : Int) + (D.length : Int)) = false := by simp; omega
        go_wp2_with fail
        go_loopw [10] (fun i wx => ∃ (q : Nat), q ≤ n ∧ i = .int .i64 q ∧ Below w3.heap.size w3 wx) (fun i _ => n - (intOf i).toNat)
        case atStart => exact ⟨0, by omega, rfl, Below.refl _ _⟩
        case round =>
          obtain ⟨q, hq, rfl, hbx⟩ := hrel
          by_cases hqn : q < n
          · obtain ⟨b2, o2, rfl, hc2⟩ := ((T0.out.below hb3).below hbx).2.2.2 (by omega)
            have r1 := hc2 q hqn
            have r2 := (hbx.cell (World.block_lt_of_cell? w3 _ (HG.out q (by omega)))).trans (HG.out q (by omega))
            have r3 := (hbx.cell (World.block_lt_of_cell? w3 _ (HB2.out q hqn))).trans (HB2.out q hqn)
            rw [Ex.iAt_app zs D q (by have := HZ.out; omega)] at r2
            have p1 : (Ex.iAt zs q != Ex.iAt zs q) = false := by simp
            have hqi : (q : Int) < (n : Int) := by omega
            have hqi2 : (q : Int) < (n : Int) + (D.length : Int) := by omega
            have hqi3 : (q : Int) < ((n + D.length : Nat) : Int) := by omega
            have hqi0 : (0 : Int) ≤ (q : Int) := by omega
            clear hc2
            go_wp2_with fail
            go_quiet (fail)
            go_wp2_with fail
            go_roundw
            case rel => exact ⟨q + 1, by omega, by go_num, below_drewN hbx _⟩
            case measure => simp [intOf]; omega
          · have hqd : decide ((q : Int) < (n : Int)) = false := by simp; omega
            have HG2 : Hid (∀ i, i < D.length → wr.cell? ⟨g, n + i, none⟩ = some (.int .u8 (Ex.iAt D i))) := fun i hi => by
              have h0 := HG.out (n + i) (by omega)
              have h1 := (hbx.cell (World.block_lt_of_cell? w3 _ h0)).trans h0
              have h2 := Ex.iAt_app' zs D i
              rw [HZ.out] at h2
              rw [h2] at h1
              exact h1
            have hbw : Below w.heap.size w wr := hb3.trans (hbx.mono hb3.size)
            clear HG HB2 hb3 hbx
            have r0 := HG2.out 0 l1
            rw [Nat.add_zero] at r0
            have hn1 : n < n + D.length := by omega
            -- the leading digit
            have hlead : (Ex.iAt D 0 == 48) = false ∨ ((Ex.iAt D 0 == 48) = true ∧ D.length = 1) := by
              cases D with
              | nil => simp at l1
              | cons c cs =>
                by_cases hc : c = 48
                · right
                  have := HDL.out c cs rfl hc
                  subst this
                  exact ⟨by simpa [Ex.iAt] using hc, rfl⟩
                · left; simpa [Ex.iAt] using hc
            have fin : ∀ (K : Prop), ((Ex.iAt D 0 == 48) = false → K) → ((Ex.iAt D 0 == 48) = true → D.length = 1 → K) → K := fun K h1 h2 => by
              rcases hlead with h | ⟨h, h'⟩
              · exact h1 h
              · exact h2 h h'
            clear hlead
            refine fin _ (fun hld => ?_) (fun hld hl1 => ?_)
            all_goals
              clear fin
              try (have hl1i : ((n : Int) + (D.length : Int) != (n : Int) + 1) = false := by simp; omega)
              go_wp2_with fail
              clear r0
              try clear hl1i
              go_loop [11, 12, 13] (fun v i _ => ∃ (q : Nat), q ≤ D.length ∧ i = .int .i64 ((n : Int) + (q : Int)) ∧ v = .int .u64 (Ex.dval 0 (D.take q))) (fun _ i _ => (n + D.length) - (intOf i).toNat)
              case atStart => exact ⟨0, by omega, by go_num, rfl⟩
              case round =>
                obtain ⟨q, hq, rfl, rfl⟩ := hrel
                by_cases hqd : q < D.length
                · have r1 := HG2.out q hqd
                  obtain ⟨e1, e2⟩ := HDD.out _ (Ex.iAt_mem D q hqd)
                  have hdv := Ex.dval_take_succ D q hqd
                  have hdl := Ex.dval_take_le D (q + 1)
                  rw [HDV.out] at hdl
                  have HDVS : Hid (Ex.dval 0 (D.take (q + 1)) = Ex.dval 0 (D.take q) * 10 + (Ex.iAt D q - 48).toNat) := hdv
                  have hbd : Ex.dval 0 (D.take q) * 10 + (Ex.iAt D q - 48).toNat ≤ N := by rw [← hdv]; exact hdl
                  clear hdv hdl
                  generalize Ex.iAt D q = c at *
                  generalize Ex.dval 0 (D.take q) = V at *
                  have d1 : decide (c < 48) = false := by simp; omega
                  have d2 : decide (57 < c) = false := by simp; omega
                  go_wp2_with fail
                  go_round
                  case rel => exact ⟨q + 1, by omega, by go_num, by rw [HDVS.out]; go_num⟩
                  case measure => simp [intOf]; omega
                · have e1 : Ex.dval 0 (D.take q) = N := by rw [List.take_of_length_le (by omega)]; exact HDV.out
                  rw [e1]
                  go_wp2_with fail
                  go_ret
                  exact ⟨by simp, hbw⟩
end Go.Proofs.Ymbrbt
