import Derived.Test.YmbrbuEv
import Derived.Test.YmbrbuApplyWalk
import Derived.Test.YmbrbuVpWalk
import Derived.Test.YmbrbuOwnInt
set_option linter.unusedVariables false
set_option linter.unusedSimpArgs false
set_option linter.unnecessarySimpa false
namespace Go.Proofs.Ymbrbu
open Go.RowKit

def evR (p : Int × Int) : Ending := .returned (.tuple #[.int .i64 p.1, .int .i64 p.2])

set_option maxHeartbeats 2000000 in
theorem ev_bad (a : Option Addr) (n cap : Nat) (ts : List (Int × Int)) (w : World) (ht : Toks w a n cap ts) (hv : Ex.vpB ts = false) :
    Calls Ybum.prog 39 #[.slice a n cap] w fun e w' => e = .returned (.tuple #[.int .i64 0, .int .i64 2]) ∧ Below w.heap.size w w' := by
  have HT : Hid (Toks w a n cap ts) := ht
  clear ht
  go_enter Ybum.func39, Ybum.ntmps39
  go_wp2_with fail
  refine (vp_any _ _ _ ts _ HT.out).mono ?_
  rw [hv]
  rintro e w1 ⟨rfl, hb1⟩
  go_wp2_with fail
  go_ret2
  exact ⟨rfl, hb1⟩

set_option maxRecDepth 100000 in
set_option maxHeartbeats 4000000 in
theorem ev_good (a : Option Addr) (n cap : Nat) (ts : List (Int × Int)) (V C : Int) (w : World) (ht : Toks w a n cap ts) (hok : TokOk ts) (hn : n < 1000000) (hv : Ex.vpB ts = true) (hR : Ex.er [] ts = (V, C)) :
    Calls Ybum.prog 39 #[.slice a n cap] w fun e w' => e = .returned (.tuple #[.int .i64 V, .int .i64 C]) ∧ Below w.heap.size w w' := by
  have hnc := ht.2.1
  have hcm := ht.2.2.1
  unfold maxLen at hcm
  have HL : Hid (ts.length = n) := ht.1
  have HT : Hid (Toks w a n cap ts) := ht
  have HO : Hid (TokOk ts) := hok
  have HR : Hid (Ex.er [] ts = (V, C)) := hR
  have HV : Hid (Ex.vrun 0 ts = some 1) := Ex.vpB_iff.1 hv
  clear ht hok hR
  go_enter Ybum.func39, Ybum.ntmps39
  go_wp2_with fail
  refine (vp_any _ _ _ ts _ HT.out).mono ?_
  rw [hv]
  rintro e w1 ⟨rfl, hb1⟩
  have hB1 := hb1.size
  clear hv
  go_wp2_with (first
    | (at_make; go_must (refine make_int _ 81 2 .i64 8 Ybum.underlying81 Ybum.infoI64 (by omega) rfl _ _ rfl w.heap.size _ _ _ _ 0 n rfl rfl rfl (by omega) (by omega) (by omega) (by omega) ?_; intro w2 hown2 hb2 hlt2)))
  have hb2' : Below w.heap.size w w2 := hb1.trans (hb2.mono hB1)
  clear hb1 hb2 hlt2 hB1
  go_loopw [4, 18] (fun v i wr => ∃ (k : Nat) (st : List Int), k ≤ n ∧ i = .int .i64 k ∧ st.length ≤ k ∧ Hid (∀ x ∈ st, Ex.inI x) ∧ Hid (Ex.vrun st.length (ts.drop k) = some 1) ∧ Hid (Ex.er st (ts.drop k) = (V, C)) ∧ OwnI 2 .i64 wr w.heap.size v st.reverse ∧ Below w.heap.size w wr) (fun _ i _ => n - (intOf i).toNat)
  case atStart => exact ⟨0, [], by omega, rfl, by simp, (fun x hx => by cases hx), HV.out, HR.out, hown2, hb2'⟩
  case round =>
    clear hown2 hb2'
    obtain ⟨k, st, hk, rfl, hsk, HI, HVk, HRk, hown, hb⟩ := hrel
    have hB := hb.size
    by_cases hlt : k < n
    · have hkl : k < ts.length := by have := HL.out; omega
      obtain ⟨b, off, rfl, hc⟩ := (HT.out.below hb).2.2.2 (by omega)
      obtain ⟨c1, c2⟩ := hc k hlt
      obtain ⟨o1, o2, o3⟩ := HO.out.at k hkl
      have HD : Hid (ts.drop k = (Ex.kAt ts k, Ex.vAt ts k) :: ts.drop (k + 1)) := Ex.drop_at ts k hkl
      clear hc
      by_cases h48 : Ex.kAt ts k = 48
      · have hk48 : (Ex.kAt ts k == 48) = true := by simpa using h48
        have HV2 : Hid (Ex.vrun (Ex.vAt ts k :: st).length (ts.drop (k + 1)) = some 1) := by
          show _ = _
          rw [← HVk.out, HD.out, Ex.vrun_num h48]; rfl
        have HR2 : Hid (Ex.er (Ex.vAt ts k :: st) (ts.drop (k + 1)) = (V, C)) := by
          show _ = _
          rw [← HRk.out, HD.out, Ex.er_num h48]
        have HI2 : Hid (∀ x ∈ Ex.vAt ts k :: st, Ex.inI x) := fun x hx => by
          rcases List.mem_cons.1 hx with rfl | hx
          · exact o3
          · exact HI.out x hx
        clear h48
        go_wp2_with (first
          | (at_builtin; go_must (refine app_int _ 81 2 .i64 8 Ybum.underlying81 Ybum.infoI64 (by omega) rfl (.tmp 25) (.tmp 28) rfl w.heap.size _ st.reverse rfl ((hown.alloc _).alloc _) _ (Ex.vAt ts k) rfl (by simp) (by rw [List.length_reverse]; omega) (by simp; omega) ?_; intro v' w2 hown2 hold2 hgr2)))
        go_roundw
        case rel => exact ⟨k + 1, Ex.vAt ts k :: st, by omega, by go_num, by simp; omega, HI2, HV2, HR2, by rw [List.reverse_cons]; exact hown2, below_app hb hB hown.baseLe hgr2.after_alloc.after_alloc⟩
        case measure => simp [intOf]; omega
      · have hk48 : (Ex.kAt ts k == 48) = false := by simpa using h48
        have hp : 0 < Ex.prec (Ex.kAt ts k) ∧ 2 ≤ st.length := by
          have h := HVk.out
          rw [HD.out] at h
          refine Decidable.byContradiction fun hn => ?_
          rw [Ex.vrun_bad h48 hn] at h
          cases h
        obtain ⟨y, x, r, rfl⟩ : ∃ y x r, st = y :: x :: r := by
          match st, hp.2 with
          | y :: x :: r, _ => exact ⟨y, x, r, rfl⟩
        have hst : (y :: x :: r).reverse = r.reverse ++ [x, y] := by simp
        rw [hst] at hown
        obtain ⟨g, cg, rfl⟩ := hown.atSome (by simp)
        have hgl : (r.reverse ++ [x, y]).length = r.length + 2 := by simp
        rw [hgl] at hown ⊢
        have hcg := hown.len
        unfold maxLen at hcg
        obtain ⟨_, hcg1, hcg2⟩ := hcg
        obtain ⟨ta, tb⟩ := Ex.two_at r x y
        have e1 := hown.cellsAt r.length (by rw [hgl]; omega)
        have e2 := hown.cellsAt (r.length + 1) (by rw [hgl]; omega)
        rw [ta] at e1
        rw [tb] at e2
        have f1 : ∀ o, (wr.alloc o).frozen? ⟨g, r.length, none⟩ = false := fun o => (hown.alloc o).frozenAt r.length
        have e1' : ∀ o, (wr.alloc o).cell? ⟨g, r.length, none⟩ = some (.int .i64 x) := fun o => by
          have h := (hown.alloc o).cellsAt r.length (by rw [hgl]; omega)
          rw [ta] at h; exact h
        have e2' : ∀ o, (wr.alloc o).cell? ⟨g, r.length + 1, none⟩ = some (.int .i64 y) := fun o => by
          have h := (hown.alloc o).cellsAt (r.length + 1) (by rw [hgl]; omega)
          rw [tb] at h; exact h
        have i1 := HI.out x (by simp)
        have i2 := HI.out y (by simp)
        simp only [List.length_cons] at hsk
        obtain ⟨P, hP⟩ : ∃ P, Ex.ap (Ex.kAt ts k) x y = P := ⟨_, rfl⟩
        obtain ⟨pv, pc⟩ := P
        have HAP : Hid (Ex.ap (Ex.kAt ts k) x y = (pv, pc)) := hP
        have hpv : Ex.inI pv := by have := Ex.ap_in (op := Ex.kAt ts k) (a := x) (b := y); rw [hP] at this; exact this
        have HQ : ∀ (w' : World), Calls Ybum.prog 20 #[.int .u8 (Ex.kAt ts k), .int .i64 x, .int .i64 y] w' fun e w'' => e = .returned (.tuple #[.int .i64 pv, .int .i64 pc]) ∧ w'' = w' := fun w' => apply_is _ x y pv pc w' i1 i2 HAP.out
        have HQH : Hid (∀ (w' : World), Calls Ybum.prog 20 #[.int .u8 (Ex.kAt ts k), .int .i64 x, .int .i64 y] w' fun e w'' => e = .returned (.tuple #[.int .i64 pv, .int .i64 pc]) ∧ w'' = w') := HQ
        have y1 : (r.length : Int) < (r.length : Int) + 2 := by omega
        have y2 : (r.length : Int) + 1 < (r.length : Int) + 2 := by omega
        have y3 : (0 : Int) ≤ (r.length : Int) := by omega
        have y4 : (0 : Int) ≤ (r.length : Int) + 1 := by omega
        have y5 : (r.length : Int) < ((r.length + 2 : Nat) : Int) := by omega
        have y6 : (r.length : Int) + 1 < ((r.length + 2 : Nat) : Int) := by omega
        have hw1 : IntKind.i64.wrap (r.length : Int) = (r.length : Int) := by rw [IntKind.wrap_i64]; omega
        have hw2 : IntKind.i64.wrap ((r.length : Int) + 2 - 2) = (r.length : Int) := by rw [IntKind.wrap_i64]; omega
        have hw3 : IntKind.i64.wrap ((r.length : Int) + 2 - 1) = (r.length : Int) + 1 := by rw [IntKind.wrap_i64]; omega
        have hw4 : IntKind.i64.wrap ((r.length : Int) + 1) = (r.length : Int) + 1 := by rw [IntKind.wrap_i64]; omega
        clear HQ ta tb hst hP
        have hownA : ∀ o m, OwnI 2 .i64 ((wr.alloc o).drewN m) w.heap.size (.slice (some ⟨g, 0, none⟩) (r.length + 2) cg) (r.reverse ++ [x, y]) := fun o m => hown.alloc o
        have HOA : Hid (∀ o m, OwnI 2 .i64 ((wr.alloc o).drewN m) w.heap.size (.slice (some ⟨g, 0, none⟩) (r.length + 2) cg) (r.reverse ++ [x, y])) := hownA
        have hgB : w.heap.size ≤ g := (hown.lt g rfl).1
        have HBA : Hid (∀ o m, Below w.heap.size w ((wr.alloc o).drewN m)) := fun o m => below_drewN (hb.alloc hB o) m
        clear hownA
        by_cases hpc : pc = 0
        · subst hpc
          have HV2 : Hid (Ex.vrun (pv :: r).length (ts.drop (k + 1)) = some 1) := by
            show _ = _
            have h := HVk.out
            rw [HD.out, Ex.vrun_op h48 hp.1 hp.2] at h
            simpa using h
          have HR2 : Hid (Ex.er (pv :: r) (ts.drop (k + 1)) = (V, C)) := by
            show _ = _
            have h := HRk.out
            rw [HD.out, Ex.er_ok h48 (by rw [HAP.out]), HAP.out] at h
            exact h
          have HI2 : Hid (∀ z ∈ pv :: r, Ex.inI z) := fun z hz => by
            rcases List.mem_cons.1 hz with rfl | hz
            · exact hpv
            · exact HI.out z (by simp [hz])
          clear h48 hp
          go_wp2_with fail
          go_quiet ((go_at_call 20; exact Calls.quiet_of_same (HQH.out _)))
          rename_i nq
          have hO2 := HOA.out (.cells #[.int .u8 (Ex.kAt ts k), .int .i64 (Ex.vAt ts k)] 58) nq
          have hB2 := HBA.out (.cells #[.int .u8 (Ex.kAt ts k), .int .i64 (Ex.vAt ts k)] 58) nq
          obtain ⟨W2, hW2⟩ : ∃ W2, W2 = (wr.alloc (.cells #[.int .u8 (Ex.kAt ts k), .int .i64 (Ex.vAt ts k)] 58)).drewN nq := ⟨_, rfl⟩
          rw [← hW2] at hO2 hB2 ⊢
          clear hW2 HOA HBA hown hb hB e1 e2 e1' e2' f1
          have g1 := hO2.cellsAt r.length (by rw [hgl]; omega)
          have g2 := hO2.frozenAt r.length
          obtain ⟨hO3, hG3⟩ := OwnI.set hO2 r.length pv
          have hO4 := OwnI.take hO3 (r.length + 1) (by omega)
          rw [Ex.two_set] at hO4
          have hB3 := below_setTok hB2 hG3 hB2.size hgB
          clear hO3 hO2 hG3 hB2
          go_wp2_with fail
          go_roundw
          case rel => exact ⟨k + 1, pv :: r, by omega, by go_num, by simp; omega, HI2, HV2, HR2, hO4, hB3⟩
          case measure => simp [intOf]; omega
        · have hpc' : (pc != 0) = true := by simpa using hpc
          have HF : Hid (V = 0 ∧ C = pc) := by
            have h := HRk.out
            rw [HD.out, Ex.er_fail h48 (by rw [HAP.out]; exact hpc), HAP.out] at h
            simp only [Prod.mk.injEq] at h
            exact ⟨h.1.symm, h.2.symm⟩
          clear h48 hp hpc
          go_wp2_with fail
          go_quiet ((go_at_call 20; exact Calls.quiet_of_same (HQH.out _)))
          go_wp2_with fail
          go_ret2
          obtain ⟨r1, r2⟩ := HF.out
          subst r1 r2
          exact ⟨rfl, HBA.out _ _⟩
    · have hkn : decide ((k : Int) < (n : Int)) = false := decide_eq_false (by omega)
      have hdn : ts.drop k = [] := List.drop_eq_nil_of_le (by have := HL.out; omega)
      have hs1 : st.length = 1 := by
        have h := HVk.out
        rw [hdn, Ex.vrun] at h
        simpa using h
      obtain ⟨x, rfl⟩ : ∃ x, st = [x] := by
        match st, hs1 with
        | [x], _ => exact ⟨x, rfl⟩
      have HF : Hid (V = x ∧ C = 0) := by
        have h := HRk.out
        rw [hdn, Ex.er_nil] at h
        simp only [Prod.mk.injEq] at h
        exact ⟨h.1.symm, h.2.symm⟩
      have hown' : OwnI 2 .i64 wr w.heap.size _ [x] := hown
      obtain ⟨g, cg, rfl⟩ := hown'.atSome (by simp)
      have e1 := hown'.cellsAt 0 (by simp)
      have e0 : Ex.iAt [x] 0 = x := rfl
      rw [e0] at e1
      have hcg := hown'.len
      unfold maxLen at hcg
      obtain ⟨_, hcg1, hcg2⟩ := hcg
      simp only [List.length_singleton]
      clear hdn hown hown' e0 hs1
      go_wp2_with fail
      go_ret2
      obtain ⟨r1, r2⟩ := HF.out
      subst r1 r2
      exact ⟨rfl, hb⟩

theorem ev_any (a : Option Addr) (n cap : Nat) (ts : List (Int × Int)) (V C : Int) (w : World) (ht : Toks w a n cap ts) (hok : TokOk ts) (hn : n < 1000000) (hR : Ex.evP ts = (V, C)) :
    Calls Ybum.prog 39 #[.slice a n cap] w fun e w' => e = .returned (.tuple #[.int .i64 V, .int .i64 C]) ∧ Below w.heap.size w w' := by
  unfold Ex.evP at hR
  by_cases hv : Ex.vpB ts = true
  · rw [if_pos hv] at hR
    exact ev_good a n cap ts V C w ht hok hn hv hR
  · rw [if_neg hv] at hR
    cases hR
    exact ev_bad a n cap ts w ht (by cases h : Ex.vpB ts <;> simp_all)
end Go.Proofs.Ymbrbu
