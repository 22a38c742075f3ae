import Derived.Test.YmbrbtABuildWalk
import Derived.Test.YmbrbtEvWalk
set_option linter.unusedVariables false
set_option linter.unusedSimpArgs false
set_option linter.unnecessarySimpa false
namespace Go.Proofs.Ymbrbt
open Go.RowKit

def atR (p : Int × Int × Nat) : Ending := .returned (.tuple #[.int .i64 p.1, .int .i64 p.2.1, .int .i64 (p.2.2 : Int)])
theorem atR_of {p : Int × Int × Nat} {v c : Int} {s : Nat} (h : p = (v, c, s)) : atR p = .returned (.tuple #[.int .i64 v, .int .i64 c, .int .i64 (s : Int)]) := by rw [h]; rfl

set_option maxRecDepth 100000 in
set_option maxHeartbeats 4000000 in
theorem atree_zero (a : Option Addr) (n cap : Nat) (w : World) :
    Calls Ybtm.prog 16 #[.slice a n cap, .int .i64 0] w fun x w' => x = .returned (.tuple #[.int .i64 0, .int .i64 2, .int .i64 0]) ∧ Below w.heap.size w w' := by
  go_enter Ybtm.func16, Ybtm.ntmps16
  go_wp2_with fail
  go_ret3
  exact ⟨rfl, Below.refl _ _⟩

set_option maxRecDepth 100000 in
set_option maxHeartbeats 4000000 in
theorem atree_any (ts : List (Int × Int)) (hok : TokOk ts) (a : Option Addr) (n cap : Nat) (hn : n < 1000000) (f : Nat) : ∀ (e : Nat) (w : World), e ≤ n → e ≤ f → Toks w a n cap ts →
    Calls Ybtm.prog 16 #[.slice a n cap, .int .i64 e] w fun x w' => x = atR (Ex.atN ts (f + 1) e) ∧ Below w.heap.size w w' := by
  induction f with
  | zero =>
    intro e w _ he ht
    obtain rfl : e = 0 := by omega
    exact atree_zero a n cap w
  | succ f ih =>
    intro e w hen hef ht
    by_cases he0 : e = 0
    · subst he0
      rw [atR_of (show Ex.atN ts (f + 1 + 1) 0 = (0, 2, 0) from by rw [Ex.atN, if_pos rfl])]
      exact atree_zero a n cap w
    obtain ⟨i, rfl⟩ : ∃ i, e = i + 1 := ⟨e - 1, by omega⟩
    have hnc := ht.2.1
    have hcm := ht.2.2.1
    unfold maxLen at hcm
    have HL : Hid (ts.length = n) := ht.1
    have HT : Hid (Toks w a n cap ts) := ht
    have IH : Hid (∀ (e : Nat) (w : World), e ≤ n → e ≤ f → Toks w a n cap ts →
      Calls Ybtm.prog 16 #[.slice a n cap, .int .i64 e] w fun x w' => x = atR (Ex.atN ts (f + 1) e) ∧ Below w.heap.size w w') := ih
    obtain ⟨o1, o2, o3⟩ := hok.at i (by have := HL.out; omega)
    have HI : Hid (∀ e, e ≤ n → Ex.inI (Ex.atN ts (f + 1) e).1) := fun e he => Ex.atN_in ts (fun t ht => (hok t ht).2.2) (f + 1) e (by have := HL.out; omega)
    obtain ⟨b, off, rfl, hc⟩ := ht.2.2.2 (by omega)
    obtain ⟨c1, c2⟩ := hc i (by omega)
    have d0 : decide ((i : Int) + 1 ≤ 0) = false := decide_eq_false (by omega)
    have d1 : decide (((i + 1 : Nat) : Int) ≤ 0) = false := decide_eq_false (by omega)
    clear hc ht ih
    by_cases h48 : Ex.kAt ts i = 48
    · rw [atR_of (show Ex.atN ts (f + 1 + 1) (i + 1) = (Ex.vAt ts i, 0, i) from by rw [Ex.atN, if_neg (by omega)]; simp [h48])]
      have hk48 : (Ex.kAt ts i == 48) = true := by simpa using h48
      clear h48
      go_enter Ybtm.func16, Ybtm.ntmps16
      go_wp2_with fail
      go_ret3
      exact ⟨rfl, (Below.refl _ _).alloc (Nat.le_refl _) _⟩
    · have hk48 : (Ex.kAt ts i == 48) = false := by simpa using h48
      obtain ⟨rv, rc, rs, hr⟩ : ∃ rv rc rs, Ex.atN ts (f + 1) i = (rv, rc, rs) := ⟨_, _, _, rfl⟩
      have hrs : rs ≤ i := by have := Ex.atN_le ts (f + 1) i; rw [hr] at this; exact this
      obtain ⟨lv, lc, ls, hl⟩ : ∃ lv lc ls, Ex.atN ts (f + 1) rs = (lv, lc, ls) := ⟨_, _, _, rfl⟩
      have ir : Ex.inI rv := by have := HI.out i (by omega); rw [hr] at this; exact this
      have il : Ex.inI lv := by have := HI.out rs (by omega); rw [hl] at this; exact this
      have HR : Hid (Ex.atN ts (f + 1) i = (rv, rc, rs)) := hr
      have HLL : Hid (Ex.atN ts (f + 1) rs = (lv, lc, ls)) := hl
      have hN : Ex.atN ts (f + 1 + 1) (i + 1) = if lc ≠ 0 then (0, lc, ls) else if rc ≠ 0 then (0, rc, ls) else ((Ex.ap (Ex.kAt ts i) lv rv).1, (Ex.ap (Ex.kAt ts i) lv rv).2, ls) := by
        rw [Ex.atN, if_neg (by omega)]
        simp only [Nat.add_sub_cancel]
        rw [if_neg h48, hr]
        simp only [hl]
      clear hr hl h48 HI
      by_cases hlc : lc = 0
      · by_cases hrc : rc = 0
        · obtain ⟨P, hP⟩ : ∃ P, Ex.ap (Ex.kAt ts i) lv rv = P := ⟨_, rfl⟩
          obtain ⟨pv, pc⟩ := P
          rw [atR_of (hN.trans (by rw [if_neg (by simp [hlc]), if_neg (by simp [hrc]), hP]))]
          have HP : Hid (Ex.ap (Ex.kAt ts i) lv rv = (pv, pc)) := hP
          subst hlc hrc
          clear hN hP
          go_enter Ybtm.func16, Ybtm.ntmps16
          go_wp2_with fail
          refine (IH.out i _ (by omega) (by omega) (HT.out.below ((Below.refl _ _).alloc (Nat.le_refl _) _))).mono ?_
          rw [HR.out]
          rintro x w1 ⟨rfl, hb1⟩
          have hbw1 : Below w.heap.size w w1 := ((Below.refl _ _).alloc (Nat.le_refl _) _).trans (hb1.mono (by simp))
          have c3 : w1.cell? ⟨w.heap.size, 0, none⟩ = some (.int .u8 (Ex.kAt ts i)) := by rw [hb1.cell (p := ⟨w.heap.size, 0, none⟩) (by simp)]; simp
          have hs1 : w.heap.size < w1.heap.size := by have := hb1.size; simp at this; omega
          clear hb1
          simp only [atR]
          go_wp2_with fail
          refine (IH.out rs _ (by omega) (by omega) (HT.out.below hbw1)).mono ?_
          rw [HLL.out]
          rintro x w2 ⟨rfl, hb2⟩
          have hbw2 : Below w.heap.size w w2 := hbw1.trans (hb2.mono hbw1.size)
          have c4 : w2.cell? ⟨w.heap.size, 0, none⟩ = some (.int .u8 (Ex.kAt ts i)) := by rw [hb2.cell (p := ⟨w.heap.size, 0, none⟩) hs1]; exact c3
          clear hb2 c3
          simp only [atR]
          go_wp2_with fail
          refine (apply_is _ lv rv pv pc _ il ir HP.out).mono ?_
          rintro x w3 ⟨rfl, rfl⟩
          go_wp2_with fail
          go_ret3
          exact ⟨rfl, hbw2⟩
        · rw [atR_of (hN.trans (by rw [if_neg (by simp [hlc]), if_pos hrc]))]
          have hrc' : (rc != 0) = true := by simpa using hrc
          subst hlc
          clear hN hrc
          go_enter Ybtm.func16, Ybtm.ntmps16
          go_wp2_with fail
          refine (IH.out i _ (by omega) (by omega) (HT.out.below ((Below.refl _ _).alloc (Nat.le_refl _) _))).mono ?_
          rw [HR.out]
          rintro x w1 ⟨rfl, hb1⟩
          have hbw1 : Below w.heap.size w w1 := ((Below.refl _ _).alloc (Nat.le_refl _) _).trans (hb1.mono (by simp))
          clear hb1
          simp only [atR]
          go_wp2_with fail
          refine (IH.out rs _ (by omega) (by omega) (HT.out.below hbw1)).mono ?_
          rw [HLL.out]
          rintro x w2 ⟨rfl, hb2⟩
          have hbw2 : Below w.heap.size w w2 := hbw1.trans (hb2.mono hbw1.size)
          clear hb2
          simp only [atR]
          go_wp2_with fail
          go_ret3
          exact ⟨rfl, hbw2⟩
      · rw [atR_of (hN.trans (by rw [if_pos hlc]))]
        have hlc' : (lc != 0) = true := by simpa using hlc
        clear hN hlc
        go_enter Ybtm.func16, Ybtm.ntmps16
        go_wp2_with fail
        refine (IH.out i _ (by omega) (by omega) (HT.out.below ((Below.refl _ _).alloc (Nat.le_refl _) _))).mono ?_
        rw [HR.out]
        rintro x w1 ⟨rfl, hb1⟩
        have hbw1 : Below w.heap.size w w1 := ((Below.refl _ _).alloc (Nat.le_refl _) _).trans (hb1.mono (by simp))
        clear hb1
        simp only [atR]
        go_wp2_with fail
        refine (IH.out rs _ (by omega) (by omega) (HT.out.below hbw1)).mono ?_
        rw [HLL.out]
        rintro x w2 ⟨rfl, hb2⟩
        have hbw2 : Below w.heap.size w w2 := hbw1.trans (hb2.mono hbw1.size)
        clear hb2
        simp only [atR]
        go_wp2_with fail
        go_ret3
        exact ⟨rfl, hbw2⟩

set_option maxRecDepth 100000 in
set_option maxHeartbeats 4000000 in
theorem lawtree_any (a : Option Addr) (n cap : Nat) (rs : List (Int × Int)) (w : World) (ht : Toks w a n cap rs) (hok : TokOk rs) :
    Calls Ybtm.prog 3 #[.slice a n cap] w fun e w' => e = .returned (.bool true) ∧ Below w.heap.size w w' := by
  have hnc := ht.2.1
  have hcm := ht.2.2.1
  unfold maxLen at hcm
  have HT : Hid (Toks w a n cap rs) := ht
  have HO : Hid (TokOk rs) := hok
  clear ht hok
  by_cases hbig : 1024 < n
  · go_enter Ybtm.func3, Ybtm.ntmps3
    go_wp2_with fail
    go_ret
    exact ⟨rfl, Below.refl _ _⟩
  have d0 : decide ((1024 : Int) < (n : Int)) = false := decide_eq_false (by omega)
  go_enter Ybtm.func3, Ybtm.ntmps3
  go_wp2_with fail
  refine (abuild_any _ _ _ rs _ HT.out HO.out (by omega)).mono ?_
  rintro e w1 ⟨v, ts, rfl, hown, hv, hl, hok2, hb1⟩
  obtain ⟨a1, c1, rfl, hTk⟩ := hown.toks
  have hc1 := hTk.2.2.1
  unfold maxLen at hc1
  obtain ⟨P, hP⟩ : ∃ P, Ex.er [] ts = P := ⟨_, rfl⟩
  obtain ⟨V, C⟩ := P
  have hat := Ex.atN_valid ts hv (ts.length + 1) [] [] (by omega)
  rw [List.nil_append, List.append_nil, List.length_nil, Nat.zero_add, hP] at hat
  have HAT : Hid (Ex.atN ts (ts.length + 1) ts.length = (V, C, 0)) := hat
  have HTK : Hid (Toks w1 a1 ts.length c1 ts) := hTk
  have HO2 : Hid (TokOk ts) := hok2
  have HEV : Hid (Ex.evP ts = (V, C)) := by show _ = _; unfold Ex.evP; rw [if_pos (Ex.vpB_iff.2 hv)]; exact hP
  clear hown hTk hok2 hv hP hat
  go_wp2_with fail
  refine (atree_any ts HO2.out a1 ts.length c1 (by omega) ts.length ts.length _ (Nat.le_refl _) (Nat.le_refl _) HTK.out).mono ?_
  rw [atR_of HAT.out]
  rintro e w2 ⟨rfl, hb2⟩
  go_wp2_with fail
  refine (ev_any a1 ts.length c1 ts V C _ (HTK.out.below hb2) HO2.out (by omega) HEV.out).mono ?_
  rintro e w3 ⟨rfl, hb3⟩
  go_wp2_with fail
  go_ret
  exact ⟨rfl, (hb1.trans (hb2.mono hb1.size)).trans (hb3.mono (by have := hb1.size; have := hb2.size; omega))⟩
end Go.Proofs.Ymbrbt
