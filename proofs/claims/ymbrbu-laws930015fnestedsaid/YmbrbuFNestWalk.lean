import Derived.Test.YmbrbuFNest
import Derived.Test.YmbrbuTrips
import Derived.BigQuiet
import Derived.Deep.Cut
import Derived.Deep.CutRange
set_option linter.unusedVariables false
set_option linter.unusedSimpArgs false
set_option linter.unnecessarySimpa false
namespace Go.Proofs.Ymbrbu
open Go.RowKit

set_option maxRecDepth 100000 in
set_option maxHeartbeats 4000000 in
theorem fnested_any (first : Nat) (a : Option Addr) (n cap : Nat) (ts : List (Int × Int × Int)) (w : World) (hf : first ≤ 255) (ht : Trips_bool_u8_u8 w a n cap ts) (hok : TripOk_bool_u8_u8 ts) :
    Calls Ybum.prog 5 #[.int .u8 first, .slice a n cap] w fun e w' => e = .returned (.bool true) ∧ Below w.heap.size w w' := by
  have hnc := ht.2.1
  have hcm := ht.2.2.1
  unfold maxLen at hcm
  have HT : Hid (Trips_bool_u8_u8 w a n cap ts) := ht
  have HOK : Hid (TripOk_bool_u8_u8 ts) := hok
  clear ht hok
  by_cases hbig : 256 < n
  · go_enter Ybum.func5, Ybum.ntmps5
    go_wp2_with fail
    go_ret
    exact ⟨rfl, Below.refl _ _⟩
  have d0 : decide ((256 : Int) < (n : Int)) = false := decide_eq_false (by omega)
  go_enter Ybum.func5, Ybum.ntmps5
  go_wp2_with fail
  refine (fdec_fn first w (by omega)).mono ?_
  rintro e w1 ⟨rfl, hw⟩
  subst hw
  have hz1 := dS_size first
  go_wp2_with fail
  go_loopw [6, 7, 8, 10, 11, 12, 25] (fun t v c _ _ _ i wr => ∃ (k : Nat) (s : ByteArray) (V C : Int), k ≤ n ∧ i = .int .i64 k ∧ t = .string s ∧ v = .int .i64 V ∧ c = .int .i64 C ∧ Hid (FI (sb s) V C) ∧ s.size ≤ 20 + 30 * k ∧ Ex.inI V ∧ Below w1.heap.size w1 wr) (fun _ _ _ _ _ _ i _ => n - (intOf i).toNat)
  case atStart => exact ⟨0, _, _, _, by omega, rfl, rfl, rfl, rfl, by rw [sb_dS]; exact FI.num first (by omega), by omega, by unfold Ex.inI; omega, Below.refl _ _⟩
  case round =>
    obtain ⟨k, s, V, C, hk, rfl, rfl, rfl, rfl, HF, hsz, hV, hb⟩ := hrel
    have hB := hb.size
    by_cases hlt : k < n
    · obtain ⟨b, off, rfl, hc⟩ := (HT.out.below hb).2.2.2 (by omega)
      obtain ⟨c1, c2, c3⟩ := hc k hlt
      have hq := HOK.out _ (Ex3_mem ts k (by have := HT.out.1; omega))
      obtain ⟨_, ⟨o1, o2⟩, ⟨o3, o4⟩⟩ := hq
      generalize Ex3 ts k = q at c1 c2 c3 o1 o2 o3 o4
      obtain ⟨x0, x1, x2⟩ := q
      obtain ⟨m, rfl⟩ : ∃ m : Nat, x2 = (m : Int) := ⟨x2.toNat, by simp only at o3; omega⟩
      simp only [bV] at c1 c2 c3 o1 o2 o3 o4
      obtain ⟨p, hp⟩ : ∃ p : Nat, x1 % 4 = (p : Int) := ⟨(x1 % 4).toNat, by omega⟩
      have hp4 : p < 4 := by omega
      clear hc
      go_wp2_with fail
      refine (fdec_fn m _ (by omega)).mono ?_
      rintro e w2 ⟨rfl, hw⟩
      have hz2 := dS_size m
      have hb2 : Below w1.heap.size w1 (wr.alloc (.cells #[.bool (x0 == 1), .int .u8 x1, .int .u8 (m : Int)] 35)) := hb.alloc hB _
      have hopz : (ops4.extract p (p + 1)).size = 1 := by
        have h3 := congrArg List.length (sb_op4 p hp4)
        rw [sb_len] at h3
        simpa using h3
      subst hw
      generalize (x0 == 1) = L at hb2 ⊢
      have hpi : (p : Int) < 4 := by omega
      have hmi : Ex.inI (m : Int) := by unfold Ex.inI; omega
      cases L
      · have HS : Hid (FI (sb (dS m ++ ops4.extract p (p + 1) ++ ⟨#[40]⟩ ++ s ++ ⟨#[41]⟩)) (jn (opc p) m 0 V C).1 (jn (opc p) m 0 V C).2) := by
          show FI _ _ _
          simp only [sb_append, sb_op4 p hp4, sb_dS]
          exact HF.out.right p m (by omega)
        have hsz2 : (dS m ++ ops4.extract p (p + 1) ++ ⟨#[40]⟩ ++ s ++ ⟨#[41]⟩).size ≤ 20 + 30 * (k + 1) := by
          simp only [ba_size_append, hopz]
          have e1 : (⟨#[40]⟩ : ByteArray).size = 1 := rfl
          have e2 : (⟨#[41]⟩ : ByteArray).size = 1 := rfl
          omega
        by_cases hC : C = 0
        · obtain ⟨r, hr⟩ : ∃ r, Ex.ap (opc p) m V = r := ⟨_, rfl⟩
          obtain ⟨V2, C2⟩ := r
          have hV2 : Ex.inI V2 := by have := Ex.ap_in (op := opc p) (a := m) (b := V); rw [hr] at this; exact this
          have ej : jn (opc p) m 0 V C = (V2, C2) := by simp [jn, hC, hr]
          rw [ej] at HS
          have dC : (C == 0) = true := by simpa using hC
          have HR : Hid (Ex.ap (opc p) m V = (V2, C2)) := hr
          have HZ2 : Hid ((dS m ++ ops4.extract p (p + 1) ++ ⟨#[40]⟩ ++ s ++ ⟨#[41]⟩).size ≤ 20 + 30 * (k + 1)) := hsz2
          clear hr ej hC HF hsz2
          go_upto_region 18 with fail
          clear hopz hz1 hz2
          have hp5 : p = 0 ∨ p = 1 ∨ p = 2 ∨ p = 3 := by omega
          rcases hp5 with rfl | rfl | rfl | rfl
          · go_quiet (first | (go_at_call 20; exact Calls.quiet_of_same (apply_is (opc 0) m V V2 C2 _ hmi hV HR.out)))
            go_wp2_with fail
            go_roundw
            case rel => exact ⟨k + 1, _, V2, C2, by omega, by go_num, rfl, rfl, rfl, HS, HZ2.out, hV2, below_drewN hb2 _⟩
            case measure => simp [intOf]; omega
          · go_quiet (first | (go_at_call 20; exact Calls.quiet_of_same (apply_is (opc 1) m V V2 C2 _ hmi hV HR.out)))
            go_wp2_with fail
            go_roundw
            case rel => exact ⟨k + 1, _, V2, C2, by omega, by go_num, rfl, rfl, rfl, HS, HZ2.out, hV2, below_drewN hb2 _⟩
            case measure => simp [intOf]; omega
          · go_quiet (first | (go_at_call 20; exact Calls.quiet_of_same (apply_is (opc 2) m V V2 C2 _ hmi hV HR.out)))
            go_wp2_with fail
            go_roundw
            case rel => exact ⟨k + 1, _, V2, C2, by omega, by go_num, rfl, rfl, rfl, HS, HZ2.out, hV2, below_drewN hb2 _⟩
            case measure => simp [intOf]; omega
          · go_quiet (first | (go_at_call 20; exact Calls.quiet_of_same (apply_is (opc 3) m V V2 C2 _ hmi hV HR.out)))
            go_wp2_with fail
            go_roundw
            case rel => exact ⟨k + 1, _, V2, C2, by omega, by go_num, rfl, rfl, rfl, HS, HZ2.out, hV2, below_drewN hb2 _⟩
            case measure => simp [intOf]; omega
        · have ej : jn (opc p) m 0 V C = (V, C) := by
            have hv0 := HF.out.keep hC
            simp [jn, hC, hv0]
          rw [ej] at HS
          have dC : (C == 0) = false := by simpa using hC
          have HZ2 : Hid ((dS m ++ ops4.extract p (p + 1) ++ ⟨#[40]⟩ ++ s ++ ⟨#[41]⟩).size ≤ 20 + 30 * (k + 1)) := hsz2
          clear ej HF hsz2 hC
          go_wp2_with fail
          go_roundw
          case rel => exact ⟨k + 1, _, V, C, by omega, by go_num, rfl, rfl, rfl, HS, HZ2.out, hV, hb2⟩
          case measure => simp [intOf]; omega
      · have HS : Hid (FI (sb (⟨#[40]⟩ ++ s ++ ⟨#[41]⟩ ++ ops4.extract p (p + 1) ++ dS m)) (jn (opc p) V C m 0).1 (jn (opc p) V C m 0).2) := by
          show FI _ _ _
          simp only [sb_append, sb_op4 p hp4, sb_dS]
          exact HF.out.left p m (by omega)
        have hsz2 : (⟨#[40]⟩ ++ s ++ ⟨#[41]⟩ ++ ops4.extract p (p + 1) ++ dS m).size ≤ 20 + 30 * (k + 1) := by
          simp only [ba_size_append, hopz]
          have e1 : (⟨#[40]⟩ : ByteArray).size = 1 := rfl
          have e2 : (⟨#[41]⟩ : ByteArray).size = 1 := rfl
          omega
        by_cases hC : C = 0
        · obtain ⟨r, hr⟩ : ∃ r, Ex.ap (opc p) V m = r := ⟨_, rfl⟩
          obtain ⟨V2, C2⟩ := r
          have hV2 : Ex.inI V2 := by have := Ex.ap_in (op := opc p) (a := V) (b := m); rw [hr] at this; exact this
          have ej : jn (opc p) V C m 0 = (V2, C2) := by simp [jn, hC, hr]
          rw [ej] at HS
          have dC : (C == 0) = true := by simpa using hC
          have HR : Hid (Ex.ap (opc p) V m = (V2, C2)) := hr
          have HZ2 : Hid ((⟨#[40]⟩ ++ s ++ ⟨#[41]⟩ ++ ops4.extract p (p + 1) ++ dS m).size ≤ 20 + 30 * (k + 1)) := hsz2
          clear hr ej hC HF hsz2
          go_upto_region 15 with fail
          clear hopz hz1 hz2
          have hp5 : p = 0 ∨ p = 1 ∨ p = 2 ∨ p = 3 := by omega
          rcases hp5 with rfl | rfl | rfl | rfl
          · go_quiet (first | (go_at_call 20; exact Calls.quiet_of_same (apply_is (opc 0) V m V2 C2 _ hV hmi HR.out)))
            go_wp2_with fail
            go_roundw
            case rel => exact ⟨k + 1, _, V2, C2, by omega, by go_num, rfl, rfl, rfl, HS, HZ2.out, hV2, below_drewN hb2 _⟩
            case measure => simp [intOf]; omega
          · go_quiet (first | (go_at_call 20; exact Calls.quiet_of_same (apply_is (opc 1) V m V2 C2 _ hV hmi HR.out)))
            go_wp2_with fail
            go_roundw
            case rel => exact ⟨k + 1, _, V2, C2, by omega, by go_num, rfl, rfl, rfl, HS, HZ2.out, hV2, below_drewN hb2 _⟩
            case measure => simp [intOf]; omega
          · go_quiet (first | (go_at_call 20; exact Calls.quiet_of_same (apply_is (opc 2) V m V2 C2 _ hV hmi HR.out)))
            go_wp2_with fail
            go_roundw
            case rel => exact ⟨k + 1, _, V2, C2, by omega, by go_num, rfl, rfl, rfl, HS, HZ2.out, hV2, below_drewN hb2 _⟩
            case measure => simp [intOf]; omega
          · go_quiet (first | (go_at_call 20; exact Calls.quiet_of_same (apply_is (opc 3) V m V2 C2 _ hV hmi HR.out)))
            go_wp2_with fail
            go_roundw
            case rel => exact ⟨k + 1, _, V2, C2, by omega, by go_num, rfl, rfl, rfl, HS, HZ2.out, hV2, below_drewN hb2 _⟩
            case measure => simp [intOf]; omega
        · have ej : jn (opc p) V C m 0 = (V, C) := by
            have hv0 := HF.out.keep hC
            simp [jn, hC, hv0]
          rw [ej] at HS
          have dC : (C == 0) = false := by simpa using hC
          have HZ2 : Hid ((⟨#[40]⟩ ++ s ++ ⟨#[41]⟩ ++ ops4.extract p (p + 1) ++ dS m).size ≤ 20 + 30 * (k + 1)) := hsz2
          clear ej HF hsz2 hC
          go_wp2_with fail
          go_roundw
          case rel => exact ⟨k + 1, _, V, C, by omega, by go_num, rfl, rfl, rfl, HS, HZ2.out, hV, hb2⟩
          case measure => simp [intOf]; omega
    · have hkd : decide ((k : Int) < (n : Int)) = false := decide_eq_false (by omega)
      have HE : Hid (evS (sb s) = (V, C)) := HF.out.ev
      clear HF
      go_wp2_with fail
      refine (eval_any s V C _ (by omega) HE.out).mono ?_
      rintro e w5 ⟨rfl, hb5⟩
      have d1 : (V == V) = true := by simp
      have d2 : (C == C) = true := by simp
      go_wp2_with fail
      go_ret
      exact ⟨rfl, hb.trans (hb5.mono hB)⟩
end Go.Proofs.Ymbrbu
