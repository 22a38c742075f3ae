import Derived.Test.YmbrbtCBuildWalk
import Derived.Test.YmbrbtNatWalk
import Derived.Test.YmbrbtConvOwn
import Derived.Test.YmbrbtTokenWalk
import Derived.Test.YmbrbtOpenTok
import Derived.Deep.Cut
import Derived.Deep.CutRange
set_option linter.unusedVariables false
set_option linter.unusedSimpArgs false
set_option linter.unnecessarySimpa false
namespace Go.Proofs.Ymbrbt
open Go.RowKit

def sepd (ts : List (Int × Int)) (k : Nat) : List Int := if k = 0 then [] else blanked (ts.take k)
theorem joined_next (ts : List (Int × Int)) (k : Nat) (h : k < ts.length) : joined (ts.take (k + 1)) = sepd ts k ++ spell (Ex.kAt ts k, Ex.vAt ts k) := by
  rw [Ex.take_at ts k h, joined_snoc]
  unfold sepd
  split
  · rename_i h0; subst h0; simp [blanked]
  · rfl

/-- what the printers answer -/
def FmtR (ts : List (Int × Int)) (s : ByteArray) (b : Bool) : Prop := b = ts.all lawB ∧ sb s = if ts.all lawB then joined ts else []
theorem FmtR.no {ts : List (Int × Int)} (h : ts.all lawB = false) : FmtR ts ⟨#[]⟩ false := ⟨h.symm, by rw [h]; rfl⟩
theorem FmtR.yes {ts : List (Int × Int)} {s : ByteArray} (h : ts.all lawB = true) (hs : sb s = joined ts) : FmtR ts s true := ⟨h.symm, by rw [h, hs]; rfl⟩

set_option maxRecDepth 100000 in
set_option maxHeartbeats 4000000 in
theorem format_any (a : Option Addr) (n cap : Nat) (ts : List (Int × Int)) (w : World) (ht : Toks w a n cap ts) (hok : TokOk ts) (hn : n ≤ 10000) :
    Calls Ybtm.prog 26 #[.slice a n cap] w fun e w' => ∃ s b, e = .returned (.tuple #[.string s, .bool b]) ∧ Below w.heap.size w w' ∧ FmtR ts s b := by
  have hnc := ht.2.1
  have hcm := ht.2.2.1
  have hln := ht.1
  unfold maxLen at hcm
  have HT : Hid (Toks w a n cap ts) := ht
  have HOK : Hid (TokOk ts) := hok
  have HLN : Hid (ts.length = n) := hln
  clear ht hok hln
  go_enter Ybtm.func26, Ybtm.ntmps26
  go_wp2_with (first
    | (at_make; refine make_int _ 39 5 .u8 1 Ybtm.underlying39 Ybtm.infoU8 (by omega) rfl _ (.tmp 9) rfl w.heap.size _ _ _ _ 0 (2 * n) rfl rfl rfl (by omega) (by omega) (by omega) (by omega) ?_; intro w1 hown1 hb1 hlt1))
  go_loopw [4, 5, 6, 13] (fun u _ _ i wr => ∃ (k : Nat), k ≤ n ∧ i = .int .i64 k ∧ Hid ((ts.take k).all lawB = true) ∧ OwnB wr w.heap.size u (joined (ts.take k)) ∧ Below w.heap.size w wr) (fun _ _ _ i _ => n - (intOf i).toNat)
  case atStart => exact ⟨0, by omega, rfl, rfl, by simpa [joined, blanked] using hown1, hb1⟩
  case round =>
    obtain ⟨k, hk, rfl, HA, hu, hb⟩ := hrel
    clear hown1 hb1 hlt1
    have hB := hb.size
    by_cases hlt : k < n
    · obtain ⟨b, off, rfl, hc⟩ := (HT.out.below hb).2.2.2 (by omega)
      obtain ⟨c1, c2⟩ := hc k hlt
      obtain ⟨o1, o2, o3⟩ := HOK.out.at k (by have := HLN.out; omega)
      have HJ : Hid (joined (ts.take (k + 1)) = sepd ts k ++ spell (Ex.kAt ts k, Ex.vAt ts k)) := joined_next ts k (by have := HLN.out; omega)
      have HA2 : Hid ((ts.take (k + 1)).all lawB = lawB (Ex.kAt ts k, Ex.vAt ts k)) := by
        show _ = _
        rw [Ex.take_at ts k (by have := HLN.out; omega), List.all_append, HA.out]; simp
      have HSP : Hid ((sepd ts k) = if k = 0 then [] else joined (ts.take k) ++ [32]) := by
        show _ = _
        unfold sepd
        split
        · rfl
        · exact blanked_joined _ (fun e => by have h1 := congrArg List.length e; have h2 := HLN.out; rw [List.length_take, List.length_nil] at h1; omega)
      have hjl := joined_len (ts.take k)
      rw [List.length_take, Nat.min_eq_left (by have := HLN.out; omega)] at hjl
      have HNO : Hid (lawB (Ex.kAt ts k, Ex.vAt ts k) = false → ts.all lawB = false) := fun h => by
        rw [List.all_eq_false]
        exact ⟨_, Ex.at_mem ts k (by have := HLN.out; omega), by simp [h]⟩
      generalize Ex.kAt ts k = K at c1 o1 o2 HJ HA2 HNO
      generalize Ex.vAt ts k = V at c2 o3 HJ HA2 HNO
      have one := OwnT.one' wr w.heap.size K V hB
      have hu2 := hu.alloc (.cells #[.int .u8 K, .int .i64 V] 30)
      have hb2 := hb.alloc hB (.cells #[.int .u8 K, .int .i64 V] 30)
      have hne : some wr.heap.size ≠ u4.ownBlock := fun e => by have := (hu.lt _ e.symm).2; omega
      clear hc
      go_upto_if 19 with fail
      go_cut [4, 13] from 13 to 50 (fun u' i wq => i = .int .i64 k ∧ OwnB wq w.heap.size u' (sepd ts k) ∧ OwnT wq w.heap.size (.slice (some ⟨wr.heap.size, 0, none⟩) 1 1) [(K, V)] ∧ Below w.heap.size w wq)
      case first =>
        by_cases hk0 : k = 0
        · have hkd : decide ((0 : Int) < (k : Int)) = false := decide_eq_false (by omega)
          have hkd2 : decide (0 < k) = false := decide_eq_false (by omega)
          have hu3 : OwnB (wr.alloc (.cells #[.int .u8 K, .int .i64 V] 30)) w.heap.size u4 (sepd ts k) := by
            rw [HSP.out, if_pos hk0]
            rw [hk0] at hu2
            simpa [joined, blanked] using hu2
          go_wp2_with fail
          go_meet
          case rel => exact ⟨rfl, hu3, one, hb2⟩
        · have hkd : (0 : Int) < (k : Int) := by omega
          go_wp2_with (first
            | (at_builtin; refine app_int _ 39 5 .u8 1 Ybtm.underlying39 Ybtm.infoU8 (by omega) rfl (.tmp 20) (.tmp 21) rfl w.heap.size _ _ rfl (hu2.alloc _) _ 32 rfl (by simp) (by omega) (by simp; omega) ?_; intro u5 w5 hu5 huo5 hgr5))
          go_meet
          case rel => exact ⟨rfl, by rw [HSP.out, if_neg hk0]; exact hu5, (one.alloc _).keeps hgr5 (.inr hne), below_app hb2 hb2.size hu2.baseLe hgr5.after_alloc⟩
      case rest =>
        clear one hu2 hb2 hne hu hb c1 c2
        obtain ⟨rfl, hu, one, hb⟩ := hcut
        have hBc := hb.size
        obtain ⟨c1, c2⟩ := one.cells 0 (by simp)
        simp [Ex.kAt, Ex.vAt] at c1 c2
        have hsl : (sepd ts k).length ≤ 21 * k + 1 := by
          rw [HSP.out]
          split
          · simp
          · simp; omega
        unfold Ex.inI at o3
        clear one
        by_cases h48 : K = 48
        · subst h48
          by_cases hV : 0 ≤ V
          · obtain ⟨m, rfl⟩ : ∃ m : Nat, V = (m : Int) := ⟨V.toNat, by omega⟩
            have hsp : spell (48, (m : Int)) = Ex.dg m := by simp [spell]
            rw [hsp] at HJ
            go_wp2_with fail
            refine (nat_any 18 m w.heap.size _ (sepd ts k) _ (by omega) (by omega) hu (by omega) hBc).mono ?_
            rintro e w6 ⟨v6, rfl, hu6, _, hgr6⟩
            go_wp2_with fail
            go_roundw
            case rel => exact ⟨k + 1, by omega, by go_num, by show _ = _; rw [HA2.out]; simp [lawB], by rw [HJ.out]; exact hu6, below_app hb hBc hu.baseLe hgr6⟩
            case measure => simp [intOf]; omega
          · have hVd : decide (0 ≤ V) = false := decide_eq_false hV
            have HE : Hid (ts.all lawB = false) := HNO.out (by simp [lawB, hV])
            go_wp2_with fail
            refine (issym_any 48 _).mono ?_
            rintro e w6 ⟨rfl, hw⟩
            subst hw
            have e48 : isSym 48 = false := by decide
            rw [e48]
            go_wp2_with fail
            go_ret2
            exact ⟨_, _, rfl, hb, FmtR.no HE.out⟩
        · have hK : (K == 48) = false := by simpa using h48
          have hsp : spell (K, V) = [K] := by simp [spell, h48]
          rw [hsp] at HJ
          have hlw : lawB (K, V) = (isSym K && decide (V = 0)) := by simp [lawB, h48]
          rw [hlw] at HA2 HNO
          go_wp2_with fail
          refine (issym_any K _).mono ?_
          rintro e w6 ⟨rfl, hw⟩
          subst hw
          cases hS : isSym K with
          | false =>
            have HE : Hid (ts.all lawB = false) := HNO.out (by rw [hS]; rfl)
            go_wp2_with fail
            go_ret2
            exact ⟨_, _, rfl, hb, FmtR.no HE.out⟩
          | true =>
            by_cases hV : V = 0
            · subst hV
              go_wp2_with (first
                | (at_builtin; refine app_int _ 39 5 .u8 1 Ybtm.underlying39 Ybtm.infoU8 (by omega) rfl (.tmp 45) (.tmp 48) rfl w.heap.size _ (sepd ts k) rfl (hu.alloc _) _ K rfl (by simp) (by omega) (by simp; omega) ?_; intro u5 w5 hu5 huo5 hgr5))
              go_roundw
              case rel => exact ⟨k + 1, by omega, by go_num, by show _ = _; rw [HA2.out, hS]; rfl, by rw [HJ.out]; exact hu5, below_app hb hBc hu.baseLe hgr5.after_alloc⟩
              case measure => simp [intOf]; omega
            · have hVd : (V == 0) = false := by simpa using hV
              have HE : Hid (ts.all lawB = false) := HNO.out (by rw [hS]; simp [hV])
              go_wp2_with fail
              go_ret2
              exact ⟨_, _, rfl, hb, FmtR.no HE.out⟩
    · have hkd : decide ((k : Int) < (n : Int)) = false := decide_eq_false (by omega)
      rw [List.take_of_length_le (by have := HLN.out; omega)] at hu
      have HA2 : Hid (ts.all lawB = true) := by
        have := HA.out
        rwa [List.take_of_length_le (by have := HLN.out; omega)] at this
      obtain ⟨a3, c3, rfl, _, _⟩ := hu.shape
      obtain ⟨sx, hcx, hsx, hsxz⟩ := conv_own hu (joined_byte (fun t ht => ⟨(HOK.out t ht).1, (HOK.out t ht).2.1⟩))
      have HSX : Hid (sb sx = joined ts) := hsx
      clear hsx hsxz
      generalize (joined ts).length = m3 at hcx hu ⊢
      go_wp2_with fail
      go_ret2
      exact ⟨_, _, rfl, hb, FmtR.yes HA2.out HSX.out⟩
end Go.Proofs.Ymbrbt
