import Derived.Test.YmbrbuHToksWalk
import Derived.Test.YmbrbuHVer
import Derived.Test.YmbrbuVpWalk
set_option linter.unusedVariables false
set_option linter.unusedSimpArgs false
set_option linter.unnecessarySimpa false
namespace Go.Proofs.Ymbrbu
open Go.RowKit

set_option maxHeartbeats 2000000 in
theorem hcopy_any (a : Option Addr) (n cap : Nat) (ts : List (Int × Int)) (w : World) (ht : Toks w a n cap ts) (hn : n ≤ 100000) :
    Calls Ybum.prog 26 #[.slice a n cap] w fun e w' => ∃ v, e = .returned v ∧ OwnT w' w.heap.size v ts ∧ Below w.heap.size w w' := by
  have hnc := ht.2.1
  have hcm := ht.2.2.1
  unfold maxLen at hcm
  have HL : Hid (ts.length = n) := ht.1
  have HT : Hid (Toks w a n cap ts) := ht
  clear ht
  go_enter Ybum.func26, Ybum.ntmps26
  go_wp2_with (first
    | (at_make; refine make_tok _ rfl _ _ rfl w.heap.size _ _ _ n rfl rfl (by omega) (by omega) (by omega) ?_; intro w1 hown1 hb1 hlt1))
  go_loopw [3, 4] (fun v i wr => ∃ (k : Nat), k ≤ n ∧ i = .int .i64 k ∧ OwnT wr w.heap.size v (ts.take k) ∧ Below w.heap.size w wr) (fun _ i _ => n - (intOf i).toNat)
  case atStart => exact ⟨0, by omega, rfl, by simpa using hown1, hb1⟩
  case round =>
    clear hown1 hb1 hlt1
    obtain ⟨k, hk, rfl, hown, hb⟩ := hrel
    have hB := hb.size
    by_cases hlt : k < n
    · obtain ⟨b, off, rfl, hc⟩ := (HT.out.below hb).2.2.2 (by omega)
      obtain ⟨c1, c2⟩ := hc k hlt
      clear hc
      have hki : (k : Int) < (n : Int) := by omega
      have hki0 : (0 : Int) ≤ (k : Int) := by omega
      have hll : (ts.take k).length < 1000000 := by rw [List.length_take]; omega
      have HN : Hid (ts.take (k + 1) = ts.take k ++ [(Ex.kAt ts k, Ex.vAt ts k)]) := Ex.take_at ts k (by have := HL.out; omega)
      generalize ts.take k = L at hown hll HN
      go_wp2_with (first | (at_builtin; refine app_tok _ rfl (.tmp 14) (.tmp 19) rfl w.heap.size _ L rfl (hown.alloc _) _ (Ex.kAt ts k) (Ex.vAt ts k) rfl (by simp) (by simp) (by omega) (by simp; omega) ?_; intro v' w2 hown2 hold2 hgr))
      go_roundw
      case rel => exact ⟨k + 1, by omega, by go_num, by rw [HN.out]; exact hown2, below_app hb hB hown.base hgr.after_alloc⟩
      case measure => simp [intOf]; omega
    · have hkn : decide ((k : Int) < (n : Int)) = false := decide_eq_false (by omega)
      have hl := HL.out
      rw [List.take_of_length_le (by omega)] at hown
      clear hl
      go_wp2_with fail
      go_ret
      exact ⟨_, rfl, hown, hb⟩

theorem vRun_take {ts : List Tk} {k : Nat} {st st' : Bool × Bool × Int} (h : vRun (ts.take k) (true, true, 0) = st) (hk : k < ts.length) (hs : vStep st (Ex.kAt ts k, Ex.vAt ts k) = st') : vRun (ts.take (k + 1)) (true, true, 0) = st' := by
  rw [Ex.take_at ts k hk]
  unfold vRun at h ⊢
  rw [List.foldl_append, h]
  exact hs
theorem cnt_take (p : Tk → Bool) {ts : List Tk} {k : Nat} (hk : k < ts.length) : (ts.take (k + 1)).countP p = (ts.take k).countP p + if p (Ex.kAt ts k, Ex.vAt ts k) then 1 else 0 := by
  rw [Ex.take_at ts k hk, List.countP_append]
  simp [List.countP_cons]
theorem flt_take (p : Tk → Bool) {ts : List Tk} {k : Nat} (hk : k < ts.length) : (ts.take (k + 1)).filter p = (ts.take k).filter p ++ if p (Ex.kAt ts k, Ex.vAt ts k) then [(Ex.kAt ts k, Ex.vAt ts k)] else [] := by
  rw [Ex.take_at ts k hk, List.filter_append]
  simp [List.filter_cons]
theorem flt_len (p : Tk → Bool) (ts : List Tk) (k : Nat) : ((ts.take k).filter p).length ≤ k := by
  refine Nat.le_trans (List.length_filter_le _ _) ?_
  rw [List.length_take]; omega
end Go.Proofs.Ymbrbu
