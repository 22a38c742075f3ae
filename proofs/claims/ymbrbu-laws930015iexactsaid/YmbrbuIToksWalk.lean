import Derived.Test.YmbrbuDrainWalk
import Derived.Test.YmbrbuIeqWalk
import Derived.Test.YmbrbuOpenTok
set_option linter.unusedVariables false
set_option linter.unusedSimpArgs false
set_option linter.unnecessarySimpa false
namespace Go.Proofs.Ymbrbu
open Go.RowKit

def ikK (k : Int) : Int := if k % 8 = 0 ∨ k % 8 = 4 then 43 else if k % 8 = 1 then 45 else if k % 8 = 2 ∨ k % 8 = 5 then 42 else if k % 8 = 3 then 47 else if k % 8 = 6 then 40 else k
set_option maxHeartbeats 1000000 in
theorem ikind_any (k : Int) (w : World) (h0 : 0 ≤ k) (h1 : k ≤ 255) : Calls Ybum.prog 48 #[.int .u8 k] w fun e w' => e = .returned (.int .u8 (ikK k)) ∧ w' = w := by
  have hk : k % 8 = 0 ∨ k % 8 = 1 ∨ k % 8 = 2 ∨ k % 8 = 3 ∨ k % 8 = 4 ∨ k % 8 = 5 ∨ k % 8 = 6 ∨ k % 8 = 7 := by omega
  rcases hk with hk | hk | hk | hk | hk | hk | hk | hk
  all_goals
    have e : ikK k = ikK k := rfl
    conv at e => rhs; unfold ikK; simp [hk]
    rw [e]
    clear e
    go_enter Ybum.func48, Ybum.ntmps48
    go_wp2
    go_ret
    exact ⟨rfl, rfl⟩
def ikR (raw : Bool) (k : Int) : Int := if raw then k else ikK k
def imap (raw : Bool) (ts : List (Int × Int)) : List (Int × Int) := ts.map fun t => (ikR raw t.1, t.2)
theorem imap_len (raw : Bool) (ts : List (Int × Int)) : (imap raw ts).length = ts.length := by simp [imap]
theorem imap_app (raw : Bool) (a b : List (Int × Int)) : imap raw (a ++ b) = imap raw a ++ imap raw b := by simp [imap]

set_option maxHeartbeats 1000000 in
theorem imin_any (n : Int) (raw : Bool) (w : World) (hn : Ex.inI n) : Calls Ybum.prog 34 #[.int .i64 n, .bool raw] w fun e w' => (∃ m, e = .returned (.int .i64 m)) ∧ w' = w := by
  cases raw
  · go_enter Ybum.func34, Ybum.ntmps34
    go_wp2
    go_ret
    exact ⟨⟨_, rfl⟩, rfl⟩
  · go_enter Ybum.func34, Ybum.ntmps34
    go_wp2
    go_ret
    exact ⟨⟨_, rfl⟩, rfl⟩

set_option maxHeartbeats 1000000 in
theorem iprec_any (k : Int) (w : World) : Calls Ybum.prog 36 #[.int .u8 k] w fun e w' => e = .returned (.int .i64 (Ex.prec k)) ∧ w' = w := by
  by_cases h1 : k = 42
  · subst h1; go_enter Ybum.func36, Ybum.ntmps36
    go_wp2
    go_ret
    exact ⟨rfl, rfl⟩
  by_cases h2 : k = 47
  · subst h2; go_enter Ybum.func36, Ybum.ntmps36
    go_wp2
    go_ret
    exact ⟨rfl, rfl⟩
  by_cases h3 : k = 43
  · subst h3; go_enter Ybum.func36, Ybum.ntmps36
    go_wp2
    go_ret
    exact ⟨rfl, rfl⟩
  by_cases h4 : k = 45
  · subst h4; go_enter Ybum.func36, Ybum.ntmps36
    go_wp2
    go_ret
    exact ⟨rfl, rfl⟩
  have e : Ex.prec k = 0 := by simp [Ex.prec, h1, h2, h3, h4]
  rw [e]
  have d1 : (k == 42) = false := by simpa using h1
  have d2 : (k == 47) = false := by simpa using h2
  have d3 : (k == 43) = false := by simpa using h3
  have d4 : (k == 45) = false := by simpa using h4
  clear e h1 h2 h3 h4
  go_enter Ybum.func36, Ybum.ntmps36
  go_wp2
  go_ret
  exact ⟨rfl, rfl⟩

set_option maxRecDepth 100000 in
set_option maxHeartbeats 2000000 in
theorem itoks_any (raw : Bool) (a : Option Addr) (n cap : Nat) (ts : List (Int × Int)) (w : World) (ht : Toks w a n cap ts) (hok : TokOk ts) (hn : n ≤ 1024) :
    Calls Ybum.prog 33 #[.slice a n cap, .bool raw] w fun e w' => e = .returned (.slice (some ⟨w.heap.size, 0, none⟩) n n) ∧ OwnT w' w.heap.size (.slice (some ⟨w.heap.size, 0, none⟩) n n) (imap raw ts) ∧ Below w.heap.size w w' ∧ w.heap.size < w'.heap.size := by
  have hnc := ht.2.1
  have hcm := ht.2.2.1
  unfold maxLen at hcm
  have T0 : Hid (Toks w a n cap ts) := ht
  have O0 : Hid (TokOk ts) := hok
  clear ht hok
  go_enter Ybum.func33, Ybum.ntmps33
  go_wp2_with (first | (at_make; refine make_tokN _ rfl _ _ rfl w.heap.size _ _ _ _ n rfl rfl (by omega) (by omega) (by omega) (by omega) ?_; intro w1 hown1 hbl1 hlt1))
  go_loopw [6, 7] (fun i _ wr => ∃ (k : Nat), k ≤ n ∧ i = .int .i64 k ∧ OwnT wr w.heap.size (.slice (some ⟨w.heap.size, 0, none⟩) n n) (imap raw (ts.take k) ++ List.replicate (n - k) (0, 0)) ∧ Below w.heap.size w wr) (fun i _ _ => n - (intOf i).toNat)
  case atStart => exact ⟨0, by omega, rfl, by simpa [imap] using hown1, hbl1⟩
  case round =>
    obtain ⟨k, hk, rfl, hown, hb⟩ := hrel
    clear hown1 hbl1 hlt1
    have hB := hb.size
    have hg : w.heap.size < wr.heap.size := (hown.lt _ rfl).2
    by_cases hlt : k < n
    · obtain ⟨b, off, rfl, hc⟩ := (T0.out.below hb).2.2.2 (by omega)
      obtain ⟨c1, c2⟩ := hc k hlt
      have htl := T0.out.1
      obtain ⟨q0, q1, _⟩ := O0.out.at k (by omega)
      have hlen : (imap raw (ts.take k) ++ List.replicate (n - k) ((0, 0) : Int × Int)).length = n := by simp [imap_len]; omega
      obtain ⟨hown2, hgb2⟩ := OwnT.setTok hown hlen.symm k (by omega) (ikR raw (Ex.kAt ts k)) (Ex.vAt ts k)
      have f1 := hown.frozenAt (k * 2)
      have f2 := hown.frozenAt (k * 2 + 1)
      obtain ⟨c3, c4⟩ := hown.cells k (by omega)
      have hki : (k : Int) < (n : Int) := by omega
      have hki0 : (0 : Int) ≤ (k : Int) := by omega
      have HS : Hid ((imap raw (ts.take k) ++ List.replicate (n - k) ((0, 0) : Int × Int)).set k (ikR raw (Ex.kAt ts k), Ex.vAt ts k) = imap raw (ts.take (k + 1)) ++ List.replicate (n - (k + 1)) (0, 0)) := by
        show _ = _
        have e1 : (imap raw (ts.take k)).length = k := by rw [imap_len, List.length_take]; omega
        have e2 : n - k = (n - (k + 1)) + 1 := by omega
        have := set_mid (imap raw (ts.take k)) ((0, 0) : Int × Int) (ikR raw (Ex.kAt ts k), Ex.vAt ts k) (n - (k + 1))
        rw [e1] at this
        rw [e2, this, Ex.take_at ts k (by omega), imap_app]
        rfl
      clear hc hlen htl
      cases raw with
      | false =>
        simp only [show ikR false (Ex.kAt ts k) = ikK (Ex.kAt ts k) from rfl] at hown2 hgb2 HS
        go_wp2_with fail
        refine (ikind_any _ _ q0 q1).mono ?_
        rintro e w' ⟨rfl, hw⟩
        subst hw
        go_wp2_with fail
        go_roundw
        case rel => exact ⟨k + 1, by omega, by go_num, by rw [← HS.out]; exact hown2, below_setTok hb hgb2 hB (Nat.le_refl _)⟩
        case measure => simp [intOf]; omega
      | true =>
        simp only [show ikR true (Ex.kAt ts k) = Ex.kAt ts k from rfl] at hown2 hgb2 HS
        go_wp2_with fail
        go_roundw
        case rel => exact ⟨k + 1, by omega, by go_num, by rw [← HS.out]; exact hown2, below_setTok hb hgb2 hB (Nat.le_refl _)⟩
        case measure => simp [intOf]; omega
    · have e0 : k = n := by omega
      subst e0
      have htl := T0.out.1
      rw [List.take_of_length_le (by omega), Nat.sub_self, List.replicate_zero, List.append_nil] at hown
      clear htl
      go_wp2_with fail
      go_ret
      exact ⟨rfl, hown, hb, hg⟩
end Go.Proofs.Ymbrbu
