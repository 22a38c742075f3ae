import Derived.Test.YmbrbuTree
import Derived.Test.YmbrbuOwnRow
set_option linter.unusedVariables false
set_option linter.unusedSimpArgs false
set_option linter.unnecessarySimpa false
namespace Go.Proofs.Ymbrbu
open Go.RowKit

theorem toks_belowB {B : Nat} {w w' : World} {a : Option Addr} {n cap : Nat} {ts : List Tk} (h : Toks w a n cap ts) (hB : ∀ x, a = some x → x.block < B) (hb : Below B w w') : Toks w' a n cap ts := by
  obtain ⟨h1, h2, h3, h4⟩ := h
  refine ⟨h1, h2, h3, fun hn => ?_⟩
  obtain ⟨b, off, rfl, hc⟩ := h4 hn
  have hlt := hB _ rfl
  exact ⟨b, off, rfl, fun i hi => ⟨(hb.cell (p := ⟨b, off + i * 2, none⟩) hlt).trans (hc i hi).1, (hb.cell (p := ⟨b, off + i * 2 + 1, none⟩) hlt).trans (hc i hi).2⟩⟩
def prn (par : Bool) (E : List Tk) : List Tk := if par then (40, 0) :: E ++ [(41, 0)] else E
theorem prn_len (par : Bool) (E : List Tk) : (prn par E).length ≤ E.length + 2 := by
  cases par <;> simp [prn]

set_option maxRecDepth 100000 in
set_option maxHeartbeats 4000000 in
theorem hput_loop (B : Nat) (E : List Tk) (par : Bool) : ∀ (dst : Value) (D Z : List Tk) (a : Option Addr) (n cap : Nat) (w : World), Z = D ++ prn par E → OwnT w B dst D → Toks w a n cap E → (∀ x, a = some x → x.block < B) → B ≤ w.heap.size → D.length + n < 10000000 →
    Calls Ybum.prog 47 #[dst, .slice a n cap, .bool par] w fun e w' => ∃ v', e = .returned v' ∧ OwnT w' B v' Z ∧ Grew w w' dst v' := by
  intro dst D Z a n cap w hZ hd he heb hB hl
  have hnc := he.2.1
  have hcm := he.2.2.1
  unfold maxLen at hcm
  have HT : Hid (Toks w a n cap E) := he
  have HEB : Hid (∀ x, a = some x → x.block < B) := heb
  have HLN : Hid (E.length = n) := he.1
  have HZ : Hid (Z = D ++ prn par E) := hZ
  have hdb := hd.base
  clear he heb hZ
  cases par
  · have HZ2 : Hid (Z = D ++ E) := HZ.out
    clear HZ
    go_enter Ybum.func47, Ybum.ntmps47
    go_wp2_with fail
    go_loopw [0, 7] (fun u i wr => ∃ (k : Nat), k ≤ n ∧ i = .int .i64 k ∧ OwnT wr B u (D ++ E.take k) ∧ Grew w wr dst u) (fun _ i _ => n - (intOf i).toNat)
    case atStart => exact ⟨0, by omega, rfl, by simpa using hd, Grew.refl _ _⟩
    case round =>
      obtain ⟨k, hk, rfl, hu, hg⟩ := hrel
      have hb := hg.below hB hdb
      have hBr : B ≤ wr.heap.size := Nat.le_trans hB hb.size
      by_cases hlt : k < n
      · obtain ⟨b, off, rfl, hc⟩ := (toks_belowB HT.out HEB.out hb).2.2.2 (by omega)
        obtain ⟨c1, c2⟩ := hc k hlt
        have HS : Hid (D ++ E.take (k + 1) = D ++ E.take k ++ [(Ex.kAt E k, Ex.vAt E k)]) := by
          show _ = _
          rw [Ex.take_at E k (by have := HLN.out; omega), List.append_assoc]
        have hlk : (D ++ E.take k).length < 100000000 := by simp; omega
        generalize D ++ E.take k = R at hu HS hlk
        generalize Ex.kAt E k = K at c1 HS
        generalize Ex.vAt E k = V at c2 HS
        have hki : (k : Int) < (n : Int) := by omega
        clear hc
        go_wp2_with (first
          | (at_builtin; refine app_tok _ rfl (.tmp 19) (.tmp 24) rfl B _ R rfl (hu.alloc _) _ K V rfl (by simp) (by simp) (by omega) (by simp; omega) ?_; intro v' w2 hown2 hold2 hgr))
        go_roundw
        case rel => exact ⟨k + 1, by omega, by go_num, by rw [HS.out]; exact hown2, hg.trans hgr.after_alloc⟩
        case measure => simp [intOf]; omega
      · have hkd : decide ((k : Int) < (n : Int)) = false := decide_eq_false (by omega)
        rw [List.take_of_length_le (by have := HLN.out; omega), ← HZ2.out] at hu
        go_wp2_with fail
        go_ret
        exact ⟨_, rfl, hu, hg⟩
  · have HZ2 : Hid (Z = D ++ [(40, 0)] ++ E ++ [(41, 0)]) := by
      show _ = _
      rw [HZ.out]; simp [prn]
    clear HZ
    go_enter Ybum.func47, Ybum.ntmps47
    go_wp2_with (first
      | (at_builtin; refine app_tok _ rfl (.tmp 9) (.tmp 11) rfl B _ D rfl (hd.alloc _) _ 40 0 rfl (by simp) (by simp) (by omega) (by simp; omega) ?_; intro v1 w1 hown1 hold1 hgr1))
    go_loopw [0, 7] (fun u i wr => ∃ (k : Nat), k ≤ n ∧ i = .int .i64 k ∧ OwnT wr B u (D ++ [(40, 0)] ++ E.take k) ∧ Grew w wr dst u) (fun _ i _ => n - (intOf i).toNat)
    case atStart => exact ⟨0, by omega, rfl, by simpa using hown1, hgr1.after_alloc⟩
    case round =>
      obtain ⟨k, hk, rfl, hu, hg⟩ := hrel
      clear hown1 hold1 hgr1
      have hb := hg.below hB hdb
      have hBr : B ≤ wr.heap.size := Nat.le_trans hB hb.size
      by_cases hlt : k < n
      · obtain ⟨b, off, rfl, hc⟩ := (toks_belowB HT.out HEB.out hb).2.2.2 (by omega)
        obtain ⟨c1, c2⟩ := hc k hlt
        have HS : Hid (D ++ [(40, 0)] ++ E.take (k + 1) = D ++ [(40, 0)] ++ E.take k ++ [(Ex.kAt E k, Ex.vAt E k)]) := by
          show _ = _
          rw [Ex.take_at E k (by have := HLN.out; omega)]; simp
        have hlk : (D ++ [(40, 0)] ++ E.take k).length < 100000000 := by simp; omega
        generalize D ++ [(40, 0)] ++ E.take k = R at hu HS hlk
        generalize Ex.kAt E k = K at c1 HS
        generalize Ex.vAt E k = V at c2 HS
        have hki : (k : Int) < (n : Int) := by omega
        clear hc
        go_wp2_with (first
          | (at_builtin; refine app_tok _ rfl (.tmp 19) (.tmp 24) rfl B _ R rfl (hu.alloc _) _ K V rfl (by simp) (by simp) (by omega) (by simp; omega) ?_; intro v' w2 hown2 hold2 hgr))
        go_roundw
        case rel => exact ⟨k + 1, by omega, by go_num, by rw [HS.out]; exact hown2, hg.trans hgr.after_alloc⟩
        case measure => simp [intOf]; omega
      · have hkd : decide ((k : Int) < (n : Int)) = false := decide_eq_false (by omega)
        rw [List.take_of_length_le (by have := HLN.out; omega)] at hu
        have hlk : (D ++ [(40, 0)] ++ E).length < 100000000 := by have := HLN.out; simp; omega
        generalize D ++ [(40, 0)] ++ E = R at hu HZ2 hlk
        go_wp2_with (first
          | (at_builtin; refine app_tok _ rfl (.tmp 27) (.tmp 29) rfl B _ R rfl (hu.alloc _) _ 41 0 rfl (by simp) (by simp) (by omega) (by simp; omega) ?_; intro v' w2 hown2 hold2 hgr))
        go_ret
        exact ⟨_, rfl, by rw [HZ2.out]; exact hown2, hg.trans hgr.after_alloc⟩
end Go.Proofs.Ymbrbu
