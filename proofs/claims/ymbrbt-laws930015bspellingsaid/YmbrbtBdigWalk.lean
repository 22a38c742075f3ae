import Derived.Test.YmbrbtConvOwn
import Derived.Test.YmbrbtOwnTok
set_option linter.unusedVariables false
set_option linter.unusedSimpArgs false
set_option linter.unnecessarySimpa false
namespace Go.Proofs.Ymbrbt
open Go.RowKit

def pd' (m : Nat) : List Int := if m = 0 then [] else Ex.dg m
theorem dg_pd' (n : Nat) (h : n < 10 ^ 20) : Ex.dg n = pd' (n / 10) ++ [48 + ((n % 10 : Nat) : Int)] := by
  by_cases h10 : n < 10
  · rw [Ex.dg_small h10, pd', if_pos (by omega)]
    simp; omega
  · rw [Ex.dg_step (by omega) h, pd', if_neg (by omega)]
theorem pd_pos {m : Nat} (h : 0 < m) : 0 < (pd' m).length := by
  rw [pd', if_neg (by omega)]; exact Ex.dg_pos m

theorem set_drop (L : List Int) (i : Nat) (x : Int) (h : i < L.length) : (L.set i x).drop i = x :: L.drop (i + 1) := by
  rw [List.drop_eq_getElem_cons (by simpa using h), List.getElem_set_self, List.drop_set_of_lt (by omega)]
abbrev Arr (g : Nat) (w : World) (L : List Int) : Prop := OwnI 73 .u8 w g (.slice (some ⟨g, 0, none⟩) 20 20) L
theorem below_grew {w w' : World} {v : Value} (h : Below w.heap.size w w') : Grew w w' v v :=
  ⟨⟨h.os, h.tape, h.output, h.size, fun k hk _ => h.block k hk⟩, .inl rfl⟩

set_option maxRecDepth 100000 in
set_option maxHeartbeats 4000000 in
theorem bdigits_any (base : Nat) (b : Value) (bs : List Int) (n : Nat) (w : World) (hown : OwnB w base b bs) (hn : n ≤ 18446744073709551615) (hl : bs.length < 100000000) (hbase : base ≤ w.heap.size) :
    Calls Ybtm.prog 23 #[b, .int .u64 n] w fun e w' => ∃ v', e = .returned v' ∧ OwnB w' base v' (bs ++ Ex.dg n) ∧ Grew w w' b v' := by
  go_enter Ybtm.func23, Ybtm.ntmps23
  go_wp2_with fail
  go_loopw [1, 6] (fun m k wr => ∃ (M K : Nat) (L : List Int), m = .int .u64 M ∧ k = .int .i64 K ∧ M ≤ 18446744073709551615 ∧ K ≤ 19 ∧ Hid (Ex.dg n = pd' M ++ L.drop K) ∧ Hid (L.length = 20) ∧ Arr w.heap.size wr L ∧ Below w.heap.size w wr) (fun m _ _ => (intOf m).toNat)
  case atStart =>
    refine ⟨n / 10, 19, [0, 0, 0, 0, 0, 0, 0, 0, 0, 0, 0, 0, 0, 0, 0, 0, 0, 0, 0, 48 + (n : Int) % 10], by go_num, rfl, by omega, by omega, ?_, rfl, ?_, (Below.refl _ _).alloc (Nat.le_refl _) _⟩
    · show _ = _
      rw [dg_pd' n (by omega)]
      simp
    · exact World.ownsRow_lit w _ 20 (Nat.le_refl _) (by unfold maxLen; omega) rfl
  case round =>
    obtain ⟨M, K, L, rfl, rfl, hM, hK, HT, HL, harr, hb⟩ := hrel
    have hB := hb.size
    by_cases h0 : M = 0
    · have HE : Hid (Ex.dg n = L.drop K) := by
        show _ = _
        rw [HT.out, pd', if_pos h0]; rfl
      have dM : decide ((0 : Int) < (M : Int)) = false := decide_eq_false (by omega)
      have dM2 : decide (0 < M) = false := decide_eq_false (by omega)
      clear h0
      have hne0 : some w.heap.size ≠ b.ownBlock := fun e => by have := (hown.lt _ e.symm).2; omega
      clear HT
      go_wp2_with fail
      go_loopw [0, 6] (fun u k wq => ∃ (J : Nat), k = .int .i64 J ∧ K ≤ J ∧ J ≤ 20 ∧ OwnB wq base u (bs ++ (L.drop K).take (J - K)) ∧ Arr w.heap.size wq L ∧ some w.heap.size ≠ u.ownBlock ∧ Grew w wq b u) (fun _ k _ => 20 - (intOf k).toNat)
      case atStart => exact ⟨K, rfl, by omega, by omega, by simpa using hown.below hb, harr, hne0, below_grew hb⟩
      case round =>
        obtain ⟨J, rfl, hJ, hJ2, hu, ha, hne, hg⟩ := hrel
        have hgs := hg.size
        by_cases hlt : J < 20
        · have hlk : (bs ++ (L.drop K).take (J - K)).length < 1000000000 := by
            have := HL.out
            simp; omega
          have HS : Hid (bs ++ (L.drop K).take (J + 1 - K) = (bs ++ (L.drop K).take (J - K)) ++ [Ex.iAt L J]) := by
            show _ = _
            have := HL.out
            rw [List.append_assoc, show J + 1 - K = (J - K) + 1 by omega, Ex.itake_at _ _ (by simp; omega)]
            congr 3
            simp [Ex.iAt, List.getD_eq_getElem?_getD]
            congr 2; omega
          have c1 := ha.cellsAt J (by have := HL.out; omega)
          have hJi : (J : Int) < 20 := by omega
          have hJ0 : (0 : Int) ≤ (J : Int) := by omega
          generalize bs ++ (L.drop K).take (J - K) = Z at hu hlk HS
          go_wp2_with (first
            | (at_builtin; go_must (refine app_int _ 39 5 .u8 1 Ybtm.underlying39 Ybtm.infoU8 (by omega) rfl (.tmp 31) (.tmp 35) rfl base _ Z rfl (hu.alloc _) _ (Ex.iAt L J) rfl (by simp) (by omega) (by simp; omega) ?_; intro u2 w2 hu2 huo hgr2)))
          go_roundw
          case rel =>
            refine ⟨J + 1, by go_num, by omega, by omega, by rw [HS.out]; exact hu2, (ha.alloc _).keeps hgr2 (.inr hne), ?_, hg.trans hgr2.after_alloc⟩
            rcases hgr2.apart (ha.alloc _) (.inr hne) with h | h
            · cases h
            · exact h
          case measure => simp [intOf]; omega
        · have hJ20 : J = 20 := by omega
          subst hJ20
          rw [List.take_of_length_le (by have := HL.out; simp; omega), ← HE.out] at hu
          go_wp2_with fail
          go_ret
          exact ⟨_, rfl, hu, hg⟩
    · have hM0 : (0 : Int) < (M : Int) := by omega
      have hK1 : 1 ≤ K := by
        have h1 := Ex.dg_len20 n
        rw [HT.out, List.length_append, List.length_drop, HL.out] at h1
        have := pd_pos (show 0 < M by omega)
        omega
      obtain ⟨I, rfl⟩ : ∃ I, K = I + 1 := ⟨K - 1, by omega⟩
      have HN : Hid (Ex.dg n = pd' (M / 10) ++ (L.set I (48 + (M : Int) % 10)).drop I) := by
        show _ = _
        rw [set_drop _ _ _ (by have := HL.out; omega), HT.out]
        conv => lhs; rw [pd', if_neg h0, dg_pd' M (by omega)]
        simp
      have HLN : Hid ((L.set I (48 + (M : Int) % 10)).length = 20) := by show _ = _; rw [List.length_set]; exact HL.out
      obtain ⟨ha2, hgr2⟩ := OwnI.set harr I (48 + (M : Int) % 10)
      have c1 := harr.cellsAt I (by have := HL.out; omega)
      have f1 := harr.frozenAt I
      have hI0 : (0 : Int) ≤ (I : Int) := by omega
      have hI1 : (I : Int) < 20 := by omega
      clear h0 HT
      go_wp2_with fail
      go_roundw
      case rel => exact ⟨M / 10, I, _, by go_num, by go_num, by omega, by omega, HN, HLN, ha2, below_setTok hb hgr2 hB (Nat.le_refl _)⟩
      case measure => simp [intOf]; omega
end Go.Proofs.Ymbrbt
