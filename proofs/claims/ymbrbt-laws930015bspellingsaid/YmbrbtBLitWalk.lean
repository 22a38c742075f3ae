import Derived.Test.YmbrbtBdigWalk
import Derived.Test.YmbrbtBMachineWalk
import Derived.BigQuiet
import Derived.Deep.Cut
import Derived.Deep.CutRange
set_option linter.unusedVariables false
set_option linter.unusedSimpArgs false
set_option linter.unnecessarySimpa false
namespace Go.Proofs.Ymbrbt
open Go.RowKit

theorem dval_zeros (ds : List Int) : ∀ k, Ex.dval 0 (List.replicate k 48 ++ ds) = Ex.dval 0 ds
  | 0 => rfl
  | k + 1 => by
    rw [List.replicate_succ, List.cons_append]
    exact dval_zeros ds k
theorem bz_lit (Z N : Nat) (hN : N < 10 ^ 20) : bz ([40] ++ List.replicate Z 48 ++ Ex.dg N ++ [41]) [] none = if N ≤ 9223372036854775807 then (0, [(40, 0), (48, (N : Int)), (41, 0)]) else (3, []) := by
  have e : [40] ++ List.replicate Z 48 ++ Ex.dg N ++ [41] = 40 :: ((List.replicate Z (48 : Int) ++ Ex.dg N) ++ [41]) := by simp
  rw [e, bz_sym _ _ (by decide)]
  rw [bz_digits [41] _ (List.replicate Z (48 : Int) ++ Ex.dg N) none (fun c hc => by
    rcases List.mem_append.1 hc with h | h
    · rw [(List.mem_replicate.1 h).2]; decide
    · exact Ex.isD_iff.2 (Ex.dg_dig N c h)) (fun h => by
    have := Ex.dg_pos N
    rw [(List.append_eq_nil_iff.1 h).2] at this
    simp at this)]
  show (if Ex.dval 0 (List.replicate Z (48 : Int) ++ Ex.dg N) ≤ _ then bz _ _ (some (Ex.dval 0 (List.replicate Z (48 : Int) ++ Ex.dg N))) else _) = _
  rw [dval_zeros, Ex.dval_dg N hN]
  by_cases h : N ≤ 9223372036854775807
  · rw [if_pos h, if_pos h, bz_flush _ _ (fun c hc => by simp at hc; subst hc; decide), bz_sym _ _ (by decide)]
    simp [bz, flush]
  · rw [if_neg h, if_neg h]

set_option maxRecDepth 100000 in
set_option maxHeartbeats 4000000 in
theorem bliteral_any (z : Int) (n : Nat) (side : Int) (w : World) (hz0 : 0 ≤ z) (hz1 : z ≤ 255) (hn : n ≤ 18446744073709551615) (hs0 : 0 ≤ side) (hs1 : side ≤ 255) :
    Calls Ybtm.prog 8 #[.int .u8 z, .int .u64 n, .int .u8 side] w fun e w' => e = .returned (.bool true) ∧ Below w.heap.size w w' := by
  have hk : side % 3 = 0 ∨ side % 3 = 1 ∨ side % 3 = 2 := by omega
  go_enter Ybtm.func8, Ybtm.ntmps8
  go_upto_if 14 with fail
  go_cut [1] from 12 to 22 (fun m wq => (∃ N : Nat, m = .int .u64 N ∧ N ≤ 18446744073709551615) ∧ w = wq)
  case first =>
    rcases hk with hk | hk | hk
    · go_wp2_with fail
      go_meet
      case rel => exact ⟨⟨n, rfl, hn⟩, rfl⟩
    · have hb := bounds_u64 (wf_bits BinOp.or .u64 n 9223372036854775808)
      go_wp2_with fail
      go_meet
      case rel => exact ⟨⟨(bits BinOp.or IntKind.u64 (n : Int) 9223372036854775808).toNat, congrArg (Value.int .u64) (by omega), by omega⟩, rfl⟩
    · go_wp2_with fail
      go_meet
      case rel => exact ⟨⟨9223372036854775807 - n % 1000, by go_num, by omega⟩, rfl⟩
  case rest =>
    obtain ⟨⟨N, rfl, hN⟩, rfl⟩ := hcut
    obtain ⟨Z, hZ⟩ : ∃ Z : Nat, z % 64 = (Z : Int) := ⟨(z % 64).toNat, by omega⟩
    have hZ64 : Z < 64 := by omega
    clear hk
    go_wp2_with (first
      | (at_builtin; refine app_int _ 39 5 .u8 1 Ybtm.underlying39 Ybtm.infoU8 (by omega) rfl (.tmp 23) (.tmp 24) rfl w.heap.size (.slice none 0 0) [] rfl (OwnI.nil _ _) _ 40 rfl (by simp) (by simp) (by simp) ?_; intro u1 w1 hu1 huo1 hgr1))
    have hb1 : Below w.heap.size w w1 := below_app (Below.refl _ _) (Nat.le_refl _) (fun k hk => by cases hk) hgr1.after_alloc
    rw [List.nil_append] at hu1
    clear hZ
    go_loopw [7, 9] (fun u i wr => ∃ (j : Nat), j ≤ Z ∧ i = .int .i64 j ∧ OwnB wr w.heap.size u ([40] ++ List.replicate j 48) ∧ Below w.heap.size w wr) (fun _ i _ => Z - (intOf i).toNat)
    case atStart => exact ⟨0, by omega, rfl, by simpa using hu1, hb1⟩
    case round =>
      obtain ⟨j, hj, rfl, hu, hb⟩ := hrel
      clear hu1 huo1 hgr1 hb1
      have hB := hb.size
      by_cases hlt : j < Z
      · have hji : (j : Int) < (Z : Int) := by omega
        have hlk : ([40] ++ List.replicate j (48 : Int)).length < 100 := by simp; omega
        have HS : Hid ([40] ++ List.replicate (j + 1) (48 : Int) = [40] ++ List.replicate j 48 ++ [48]) := by
          show _ = _
          rw [List.replicate_succ', List.append_assoc]
        generalize [40] ++ List.replicate j (48 : Int) = R at hu hlk HS
        go_wp2_with (first
          | (at_builtin; refine app_int _ 39 5 .u8 1 Ybtm.underlying39 Ybtm.infoU8 (by omega) rfl (.tmp 34) (.tmp 35) rfl w.heap.size _ R rfl (hu.alloc _) _ 48 rfl (by simp) (by omega) (by simp; omega) ?_; intro u2 w2 hu2 huo2 hgr2))
        go_roundw
        case rel => exact ⟨j + 1, by omega, by go_num, by rw [HS.out]; exact hu2, below_app hb hB hu.baseLe hgr2.after_alloc⟩
        case measure => simp [intOf]; omega
      · have hjd : decide ((j : Int) < (Z : Int)) = false := decide_eq_false (by omega)
        have hjZ : j = Z := by omega
        have hlk : ([40] ++ List.replicate j (48 : Int)).length < 100 := by simp; omega
        have HX : Hid (bz ([40] ++ List.replicate j (48 : Int) ++ Ex.dg N ++ [41]) [] none = if N ≤ 9223372036854775807 then (0, [(40, 0), (48, (N : Int)), (41, 0)]) else (3, [])) := bz_lit j N (by omega)
        have HY : Hid (∀ c ∈ [40] ++ List.replicate j (48 : Int), 0 ≤ c ∧ c ≤ 255) := fun c hc => by
          rcases List.mem_append.1 hc with h | h
          · simp at h; omega
          · rw [(List.mem_replicate.1 h).2]; omega
        generalize [40] ++ List.replicate j (48 : Int) = R at hu hlk HX HY
        clear hjZ
        go_wp2_with fail
        refine (bdigits_any w.heap.size _ R N wr hu hN (by omega) hB).mono ?_
        rintro e w2 ⟨v2, rfl, hu2, hgr2⟩
        have hb2 := below_app hb hB hu.baseLe hgr2
        have hB2 := hb2.size
        have hl2 : (R ++ Ex.dg N).length < 200 := by
          have := Ex.dg_len20 N
          simp; omega
        have HY2 : Hid (∀ c ∈ R ++ Ex.dg N ++ [41], 0 ≤ c ∧ c ≤ 255) := fun c hc => by
          rcases List.mem_append.1 hc with h | h
          · rcases List.mem_append.1 h with h | h
            · exact HY.out c h
            · have := Ex.dg_dig N c h; omega
          · simp at h; omega
        generalize R ++ Ex.dg N = R2 at hu2 hl2 HX HY2
        clear hu hgr2 hb hlk HY
        go_wp2_with (first
          | (at_builtin; refine app_int _ 39 5 .u8 1 Ybtm.underlying39 Ybtm.infoU8 (by omega) rfl (.tmp 40) (.tmp 41) rfl w.heap.size _ R2 rfl (hu2.alloc _) _ 41 rfl (by simp) (by omega) (by simp; omega) ?_; intro u3 w3 hu3 huo3 hgr3; have hb3 := below_app hb2 hB2 hu2.baseLe hgr3.after_alloc; obtain ⟨a3, c3, rfl, _, _⟩ := hu3.shape; rw [show (R2 ++ [(41 : Int)]).length = R2.length + 1 from (by simp)] at hu3 ⊢; obtain ⟨sx, hcx, hsx, hsxz⟩ := conv_own hu3 HY2.out))
        clear hu3 huo3 hgr3 hu2 hb2 HY2
        have HSX : Hid (sb sx = R2 ++ [41]) := hsx
        have hsz : sx.size ≤ 1000 := by rw [hsxz]; omega
        clear hsx hsxz
        go_wp2_with fail
        refine (token_any sx w3 (by omega)).mono ?_
        rintro e w4 ⟨v4, c4, rfl, hb4, h4⟩
        have hx : Below w.heap.size w w4 := hb3.trans (hb4.mono hb3.size)
        rw [HSX.out, HX.out] at h4
        clear hcx HSX HX
        by_cases hfit : N ≤ 9223372036854775807
        · rw [if_pos hfit] at h4
          have h5 : c4 = 0 ∧ OwnT w4 w3.heap.size v4 [(40, 0), (48, (N : Int)), (41, 0)] := by
            rcases h4 with ⟨e1, e2, e3⟩ | ⟨o, e1, rfl, e3⟩
            · cases e1
            · cases e1; exact ⟨rfl, e3⟩
          obtain ⟨rfl, h6⟩ := h5
          obtain ⟨g, cp, rfl, hg1, hg2, hcl⟩ := h6.at (by simp)
          obtain ⟨x0, y0⟩ := hcl 0 (by simp)
          obtain ⟨x1, y1⟩ := hcl 1 (by simp)
          obtain ⟨x2, y2⟩ := hcl 2 (by simp)
          simp [Ex.kAt, Ex.vAt] at x0 y0 x1 y1 x2 y2
          have dN : decide ((9223372036854775807 : Int) < (N : Int)) = false := decide_eq_false (by omega)
          clear h4 h6 hcl
          go_wp2_with fail
          go_ret
          exact ⟨rfl, hx⟩
        · rw [if_neg hfit] at h4
          have h5 : c4 = 3 ∧ v4 = .slice none 0 0 := by
            rcases h4 with ⟨e1, e2, e3⟩ | ⟨o, e1, rfl, e3⟩
            · cases e1; exact ⟨rfl, e3⟩
            · cases e1
          obtain ⟨rfl, rfl⟩ := h5
          have dN : (9223372036854775807 : Int) < (N : Int) := by omega
          have hnil := nilEq
          clear h4
          go_wp2_with fail
          go_ret
          exact ⟨rfl, hx⟩
end Go.Proofs.Ymbrbt
