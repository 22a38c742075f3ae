import Derived.Test.YmbrbuHFlatWalk
import Derived.Deep.CutRange
set_option linter.unusedVariables false
set_option linter.unusedSimpArgs false
set_option linter.unnecessarySimpa false
namespace Go.Proofs.Ymbrbu
open Go.RowKit

theorem op_split' (K : Int) : ((K == 43) = true ∨ ((K == 43) = false ∧ (K == 45) = true) ∨ ((K == 43) = false ∧ (K == 45) = false ∧ (K == 42) = true) ∨ ((K == 43) = false ∧ (K == 45) = false ∧ (K == 42) = false ∧ (K == 47) = true)) ∧ 0 < Ex.prec K ∨ ((K == 43) = false ∧ (K == 45) = false ∧ (K == 42) = false ∧ (K == 47) = false) ∧ Ex.prec K = 0 := by
  rcases Ex.prec_cases K with ⟨_, rfl | rfl⟩ | ⟨_, rfl | rfl⟩ | ⟨h0, h1, h2, h3, h4⟩
  · left; simp [Ex.prec]
  · left; simp [Ex.prec]
  · left; simp [Ex.prec]
  · left; simp [Ex.prec]
  · right; exact ⟨⟨by simpa using h1, by simpa using h2, by simpa using h3, by simpa using h4⟩, h0⟩

set_option maxHeartbeats 1000000 in
theorem hkind_any (k : Int) (w : World) (h0 : 0 ≤ k) (h1 : k ≤ 255) : Calls Ybum.prog 45 #[.int .u8 k] w fun e w' => (∃ K, e = .returned (.int .u8 K)) ∧ w' = w := by
  by_cases h14 : 14 ≤ k
  · go_enter Ybum.func45, Ybum.ntmps45
    go_wp2
    go_ret
    exact ⟨⟨_, rfl⟩, rfl⟩
  · have d14 : decide (14 ≤ k) = false := by simpa using h14
    clear h14
    have hk : k % 7 = 0 ∨ k % 7 = 1 ∨ k % 7 = 2 ∨ k % 7 = 3 ∨ k % 7 = 4 ∨ k % 7 = 5 ∨ k % 7 = 6 := by omega
    rcases hk with hk | hk | hk | hk | hk | hk | hk
    all_goals
      go_enter Ybum.func45, Ybum.ntmps45
      go_wp2
      go_ret
      exact ⟨⟨_, rfl⟩, rfl⟩

set_option maxRecDepth 100000 in
set_option maxHeartbeats 6000000 in
theorem htoks_any (a : Option Addr) (n cap : Nat) (rs : List (Int × Int)) (guide close : Bool) (w : World) (ht : Toks w a n cap rs) (hok : TokOk rs) (hn : n ≤ 1024) :
    Calls Ybum.prog 25 #[.slice a n cap, .bool guide, .bool close] w fun e w' => ∃ v ts, e = .returned v ∧ OwnT w' w.heap.size v ts ∧ ts.length ≤ 2 * n + 1 ∧ Below w.heap.size w w' := by
  have hnc := ht.2.1
  have hcm := ht.2.2.1
  unfold maxLen at hcm
  have HL : Hid (rs.length = n) := ht.1
  have HT : Hid (Toks w a n cap rs) := ht
  have HO : Hid (TokOk rs) := hok
  clear ht hok
  go_enter Ybum.func25, Ybum.ntmps25
  go_wp2_with (first
    | (at_make; refine make_tok _ rfl _ _ rfl w.heap.size _ _ _ (2 * n + 1) rfl rfl (by omega) (by omega) (by omega) ?_; intro w1 hown1 hb1 hlt1))
  go_loopw [7, 8, 9, 11, 12, 20] (fun v wt d _ _ i wr => ∃ (k : Nat) (ts : List (Int × Int)) (want : Bool) (dp : Int), k ≤ n ∧ i = .int .i64 k ∧ wt = .bool want ∧ d = .int .i64 dp ∧ -(k : Int) ≤ dp ∧ dp ≤ (k : Int) ∧ ts.length = k ∧ OwnT wr w.heap.size v ts ∧ Below w.heap.size w wr) (fun _ _ _ _ _ i _ => n - (intOf i).toNat)
  case atStart => exact ⟨0, [], true, 0, by omega, rfl, rfl, rfl, by omega, by omega, rfl, hown1, hb1⟩
  case round =>
    clear hown1 hb1 hlt1
    obtain ⟨k, ts, want, dp, hk, rfl, rfl, rfl, hd1, hd2, htl, hown, hb⟩ := hrel
    have hB := hb.size
    by_cases hlt : k < n
    · obtain ⟨b, off, rfl, hc⟩ := (HT.out.below hb).2.2.2 (by omega)
      obtain ⟨c1, c2⟩ := hc k hlt
      obtain ⟨o1, o2, o3⟩ := HO.out.at k (by have := HL.out; omega)
      clear hc
      have hki : (k : Int) < (n : Int) := by omega
      go_wp2_with fail
      refine (hkind_any _ _ o1 o2).mono ?_
      rintro e w' ⟨⟨K0, rfl⟩, hw⟩
      subst hw
      go_upto_if 27 with fail
      go_cut [12, 20] from 20 to 71 (fun s i wq => (∃ K : Int, s = .int .u8 K) ∧ i = .int .i64 k ∧ wr.alloc (.cells #[.int .u8 (Ex.kAt rs k), .int .i64 (Ex.vAt rs k)] 61) = wq)
      case rest =>
        obtain ⟨⟨K, rfl⟩, rfl, hw⟩ := hcut
        subst hw
        rcases op_split' K with ⟨hor, hp⟩ | ⟨⟨x1, x2, x3, x4⟩, hp⟩
        · obtain ⟨n1, n2, n3⟩ := prec_ne hp
          have m1 : (K == 48) = false := by simpa using n1
          clear n1 n2 n3 hp
          rcases hor with x1 | ⟨x1, x2⟩ | ⟨x1, x2, x3⟩ | ⟨x1, x2, x3, x4⟩
          all_goals
            go_wp2_with (first | (at_builtin; go_must (refine app_tok _ rfl _ _ rfl w.heap.size _ ts rfl ((hown.alloc _).alloc _) _ K (Ex.vAt rs k) rfl (by simp) (by simp) (by omega) (by simp; omega) ?_; intro v' w2 hown2 hold2 hgr)))
            go_roundw
            case rel => exact ⟨k + 1, _, true, dp, by omega, by go_num, rfl, rfl, by omega, by omega, by simp [htl], hown2, below_app hb hB hown.base hgr.after_alloc.after_alloc⟩
            case measure => simp [intOf]; omega
        · clear hp
          by_cases h48 : K = 48
          · subst h48
            go_wp2_with (first | (at_builtin; go_must (refine app_tok _ rfl _ _ rfl w.heap.size _ ts rfl ((hown.alloc _).alloc _) _ 48 (Ex.vAt rs k) rfl (by simp) (by simp) (by omega) (by simp; omega) ?_; intro v' w2 hown2 hold2 hgr)))
            go_roundw
            case rel => exact ⟨k + 1, _, false, dp, by omega, by go_num, rfl, rfl, by omega, by omega, by simp [htl], hown2, below_app hb hB hown.base hgr.after_alloc.after_alloc⟩
            case measure => simp [intOf]; omega
          · have m1 : (K == 48) = false := by simpa using h48
            by_cases h40 : K = 40
            · subst h40
              clear h48
              go_wp2_with (first | (at_builtin; go_must (refine app_tok _ rfl _ _ rfl w.heap.size _ ts rfl ((hown.alloc _).alloc _) _ 40 (Ex.vAt rs k) rfl (by simp) (by simp) (by omega) (by simp; omega) ?_; intro v' w2 hown2 hold2 hgr)))
              go_roundw
              case rel => exact ⟨k + 1, _, want, dp + 1, by omega, by go_num, rfl, by go_num, by omega, by omega, by simp [htl], hown2, below_app hb hB hown.base hgr.after_alloc.after_alloc⟩
              case measure => simp [intOf]; omega
            · have m2 : (K == 40) = false := by simpa using h40
              by_cases h41 : K = 41
              · subst h41
                clear h48 h40
                go_wp2_with (first | (at_builtin; go_must (refine app_tok _ rfl _ _ rfl w.heap.size _ ts rfl ((hown.alloc _).alloc _) _ 41 (Ex.vAt rs k) rfl (by simp) (by simp) (by omega) (by simp; omega) ?_; intro v' w2 hown2 hold2 hgr)))
                go_roundw
                case rel => exact ⟨k + 1, _, want, dp - 1, by omega, by go_num, rfl, by go_num, by omega, by omega, by simp [htl], hown2, below_app hb hB hown.base hgr.after_alloc.after_alloc⟩
                case measure => simp [intOf]; omega
              · have m3 : (K == 41) = false := by simpa using h41
                clear h48 h40 h41
                go_wp2_with (first | (at_builtin; go_must (refine app_tok _ rfl _ _ rfl w.heap.size _ ts rfl ((hown.alloc _).alloc _) _ K (Ex.vAt rs k) rfl (by simp) (by simp) (by omega) (by simp; omega) ?_; intro v' w2 hown2 hold2 hgr)))
                go_roundw
                case rel => exact ⟨k + 1, _, want, dp, by omega, by go_num, rfl, rfl, by omega, by omega, by simp [htl], hown2, below_app hb hB hown.base hgr.after_alloc.after_alloc⟩
                case measure => simp [intOf]; omega
      case first =>
        cases guide with
        | false =>
          go_wp2_with fail
          go_meet
          case rel => exact ⟨⟨_, rfl⟩, rfl, rfl⟩
        | true =>
          cases want with
          | true =>
            by_cases h3 : Ex.kAt rs k % 3 = 1
            · go_wp2_with fail
              go_meet
              case rel => exact ⟨⟨_, rfl⟩, rfl, rfl⟩
            · have d3 : (Ex.kAt rs k % 3 == 1) = false := by simpa using h3
              go_wp2_with fail
              go_meet
              case rel => exact ⟨⟨_, rfl⟩, rfl, rfl⟩
          | false =>
            go_wp2_with fail
            refine (hop_any _ _ o1 o2).mono ?_
            rintro e w' ⟨rfl, hw⟩
            subst hw
            by_cases h5 : Ex.kAt rs k % 5 = 4
            · by_cases hdp : 0 < dp
              · go_wp2_with fail
                go_meet
                case rel => exact ⟨⟨_, rfl⟩, rfl, rfl⟩
              · have ddp : decide (0 < dp) = false := by simpa using hdp
                clear hdp
                cases close
                all_goals
                  go_wp2_with fail
                  go_meet
                  case rel => exact ⟨⟨_, rfl⟩, rfl, rfl⟩
            · have d5 : (Ex.kAt rs k % 5 == 4) = false := by simpa using h5
              go_wp2_with fail
              go_meet
              case rel => exact ⟨⟨_, rfl⟩, rfl, rfl⟩
    · have hkn : decide ((k : Int) < (n : Int)) = false := decide_eq_false (by omega)
      cases close with
      | false =>
        go_wp2_with fail
        go_ret
        exact ⟨_, _, rfl, hown, by omega, hb⟩
      | true =>
        have hfin : ∀ (u : Value) (us : List (Int × Int)) (wz : World), OwnT wz w.heap.size u us → us.length ≤ k + 1 → Below w.heap.size w wz → True := fun _ _ _ _ _ _ => trivial
        clear hfin
        cases want with
        | true =>
          go_wp2_with (first | (at_builtin; refine app_tok _ rfl (.tmp 74) (.tmp 76) rfl w.heap.size _ ts rfl (hown.alloc _) _ 48 7 rfl (by simp) (by simp) (by omega) (by simp; omega) ?_; intro v' w2 hown2 hold2 hgr))
          have hb2 := below_app hb hB hown.base hgr.after_alloc
          clear hown hold2 hgr hb
          go_loopw [7, 9] (fun v d wr => ∃ (us : List (Int × Int)) (dp : Int), d = .int .i64 dp ∧ dp ≤ n ∧ -(n : Int) ≤ dp ∧ (us.length : Int) + (if 0 ≤ dp then dp else 0) ≤ 2 * n + 1 ∧ OwnT wr w.heap.size v us ∧ Below w.heap.size w wr) (fun _ d _ => (intOf d).toNat)
          case atStart => exact ⟨_, dp, rfl, by omega, by omega, by simp; split <;> omega, hown2, hb2⟩
          case round =>
            clear hown2 hb2 hd1 hd2
            obtain ⟨us, dp, rfl, hd1, hd2, hul, hown, hb⟩ := hrel
            have hB := hb.size
            by_cases hdp : 0 < dp
            · rw [if_pos (by omega)] at hul
              have hul2 : us.length ≤ 2 * n := by omega
              go_wp2_with (first | (at_builtin; refine app_tok _ rfl (.tmp 80) (.tmp 82) rfl w.heap.size _ us rfl (hown.alloc _) _ 41 0 rfl (by simp) (by simp) (by omega) (by simp; omega) ?_; intro v' w2 hown2 hold2 hgr))
              go_roundw
              case rel => exact ⟨_, dp - 1, by go_num, by omega, by omega, by rw [if_pos (by omega)]; simp; omega, hown2, below_app hb hB hown.base hgr.after_alloc⟩
              case measure => simp [intOf]; omega
            · have ddp : decide (0 < dp) = false := by simpa using hdp
              have hul2 : us.length ≤ 2 * n + 1 := by split at hul <;> omega
              clear hul hdp
              go_wp2_with fail
              go_ret
              exact ⟨_, _, rfl, hown, hul2, hb⟩
        | false =>
          go_wp2_with fail
          go_loopw [7, 9] (fun v d wr => ∃ (us : List (Int × Int)) (dp : Int), d = .int .i64 dp ∧ dp ≤ n ∧ -(n : Int) ≤ dp ∧ (us.length : Int) + (if 0 ≤ dp then dp else 0) ≤ 2 * n + 1 ∧ OwnT wr w.heap.size v us ∧ Below w.heap.size w wr) (fun _ d _ => (intOf d).toNat)
          case atStart => exact ⟨_, dp, rfl, by omega, by omega, by split <;> omega, hown, hb⟩
          case round =>
            clear hown hb hd1 hd2
            obtain ⟨us, dp, rfl, hd1, hd2, hul, hown, hb⟩ := hrel
            have hB := hb.size
            by_cases hdp : 0 < dp
            · rw [if_pos (by omega)] at hul
              have hul2 : us.length ≤ 2 * n := by omega
              go_wp2_with (first | (at_builtin; refine app_tok _ rfl (.tmp 80) (.tmp 82) rfl w.heap.size _ us rfl (hown.alloc _) _ 41 0 rfl (by simp) (by simp) (by omega) (by simp; omega) ?_; intro v' w2 hown2 hold2 hgr))
              go_roundw
              case rel => exact ⟨_, dp - 1, by go_num, by omega, by omega, by rw [if_pos (by omega)]; simp; omega, hown2, below_app hb hB hown.base hgr.after_alloc⟩
              case measure => simp [intOf]; omega
            · have ddp : decide (0 < dp) = false := by simpa using hdp
              have hul2 : us.length ≤ 2 * n + 1 := by split at hul <;> omega
              clear hul hdp
              go_wp2_with fail
              go_ret
              exact ⟨_, _, rfl, hown, hul2, hb⟩
end Go.Proofs.Ymbrbu
