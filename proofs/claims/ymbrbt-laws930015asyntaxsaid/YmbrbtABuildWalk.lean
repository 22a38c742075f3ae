import Derived.Test.YmbrbtStepTok
import Derived.Test.YmbrbtEv
set_option linter.unusedVariables false
set_option linter.unusedSimpArgs false
set_option linter.unnecessarySimpa false
namespace Go.Proofs.Ymbrbt
open Go.RowKit

def aopK (k : Int) : Int := if k % 4 = 0 then 45 else if k % 4 = 1 then 47 else if k % 4 = 2 then 43 else 42
theorem aopK_cases (k : Int) : aopK k = 45 ∨ aopK k = 47 ∨ aopK k = 43 ∨ aopK k = 42 := by
  unfold aopK
  repeat' split
  all_goals simp
theorem aopK_prec (k : Int) : 0 < Ex.prec (aopK k) := by
  rcases aopK_cases k with h | h | h | h <;> rw [h] <;> simp [Ex.prec]
set_option maxHeartbeats 400000 in
theorem aop_any (k : Int) (w : World) (h0 : 0 ≤ k) (h1 : k ≤ 255) : Calls Ybtm.prog 18 #[.int .u8 k] w fun e w' => e = .returned (.int .u8 (aopK k)) ∧ w' = w := by
  have hk : k % 4 = 0 ∨ k % 4 = 1 ∨ k % 4 = 2 ∨ k % 4 = 3 := by omega
  rcases hk with hk | hk | hk | hk
  all_goals
    have e : aopK k = aopK k := rfl
    conv at e => rhs; unfold aopK; simp [hk]
    rw [e]
    clear e
    go_enter Ybtm.func18, Ybtm.ntmps18
    go_wp2
    go_ret
    exact ⟨rfl, rfl⟩

set_option maxRecDepth 100000 in
set_option maxHeartbeats 4000000 in
theorem abuild_any (a : Option Addr) (n cap : Nat) (rs : List (Int × Int)) (w : World) (ht : Toks w a n cap rs) (hok : TokOk rs) (hn : n ≤ 1024) :
    Calls Ybtm.prog 15 #[.slice a n cap] w fun e w' => ∃ v ts, e = .returned v ∧ OwnT w' w.heap.size v ts ∧ Ex.vrun 0 ts = some 1 ∧ ts.length ≤ 2 * n + 1 ∧ TokOk ts ∧ Below w.heap.size w w' := by
  have hnc := ht.2.1
  have hcm := ht.2.2.1
  unfold maxLen at hcm
  have HL : Hid (rs.length = n) := ht.1
  have HT : Hid (Toks w a n cap rs) := ht
  have HO : Hid (TokOk rs) := hok
  clear ht hok
  by_cases hn0 : n = 0
  · have hz : ((n : Int) == 0) = true := by simp; omega
    clear hn0
    go_enter Ybtm.func15, Ybtm.ntmps15
    go_wp2_with (first
      | (at_make; go_must (refine make_tok _ rfl _ _ rfl w.heap.size _ _ _ (2 * n + 1) rfl rfl (by omega) (by omega) (by omega) ?_; intro w1 hown1 hb1 hlt1))
      | (at_builtin; go_must (refine app_tok _ rfl _ _ rfl w.heap.size _ [] rfl (hown1.alloc _) _ 48 0 rfl (by simp) (by simp) (by simp) (by simp; omega) ?_; intro v2 w2 hown2 hold2 hgr2)))
    go_ret
    exact ⟨_, [(48, 0)], rfl, hown2, by simp [Ex.vrun], by simp, (fun t ht => by simp at ht; subst ht; exact ⟨by omega, by omega, by simp [Ex.inI]⟩), below_app hb1 hb1.size hown1.base hgr2.after_alloc⟩
  have hz : ((n : Int) == 0) = false := by simp; omega
  go_enter Ybtm.func15, Ybtm.ntmps15
  go_wp2_with (first
    | (at_make; go_must (refine make_tok _ rfl _ _ rfl w.heap.size _ _ _ (2 * n + 1) rfl rfl (by omega) (by omega) (by omega) ?_; intro w1 hown1 hb1 hlt1)))
  go_loopw [3, 4, 22] (fun v d i wr => ∃ (k m : Nat) (ts : List (Int × Int)), k ≤ n ∧ i = .int .i64 k ∧ d = .int .i64 m ∧ m ≤ k ∧ (0 < k → 1 ≤ m) ∧ ts.length = k ∧ Hid (Ex.vrun 0 ts = some m) ∧ Hid (TokOk ts) ∧ OwnT wr w.heap.size v ts ∧ Below w.heap.size w wr) (fun _ _ i _ => n - (intOf i).toNat)
  case atStart => exact ⟨0, 0, [], Nat.zero_le _, rfl, rfl, by omega, by omega, rfl, rfl, (fun t ht => by cases ht), hown1, hb1⟩
  case round =>
    obtain ⟨k, m, ts, hk, rfl, rfl, hm2, hm1, htl, HV, HK, hown, hb⟩ := hrel
    clear hown1 hb1 hlt1
    have hB := hb.size
    by_cases hlt : k < n
    · obtain ⟨b, off, rfl, hc⟩ := (HT.out.below hb).2.2.2 (by omega)
      obtain ⟨c1, c2⟩ := hc k hlt
      obtain ⟨o1, o2, o3⟩ := HO.out.at k (by have := HL.out; omega)
      clear hc
      obtain ⟨q, hq⟩ : ∃ q, IntKind.u8.wrap ((Ex.kAt rs k).tdiv 2) = q := ⟨_, rfl⟩
      have hq0 : 0 ≤ q ∧ q ≤ 255 := by rw [IntKind.wrap_u8] at hq; omega
      obtain ⟨hq1, hq2⟩ := hq0
      by_cases hodd : Ex.kAt rs k % 2 = 1 ∧ 2 ≤ m
      · obtain ⟨ho, hm3⟩ := hodd
        have HN : Hid (Ex.vrun 0 (ts ++ [(aopK q, Ex.vAt rs k)]) = some (m - 1)) := Ex.vrun_snoc_op HV.out (aopK_prec _) hm3
        have HK2 : Hid (TokOk (ts ++ [(aopK q, Ex.vAt rs k)])) := fun t ht => by
          rcases List.mem_append.1 ht with h | h
          · exact HK.out t h
          · simp at h; subst h
            refine ⟨?_, ?_, o3⟩ <;> (rcases aopK_cases q with h | h | h | h <;> simp [h])
        have hne : some wr.heap.size ≠ u3.ownBlock := fun e => by have := (hown.lt _ e.symm).2; omega
        go_wp2_with fail
        go_region_held3 (fun w' => w'.cell? ⟨wr.heap.size, 0, none⟩ = some (.int .u8 (Ex.kAt rs k)) ∧ w'.cell? ⟨wr.heap.size, 1, none⟩ = some (.int .i64 (Ex.vAt rs k)))
          (first | go_keep | (exact ⟨hgr.1.cell (by simp) hne, hgr.1.cell (by simp) hne⟩))
          (first
            | (refine step_tok (by rfl) _ _ (by rfl) w.heap.size _ ts (by rfl) (((hown.alloc _).alloc _).drew) _ (aopK q) (Ex.vAt rs k) (by rfl) (by simp) (by simp) (by omega) (by simp; omega) ?_; intro v' w2 hown2 hold2 hgr)
            | (go_at_call 18; refine (aop_any _ _ (by omega) (by omega)).mono ?_; rintro e w' ⟨rfl, rfl⟩))
        have hgr' := hgr.after_drew.after_alloc.after_alloc
        clear hgr
        go_wp2_with fail
        go_roundw
        case rel => exact ⟨k + 1, m - 1, _, by omega, by go_num, by go_num, by omega, by omega, by simp [htl], HN, HK2, hown2, below_app hb hB hown.base hgr'⟩
        case measure => simp [intOf]; omega
      · have HN : Hid (Ex.vrun 0 (ts ++ [(48, Ex.vAt rs k)]) = some (m + 1)) := Ex.vrun_snoc_num HV.out
        have HK2 : Hid (TokOk (ts ++ [(48, Ex.vAt rs k)])) := fun t ht => by
          rcases List.mem_append.1 ht with h | h
          · exact HK.out t h
          · simp at h; subst h; exact ⟨by omega, by omega, o3⟩
        clear hq hq1 hq2
        by_cases h1 : Ex.kAt rs k % 2 = 1
        · have h2 : decide ((2 : Int) ≤ (m : Int)) = false := decide_eq_false (by omega)
          clear hodd
          go_wp2_with (first | (at_builtin; go_must (refine app_tok _ rfl _ _ rfl w.heap.size _ ts rfl ((hown.alloc _).alloc _) _ 48 (Ex.vAt rs k) rfl (by simp) (by simp) (by omega) (by simp; omega) ?_; intro v' w2 hown2 hold2 hgr)))
          go_roundw
          case rel => exact ⟨k + 1, m + 1, _, by omega, by go_num, by go_num, by omega, by omega, by simp [htl], HN, HK2, hown2, below_app hb hB hown.base hgr.after_alloc.after_alloc⟩
          case measure => simp [intOf]; omega
        · have h2 : (Ex.kAt rs k % 2 == 1) = false := by simpa using h1
          clear hodd
          go_wp2_with (first | (at_builtin; go_must (refine app_tok _ rfl _ _ rfl w.heap.size _ ts rfl ((hown.alloc _).alloc _) _ 48 (Ex.vAt rs k) rfl (by simp) (by simp) (by omega) (by simp; omega) ?_; intro v' w2 hown2 hold2 hgr)))
          go_roundw
          case rel => exact ⟨k + 1, m + 1, _, by omega, by go_num, by go_num, by omega, by omega, by simp [htl], HN, HK2, hown2, below_app hb hB hown.base hgr.after_alloc.after_alloc⟩
          case measure => simp [intOf]; omega
    · have hkn : decide ((k : Int) < (n : Int)) = false := decide_eq_false (by omega)
      have hm1' : 1 ≤ m := hm1 (by omega)
      go_wp2_with fail
      go_loopw [3, 4] (fun v d wx => ∃ (m : Nat) (ts : List (Int × Int)), d = .int .i64 m ∧ 1 ≤ m ∧ m ≤ n ∧ ts.length + m ≤ 2 * n + 1 ∧ Hid (Ex.vrun 0 ts = some m) ∧ Hid (TokOk ts) ∧ OwnT wx w.heap.size v ts ∧ Below w.heap.size w wx) (fun _ d _ => (intOf d).toNat)
      case atStart => exact ⟨m, ts, rfl, hm1', by omega, by omega, HV, HK, hown, hb⟩
      case round =>
        clear hown hb HV hB hm1 hm2 htl HK hm1'
        obtain ⟨m, ts, rfl, hm1, hm2, htl, HV, HK, hown, hb⟩ := hrel
        have hB := hb.size
        by_cases hm3 : 2 ≤ m
        · obtain ⟨j, rfl⟩ : ∃ j, m = j + 1 := ⟨m - 1, by omega⟩
          obtain ⟨b, off, rfl, hc⟩ := (HT.out.below hb).2.2.2 (by omega)
          obtain ⟨c1, c2⟩ := hc j (by omega)
          obtain ⟨o1, o2, o3⟩ := HO.out.at j (by have := HL.out; omega)
          obtain ⟨q, hq⟩ : ∃ q, IntKind.u8.wrap ((Ex.kAt rs j).tdiv 2) = q := ⟨_, rfl⟩
          have hq0 : 0 ≤ q ∧ q ≤ 255 := by rw [IntKind.wrap_u8] at hq; omega
          obtain ⟨hq1, hq2⟩ := hq0
          have HN : Hid (Ex.vrun 0 (ts ++ [(aopK q, Ex.vAt rs j)]) = some j) := Ex.vrun_snoc_op HV.out (aopK_prec _) hm3
          have HK2 : Hid (TokOk (ts ++ [(aopK q, Ex.vAt rs j)])) := fun t ht => by
            rcases List.mem_append.1 ht with h | h
            · exact HK.out t h
            · simp at h; subst h
              refine ⟨?_, ?_, o3⟩ <;> (rcases aopK_cases q with h | h | h | h <;> simp [h])
          have hne : some wr.heap.size ≠ u3.ownBlock := fun e => by have := (hown.lt _ e.symm).2; omega
          have hj2 : (1 : Int) < (j : Int) + 1 := by omega
          clear hc
          go_wp2_with fail
          go_region_held3 (fun w' => w'.cell? ⟨wr.heap.size, 0, none⟩ = some (.int .u8 (Ex.kAt rs j)) ∧ w'.cell? ⟨wr.heap.size, 1, none⟩ = some (.int .i64 (Ex.vAt rs j)))
            (first | go_keep | (exact ⟨hgr.1.cell (by simp) hne, hgr.1.cell (by simp) hne⟩))
            (first
              | (refine step_tok (by rfl) _ _ (by rfl) w.heap.size _ ts (by rfl) (((hown.alloc _).alloc _).drew) _ (aopK q) (Ex.vAt rs j) (by rfl) (by simp) (by simp) (by omega) (by simp; omega) ?_; intro v' w2 hown2 hold2 hgr)
              | (go_at_call 18; refine (aop_any _ _ (by omega) (by omega)).mono ?_; rintro e w' ⟨rfl, rfl⟩))
          have hgr' := hgr.after_drew.after_alloc.after_alloc
          clear hgr
          go_wp2_with fail
          go_roundw
          case rel => exact ⟨j, _, by go_num, by omega, by omega, by simp; omega, HN, HK2, hown2, below_app hb hB hown.base hgr'⟩
          case measure => simp [intOf]
        · obtain rfl : m = 1 := by omega
          obtain ⟨a', cap', rfl, _⟩ := hown.toks
          go_wp2_with fail
          go_ret
          exact ⟨_, ts, rfl, hown, HV.out, by omega, HK.out, hb⟩
end Go.Proofs.Ymbrbt
