import Derived.Test.YmbrbtTiWalk
import Derived.Test.YmbrbtStepTok
import Derived.Test.YmbrbtOpenTok
import Derived.BigQuiet
set_option linter.unusedVariables false
set_option linter.unusedSimpArgs false
set_option linter.unnecessarySimpa false
namespace Go.Proofs.Ymbrbt
open Go.RowKit

theorem nilEqD (w : World) : Sem.run Ybtm.prog (binOp BinOp.eql 22 (.slice none 0 0) (.slice none 0 0)) w = .ok (.bool true) w := by
  first
  | rfl
  | (simp [binOp, run_underlying Ybtm.underlying22]; done)
def dkK (b : Int) : Int := if b % 16 = 0 ∨ b % 16 = 2 ∨ b % 16 = 4 ∨ b % 16 = 6 then 48 else if b % 16 = 1 then 43 else if b % 16 = 3 then 45 else if b % 16 = 5 then 42 else if b % 16 = 7 then 47 else if b % 16 = 8 then 40 else if b % 16 = 9 then 41 else b
set_option maxHeartbeats 2000000 in
theorem dkind_any (b : Int) (w : World) (h0 : 0 ≤ b) (h1 : b ≤ 255) : Calls Ybtm.prog 33 #[.int .u8 b] w fun e w' => e = .returned (.int .u8 (dkK b)) ∧ w' = w := by
  by_cases h10 : b % 16 < 10
  · have hk : b % 16 = 0 ∨ b % 16 = 1 ∨ b % 16 = 2 ∨ b % 16 = 3 ∨ b % 16 = 4 ∨ b % 16 = 5 ∨ b % 16 = 6 ∨ b % 16 = 7 ∨ b % 16 = 8 ∨ b % 16 = 9 := by omega
    clear h10
    rcases hk with hk | hk | hk | hk | hk | hk | hk | hk | hk | hk
    all_goals
      have e : dkK b = dkK b := rfl
      conv at e => rhs; unfold dkK; simp [hk]
      rw [e]
      clear e
      go_enter Ybtm.func33, Ybtm.ntmps33
      go_wp2
      go_ret
      exact ⟨rfl, rfl⟩
  · have e : dkK b = b := by
      unfold dkK
      rw [if_neg (by omega), if_neg (by omega), if_neg (by omega), if_neg (by omega), if_neg (by omega), if_neg (by omega), if_neg (by omega)]
    rw [e]
    have q0 : (b % 16 == 0) = false := by simp; omega
    have q1 : (b % 16 == 1) = false := by simp; omega
    have q2 : (b % 16 == 2) = false := by simp; omega
    have q3 : (b % 16 == 3) = false := by simp; omega
    have q4 : (b % 16 == 4) = false := by simp; omega
    have q5 : (b % 16 == 5) = false := by simp; omega
    have q6 : (b % 16 == 6) = false := by simp; omega
    have q7 : (b % 16 == 7) = false := by simp; omega
    have q8 : (b % 16 == 8) = false := by simp; omega
    have q9 : (b % 16 == 9) = false := by simp; omega
    clear e h10
    go_enter Ybtm.func33, Ybtm.ntmps33
    go_wp2
    go_ret
    exact ⟨rfl, rfl⟩

def Bk (ts : List Tk) (q nd sz : Nat) : Prop := Ex.rrun 1 ts.reverse = Ex.rrun nd (ts.take q).reverse ∧ sz + isize (ts.take q) = isize ts
theorem Bk.init (ts : List Tk) : Bk ts ts.length 1 0 := ⟨by rw [List.take_length], by rw [List.take_length]; omega⟩
theorem isize_take (ts : List Tk) (q : Nat) (hq : q < ts.length) : isize (ts.take (q + 1)) = isize (ts.take q) + if Ex.kAt ts q = 48 then 1 else 3 := by
  rw [Ex.take_at ts q hq, isize_app]
  rfl
theorem Bk.num {ts : List Tk} {q nd sz : Nat} (h : Bk ts (q + 1) nd sz) (hq : q < ts.length) (hn : nd ≠ 0) (hk : Ex.kAt ts q = 48) : Bk ts q (nd - 1) (sz + 1) := by
  obtain ⟨h1, h2⟩ := h
  refine ⟨?_, ?_⟩
  · rw [h1, Ex.take_rev ts q hq]
    simp only [Ex.rrun]
    rw [if_neg hn, if_pos hk]
  · rw [isize_take ts q hq, if_pos hk] at h2; omega
theorem Bk.op {ts : List Tk} {q nd sz : Nat} (h : Bk ts (q + 1) nd sz) (hq : q < ts.length) (hn : nd ≠ 0) (hk : 0 < Ex.prec (Ex.kAt ts q)) : Bk ts q (nd + 1) (sz + 3) := by
  obtain ⟨h1, h2⟩ := h
  have h48 := (prec_ne hk).1
  refine ⟨?_, ?_⟩
  · rw [h1, Ex.take_rev ts q hq]
    simp only [Ex.rrun]
    rw [if_neg hn, if_neg h48, if_pos hk]
  · rw [isize_take ts q hq, if_neg h48] at h2; omega
theorem Bk.low {ts : List Tk} {q sz : Nat} (h : Bk ts (q + 1) 0 sz) (hq : q < ts.length) : Ex.vpB ts = false := by
  rw [Ex.vpB_right, h.1, Ex.take_rev ts q hq]
  simp [Ex.rrun]
theorem Bk.bad {ts : List Tk} {q nd sz : Nat} (h : Bk ts (q + 1) nd sz) (hq : q < ts.length) (hk : Ex.kAt ts q ≠ 48) (hp : Ex.prec (Ex.kAt ts q) = 0) : Ex.vpB ts = false := by
  rw [Ex.vpB_right, h.1, Ex.take_rev ts q hq]
  simp only [Ex.rrun]
  by_cases h0 : nd = 0
  · rw [if_pos h0]; rfl
  · rw [if_neg h0, if_neg hk, if_neg (by omega)]; rfl
theorem Bk.fin {ts : List Tk} {nd sz : Nat} (h : Bk ts 0 nd sz) : Ex.vpB ts = (nd == 0) ∧ sz = isize ts := by
  obtain ⟨h1, h2⟩ := h
  refine ⟨?_, by simpa [isize] using h2⟩
  rw [Ex.vpB_right, h1]
  simp [Ex.rrun]

theorem op_split2 (K : Int) : (((K == 43) = true ∨ ((K == 43) = false ∧ (K == 45) = true) ∨ ((K == 43) = false ∧ (K == 45) = false ∧ (K == 42) = true) ∨ ((K == 43) = false ∧ (K == 45) = false ∧ (K == 42) = false ∧ (K == 47) = true)) ∧ 0 < Ex.prec K) ∨
    (((K == 43) = false ∧ (K == 45) = false ∧ (K == 42) = false ∧ (K == 47) = false) ∧ Ex.prec K = 0) := by
  rcases Ex.prec_cases K with ⟨e, rfl | rfl⟩ | ⟨e, rfl | rfl⟩ | ⟨e, h1, h2, h3, h4⟩
  · exact .inl ⟨.inl rfl, by omega⟩
  · exact .inl ⟨.inr (.inl ⟨rfl, rfl⟩), by omega⟩
  · exact .inl ⟨.inr (.inr (.inl ⟨rfl, rfl, rfl⟩)), by omega⟩
  · exact .inl ⟨.inr (.inr (.inr ⟨rfl, rfl, rfl, rfl⟩)), by omega⟩
  · exact .inr ⟨⟨by simpa using h1, by simpa using h2, by simpa using h3, by simpa using h4⟩, e⟩

set_option maxRecDepth 100000 in
set_option maxHeartbeats 8000000 in
theorem daccepts_any (a : Option Addr) (n cap : Nat) (rs : List Tk) (w : World) (ht : Toks w a n cap rs) (hok : TokOk rs) :
    Calls Ybtm.prog 13 #[.slice a n cap] w fun e w' => e = .returned (.bool true) ∧ Below w.heap.size w w' := by
  have hnc := ht.2.1
  have hcm := ht.2.2.1
  unfold maxLen at hcm
  have HT : Hid (Toks w a n cap rs) := ht
  have HOK : Hid (TokOk rs) := hok
  have HLN : Hid (rs.length = n) := ht.1
  clear ht hok
  by_cases hbig : 512 < n
  · go_enter Ybtm.func13, Ybtm.ntmps13
    go_wp2_with fail
    go_ret
    exact ⟨rfl, Below.refl _ _⟩
  have d0 : decide ((512 : Int) < (n : Int)) = false := decide_eq_false (by omega)
  go_enter Ybtm.func13, Ybtm.ntmps13
  go_wp2_with (first
    | (at_make; refine make_tok _ rfl _ _ rfl w.heap.size _ _ _ n rfl rfl (by omega) (by omega) (by omega) ?_; intro w1 hown1 hb1 hlt1))
  go_loopw [3, 5, 21] (fun u _ i wr => ∃ (k : Nat) (T : List Tk), k ≤ n ∧ i = .int .i64 k ∧ T.length = k ∧ OwnT wr w.heap.size u T ∧ Below w.heap.size w wr) (fun _ _ i _ => n - (intOf i).toNat)
  case atStart => exact ⟨0, [], by omega, rfl, rfl, hown1, hb1⟩
  case round =>
    obtain ⟨k, T, hk, rfl, hTk, hown, hb⟩ := hrel
    clear hown1 hb1 hlt1
    have hB := hb.size
    by_cases hlt : k < n
    · obtain ⟨b, off, rfl, hc⟩ := (HT.out.below hb).2.2.2 (by omega)
      obtain ⟨c1, c2⟩ := hc k hlt
      obtain ⟨o1, o2, o3⟩ := HOK.out.at k (by have := HLN.out; omega)
      generalize Ex.kAt rs k = K at c1 o1 o2
      generalize Ex.vAt rs k = V at c2 o3
      have hne : some wr.heap.size ≠ u3.ownBlock := fun e => by have := (hown.lt _ e.symm).2; omega
      clear hc
      go_wp2_with fail
      go_region_held3 (fun w' => w'.cell? ⟨wr.heap.size, 0, none⟩ = some (.int .u8 K) ∧ w'.cell? ⟨wr.heap.size, 1, none⟩ = some (.int .i64 V))
        (first | go_keep | (exact ⟨hgr.1.cell (by simp) hne, hgr.1.cell (by simp) hne⟩))
        (first
          | (refine step_tok (by rfl) _ _ (by rfl) w.heap.size _ T (by rfl) (((hown.alloc _).alloc _).drew) _ (dkK K) V (by rfl) (by simp) (by simp) (by omega) (by simp; omega) ?_; intro v' w2 hown2 hold2 hgr)
          | (go_at_call 33; refine (dkind_any _ _ (by omega) (by omega)).mono ?_; rintro e w' ⟨rfl, rfl⟩))
      have hgr' := hgr.after_drew.after_alloc.after_alloc
      clear hgr
      go_wp2_with fail
      go_roundw
      case rel => exact ⟨k + 1, _, by omega, by go_num, by simp [hTk], hown2, below_app hb hB hown.base hgr'⟩
      case measure => simp [intOf]; omega
    · have hkd : decide ((k : Int) < (n : Int)) = false := decide_eq_false (by omega)
      obtain ⟨aT, cT, rfl, hnT, hT⟩ := hown.toks'
      have hTn : T.length ≤ 512 := by omega
      have hTc := hT.2.1
      have hTcm := hT.2.2.1
      unfold maxLen at hTcm
      obtain ⟨wk, hwk⟩ : ∃ wk, wk = wr := ⟨_, rfl⟩
      have HTT : Hid (Toks wk aT T.length cT T) := by rw [hwk]; exact hT
      have hbk : Below w.heap.size w wk := by rw [hwk]; exact hb
      have HBI : Hid (Bk T T.length 1 0) := Bk.init T
      obtain ⟨M, hM⟩ : ∃ M, T.length = M := ⟨_, rfl⟩
      have HM : Hid (T.length = M) := hM
      rw [hM] at HTT HBI hTn hTc ⊢
      clear hown hT hTk hM hb hB
      subst hwk
      go_wp2_with fail
      go_loop [6, 7, 8, 9, 10] (fun nd vd sz i _ => ∃ (q N S : Nat), q ≤ M ∧ nd = .int .i64 N ∧ vd = .bool true ∧ sz = .int .i64 S ∧ i = .int .i64 ((q : Int) - 1) ∧ Hid (Bk T q N S) ∧ N ≤ 1 + (M - q) ∧ S ≤ 3 * (M - q)) (fun _ _ _ i _ => (intOf i + 1).toNat)
      case atStart => exact ⟨M, 1, 0, by omega, rfl, rfl, rfl, by go_num, HBI, by omega, by omega⟩
      case round =>
        obtain ⟨q, N, S, hq, rfl, rfl, rfl, rfl, HB, hN, hS⟩ := hrel
        clear HBI
        rcases q with _ | q
        · rw [show (((0 : Nat) : Int) - 1) = -1 by omega]
          obtain ⟨f1, f2⟩ := HB.out.fin
          by_cases hN0 : N = 0
          · have HVT : Hid (Ex.vpB T = true) := by show _ = _; rw [f1, hN0]; rfl
            have HSZ : Hid (S = isize T) := f2
            have dN : ((N : Int) != 0) = false := by simp; omega
            clear f1 f2 HB hN0
            go_wp2_with fail
            refine (toinfix_any aT M cT T wk HTT.out (by omega)).mono ?_
            rintro e w9 ⟨v9, b9, rfl, hb9, hr9⟩
            have hx : Below w.heap.size w w9 := hbk.trans (hb9.mono hbk.size)
            have hz : b9 = true ∧ ∃ I, PX T I ∧ OwnT w9 wk.heap.size v9 I := by
              rcases hr9 with ⟨h1, _⟩ | ⟨_, h1, h2⟩
              · rw [HVT.out] at h1; cases h1
              · exact ⟨h1, h2⟩
            obtain ⟨rfl, I, hpx, hI⟩ := hz
            obtain ⟨a9, c9, rfl, _, _⟩ := hI.toks'
            have hIl : ((I.length : Int) == (S : Int)) = true := by
              have := hpx.len
              have := HSZ.out
              simp; omega
            obtain ⟨Li, hLi⟩ : ∃ Li, I.length = Li := ⟨_, rfl⟩
            rw [hLi] at hIl ⊢
            clear hr9 hI hpx hLi
            go_wp2_with fail
            go_ret
            exact ⟨rfl, hx⟩
          · have HVF : Hid (Ex.vpB T = false) := by show _ = _; rw [f1]; simpa using hN0
            have dN : ((N : Int) != 0) = true := by simp; omega
            clear f1 f2 HB hN0
            go_wp2_with fail
            refine (toinfix_any aT M cT T wk HTT.out (by omega)).mono ?_
            rintro e w9 ⟨v9, b9, rfl, hb9, hr9⟩
            have hx : Below w.heap.size w w9 := hbk.trans (hb9.mono hbk.size)
            have hz : b9 = false ∧ v9 = .slice none 0 0 := by
              rcases hr9 with ⟨_, h1, h2⟩ | ⟨h1, _⟩
              · exact ⟨h1, h2⟩
              · rw [HVF.out] at h1; cases h1
            obtain ⟨rfl, rfl⟩ := hz
            have hnil := nilEqD
            clear hr9
            go_wp2_with fail
            go_ret
            exact ⟨rfl, hx⟩
        · rw [show (((q + 1 : Nat) : Int) - 1) = (q : Int) by omega]
          obtain ⟨b, off, rfl, hc⟩ := HTT.out.2.2.2 (by omega)
          obtain ⟨c1, c2⟩ := hc q (by omega)
          have hqT : q < T.length := by have := HM.out; omega
          have hq0 : (0 : Int) ≤ (q : Int) := by omega
          have hqM : (q : Int) < (M : Int) := by omega
          obtain ⟨K, hK⟩ : ∃ K, Ex.kAt T q = K := ⟨_, rfl⟩
          rw [hK] at c1
          clear hc c2
          by_cases hN0 : N = 0
          · have HVF : Hid (Ex.vpB T = false) := by have := HB.out; rw [hN0] at this; exact this.low hqT
            have dN : ((N : Int) == 0) = true := by simp; omega
            clear HB hK hN0
            go_wp2_with fail
            refine (toinfix_any (some ⟨b, off, none⟩) M cT T wk HTT.out (by omega)).mono ?_
            rintro e w9 ⟨v9, b9, rfl, hb9, hr9⟩
            have hx : Below w.heap.size w w9 := hbk.trans (hb9.mono hbk.size)
            have hz : b9 = false ∧ v9 = .slice none 0 0 := by
              rcases hr9 with ⟨_, h1, h2⟩ | ⟨h1, _⟩
              · exact ⟨h1, h2⟩
              · rw [HVF.out] at h1; cases h1
            obtain ⟨rfl, rfl⟩ := hz
            have hnil := nilEqD
            clear hr9
            go_wp2_with fail
            go_ret
            exact ⟨rfl, hx⟩
          · have dN : ((N : Int) == 0) = false := by simp; omega
            by_cases h48 : K = 48
            · have HN : Hid (Bk T q (N - 1) (S + 1)) := HB.out.num hqT hN0 (hK.trans h48)
              subst h48
              clear HB hK
              go_wp2_with fail
              go_round
              case rel => exact ⟨q, N - 1, S + 1, by omega, by go_num, rfl, by go_num, by go_num, HN, by omega, by omega⟩
              case measure => first | (simp [intOf]; done) | (simp [intOf]; omega)
            · have m48 : (K == 48) = false := by simpa using h48
              rcases op_split2 K with ⟨hor, hp⟩ | ⟨⟨x1, x2, x3, x4⟩, hp⟩
              · have HN : Hid (Bk T q (N + 1) (S + 3)) := HB.out.op hqT hN0 (by rw [hK]; exact hp)
                clear HB hK h48 hp
                rcases hor with x1 | ⟨x1, x2⟩ | ⟨x1, x2, x3⟩ | ⟨x1, x2, x3, x4⟩
                all_goals
                  go_wp2_with fail
                  go_round
                  case rel => exact ⟨q, N + 1, S + 3, by omega, by go_num, rfl, by go_num, by go_num, HN, by omega, by omega⟩
                  case measure => first | (simp [intOf]; done) | (simp [intOf]; omega)
              · have HVF : Hid (Ex.vpB T = false) := HB.out.bad hqT (by rw [hK]; exact h48) (by rw [hK]; exact hp)
                clear HB hK h48 hp
                go_wp2_with fail
                refine (toinfix_any (some ⟨b, off, none⟩) M cT T wk HTT.out (by omega)).mono ?_
                rintro e w9 ⟨v9, b9, rfl, hb9, hr9⟩
                have hx : Below w.heap.size w w9 := hbk.trans (hb9.mono hbk.size)
                have hz : b9 = false ∧ v9 = .slice none 0 0 := by
                  rcases hr9 with ⟨_, h1, h2⟩ | ⟨h1, _⟩
                  · exact ⟨h1, h2⟩
                  · rw [HVF.out] at h1; cases h1
                obtain ⟨rfl, rfl⟩ := hz
                have hnil := nilEqD
                clear hr9
                go_wp2_with fail
                go_ret
                exact ⟨rfl, hx⟩
end Go.Proofs.Ymbrbt
