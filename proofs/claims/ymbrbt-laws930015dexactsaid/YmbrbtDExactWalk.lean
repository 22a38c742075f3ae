import Derived.Test.YmbrbtDBuildWalk
set_option linter.unusedVariables false
set_option linter.unusedSimpArgs false
set_option linter.unnecessarySimpa false
namespace Go.Proofs.Ymbrbt
open Go.RowKit

theorem at_mid (A B : List Tk) (k x : Int) : Ex.kAt (A ++ (k, x) :: B) A.length = k ∧ Ex.vAt (A ++ (k, x) :: B) A.length = x := by
  simp [Ex.kAt, Ex.vAt, List.getD_eq_getElem?_getD]
theorem toks_belowB {B : Nat} {w w' : World} {a : Option Addr} {n cap : Nat} {ts : List Tk} (h : Toks w a n cap ts) (hB : ∀ x, a = some x → x.block < B) (hb : Below B w w') : Toks w' a n cap ts := by
  obtain ⟨h1, h2, h3, h4⟩ := h
  refine ⟨h1, h2, h3, fun hn => ?_⟩
  obtain ⟨b, off, rfl, hc⟩ := h4 hn
  have hlt := hB _ rfl
  exact ⟨b, off, rfl, fun i hi => ⟨(hb.cell (p := ⟨b, off + i * 2, none⟩) hlt).trans (hc i hi).1, (hb.cell (p := ⟨b, off + i * 2 + 1, none⟩) hlt).trans (hc i hi).2⟩⟩

set_option maxRecDepth 100000 in
set_option maxHeartbeats 8000000 in
theorem dback_any {post I : List Tk} (h : PX post I) : ∀ (pre suf : List Tk) (B : Nat) (a : Option Addr) (n cap : Nat) (out : Value) (O Z : List Tk) (E R : Int) (w : World), Z = O ++ I.reverse →
    Toks w a n cap (pre ++ post ++ suf) → (∀ x, a = some x → x.block < B) → n ≤ 10000 → B ≤ w.heap.size → OwnT w B out O → O.length + I.length ≤ 1000000 →
    E = (pre.length : Int) + (post.length : Int) - 1 → R = (pre.length : Int) - 1 →
    Calls Ybtm.prog 30 #[.slice a n cap, .int .i64 E, out] w fun e w' => ∃ v', e = .returned (.tuple #[.int .i64 R, v']) ∧ OwnT w' B v' Z ∧ Grew w w' out v' := by
  induction h with
  | num v =>
    intro pre suf B a n cap out O Z E R w hZ ht hB hn hBw hown hl hE hR
    have HZ : Hid (Z = _) := hZ
    clear hZ
    have hnc := ht.2.1
    have hcm := ht.2.2.1
    have hln := ht.1
    unfold maxLen at hcm
    simp at hln hE hl
    obtain ⟨b, off, rfl, hc⟩ := ht.2.2.2 (by omega)
    obtain ⟨c1, c2⟩ := hc pre.length (by omega)
    have em := at_mid pre suf 48 v
    rw [List.append_assoc] at c1 c2
    rw [show [((48 : Int), v)] ++ suf = (48, v) :: suf from rfl] at c1 c2
    rw [em.1] at c1
    rw [em.2] at c2
    obtain ⟨p, hp⟩ : ∃ p, pre.length = p := ⟨_, rfl⟩
    rw [hp] at c1 c2 hln hR hE
    have hEp : E = (p : Int) := by omega
    subst hEp
    have HR : Hid (R = (p : Int) - 1) := hR
    have hpn : (p : Int) < (n : Int) := by omega
    have hp0 : (0 : Int) ≤ (p : Int) := by omega
    have hpd : decide ((p : Int) < 0) = false := decide_eq_false (by omega)
    clear hc ht em hp hln hR hE
    go_enter Ybtm.func30, Ybtm.ntmps30
    go_wp2_with (first
      | (at_builtin; refine app_tok _ rfl (.tmp 26) (.tmp 28) rfl B _ O rfl ((hown.alloc _).alloc _) _ 48 v rfl (by simp) (by simp) (by omega) (by simp; omega) ?_; intro v' w2 hown2 hold2 hgr))
    go_ret2
    exact ⟨_, by rw [HR.out]; rfl, by rw [HZ.out]; exact hown2, hgr.after_alloc.after_alloc⟩
  | @op pl il pr ir k x hl hr hk ihl ihr =>
    intro pre suf B a n cap out O Z E R w hZ ht hB hn hBw hown hlen hE hR
    have HZ : Hid (Z = _) := hZ
    clear hZ
    have hnc := ht.2.1
    have hcm := ht.2.2.1
    have hln := ht.1
    unfold maxLen at hcm
    have hn48 := (prec_ne hk).1
    have m48 : (k == 48) = false := by simpa using hn48
    simp only [List.length_append, List.length_cons, List.length_nil] at hln hE hlen
    obtain ⟨b, off, rfl, hc⟩ := ht.2.2.2 (by omega)
    obtain ⟨p, hp⟩ : ∃ p, pre.length + pl.length + pr.length = p := ⟨_, rfl⟩
    obtain ⟨c1, c2⟩ := hc p (by omega)
    have el : pre ++ (pl ++ pr ++ [(k, x)]) ++ suf = (pre ++ pl ++ pr) ++ (k, x) :: suf := by simp
    have em := at_mid (pre ++ pl ++ pr) suf k x
    rw [List.length_append, List.length_append, hp] at em
    rw [el] at c1 c2
    rw [em.1] at c1
    rw [em.2] at c2
    have hEp : E = (p : Int) := by omega
    subst hEp
    have hpn : (p : Int) < (n : Int) := by omega
    have hp0 : (0 : Int) ≤ (p : Int) := by omega
    have hpd : decide ((p : Int) < 0) = false := decide_eq_false (by omega)
    obtain ⟨Md, hMd⟩ : ∃ Md : Int, Md = (pre.length : Int) + (pl.length : Int) - 1 := ⟨_, rfl⟩
    have HT : Hid (Toks w (some ⟨b, off, none⟩) n cap (pre ++ (pl ++ pr ++ [(k, x)]) ++ suf)) := ht
    have HBB : Hid (∀ x, some (⟨b, off, none⟩ : Addr) = some x → x.block < B) := hB
    have HLE : Hid (O.length + (il.length + ir.length + 3) ≤ 1000000) := by show _ ≤ _; omega
    have HMd : Hid (Md = (pre.length : Int) + (pl.length : Int) - 1) := hMd
    have HP : Hid (pre.length + pl.length + pr.length = p) := hp
    have HR : Hid (R = (pre.length : Int) - 1) := hR
    have hOl : O.length < 1000000 := by omega
    have one1 := OwnT.one1 w B k x hBw
    have hne : some w.heap.size ≠ out.ownBlock := fun e => by have := (hown.lt _ e.symm).2; omega
    have apt1 : Apt (.slice (some ⟨w.heap.size, 0, none⟩) 1 1) out := fun q h1 h2 => by
      have h3 : some w.heap.size = some q := h1
      cases h3; exact hne h2.symm
    clear hc ht em hp hln hR hE hMd hlen hB el hn48
    go_enter Ybtm.func30, Ybtm.ntmps30
    go_wp2_with (first
      | (at_builtin; refine app_tok _ rfl (.tmp 30) (.tmp 32) rfl B _ O rfl ((hown.alloc _).alloc _) _ 41 0 rfl (by simp) (by simp) (by omega) (by simp; omega) ?_; intro v2 w2 hown2 hold2 hgr2))
    have hG2 := hgr2.after_alloc.after_alloc
    have one2 := (one1.alloc _).keeps hgr2 apt1.or
    have apt2 := apt1.grow hgr2 (one1.alloc _)
    have hb2 := hG2.below hBw hown.base
    have hBw2 : B ≤ w2.heap.size := Nat.le_trans hBw hb2.size
    have ht2 := toks_belowB HT.out HBB.out hb2
    refine (ihr (pre ++ pl) ((k, x) :: suf) B _ n cap v2 (O ++ [(41, 0)]) _ ((p : Int) - 1) Md w2 rfl (by simpa using ht2) HBB.out hn hBw2 hown2 (by have := HLE.out; rw [List.length_append]; simp; omega) (by have := HP.out; rw [List.length_append]; omega) (by have := HMd.out; rw [List.length_append]; omega)).mono ?_
    rintro e w3 ⟨v3, rfl, hown3, hgr3⟩
    have one3 := one2.keeps hgr3 apt2.or
    have apt3 := apt2.grow hgr3 one2
    have hG3 := hG2.trans hgr3
    have hb3 := hG3.below hBw hown.base
    have hBw3 : B ≤ w3.heap.size := Nat.le_trans hBw hb3.size
    obtain ⟨t1, t2⟩ := one3.cells 0 (by simp)
    simp [Ex.kAt, Ex.vAt] at t1 t2
    have hl3 : (O ++ [(41, 0)] ++ ir.reverse).length < 2000000 := by have := HLE.out; simp; omega
    obtain ⟨Z3, hZ3⟩ : ∃ Z3, O ++ [(41, 0)] ++ ir.reverse = Z3 := ⟨_, rfl⟩
    rw [hZ3] at hown3 hl3
    have HZ3 : Hid (O ++ [(41, 0)] ++ ir.reverse = Z3) := hZ3
    clear hZ3 hgr2 hown2 hold2 one1 one2 apt1 apt2 ht2
    go_wp2_with (first
      | (at_builtin; refine app_tok _ rfl (.tmp 42) (.tmp 44) rfl B _ Z3 rfl (hown3.alloc _) _ k x rfl (by simp) (by simp) (by omega) (by simp; omega) ?_; intro v4 w4 hown4 hold4 hgr4))
    have hG4 := hG3.trans hgr4.after_alloc
    have hb4 := hG4.below hBw hown.base
    have hBw4 : B ≤ w4.heap.size := Nat.le_trans hBw hb4.size
    have ht4 := toks_belowB HT.out HBB.out hb4
    refine (ihl pre (pr ++ (k, x) :: suf) B _ n cap v4 (Z3 ++ [(k, x)]) _ Md R w4 rfl (by simpa using ht4) HBB.out hn hBw4 hown4 (by have := HLE.out; have := HZ3.out; rw [← this]; simp; omega) HMd.out HR.out).mono ?_
    rintro e w5 ⟨v5, rfl, hown5, hgr5⟩
    have hG5 := hG4.trans hgr5
    have hb5 := hG5.below hBw hown.base
    have hBw5 : B ≤ w5.heap.size := Nat.le_trans hBw hb5.size
    have hl5 : (Z3 ++ [(k, x)] ++ il.reverse).length < 4000000 := by have := HLE.out; simp; omega
    obtain ⟨Z5, hZ5⟩ : ∃ Z5, Z3 ++ [(k, x)] ++ il.reverse = Z5 := ⟨_, rfl⟩
    rw [hZ5] at hown5 hl5
    have HZ5 : Hid (Z = Z5 ++ [(40, 0)]) := by
      show _ = _
      rw [HZ.out, ← hZ5, ← HZ3.out]; simp
    clear hZ5 hown4 hold4 hgr4 ht4 hown3
    go_wp2_with (first
      | (at_builtin; refine app_tok _ rfl (.tmp 53) (.tmp 55) rfl B _ Z5 rfl (hown5.alloc _) _ 40 0 rfl (by simp) (by simp) (by omega) (by simp; omega) ?_; intro v6 w6 hown6 hold6 hgr6))
    go_ret2
    exact ⟨_, rfl, by rw [HZ5.out]; exact hown6, hG5.trans hgr6.after_alloc⟩

theorem at_rev (I : List Tk) (i j : Nat) (h : i < I.length) (hj : j = I.length - 1 - i) : Ex.kAt I.reverse j = Ex.kAt I i ∧ Ex.vAt I.reverse j = Ex.vAt I i := by
  subst hj
  have e : I.reverse[I.length - 1 - i]? = I[i]? := by
    rw [List.getElem?_reverse (by omega)]
    congr 1; omega
  simp [Ex.kAt, Ex.vAt, List.getD_eq_getElem?_getD, e]

set_option maxRecDepth 100000 in
set_option maxHeartbeats 8000000 in
theorem dexact_any (a : Option Addr) (n cap : Nat) (rs : List Tk) (w : World) (ht : Toks w a n cap rs) (hok : TokOk rs) :
    Calls Ybtm.prog 11 #[.slice a n cap] w fun e w' => e = .returned (.bool true) ∧ Below w.heap.size w w' := by
  have hnc := ht.2.1
  have hcm := ht.2.2.1
  unfold maxLen at hcm
  have HT : Hid (Toks w a n cap rs) := ht
  have HOK : Hid (TokOk rs) := hok
  have hln := ht.1
  clear ht hok
  by_cases hbig : 512 < n
  · go_enter Ybtm.func11, Ybtm.ntmps11
    go_wp2_with fail
    go_ret
    exact ⟨rfl, Below.refl _ _⟩
  have d0 : decide ((512 : Int) < (n : Int)) = false := decide_eq_false (by omega)
  obtain ⟨hvp, hdl⟩ := dB_ok rs
  rw [hln] at hdl
  have HVP : Hid (Ex.vpB (dB rs) = true) := hvp
  have HDL : Hid ((dB rs).length ≤ 2 * n + 1) := hdl
  clear hvp hdl hln
  go_enter Ybtm.func11, Ybtm.ntmps11
  go_wp2_with fail
  refine (dbuild_any a n cap rs w HT.out HOK.out (by omega)).mono ?_
  rintro e w1 ⟨v1, rfl, hown1, hb1⟩
  obtain ⟨L1, hL1⟩ : ∃ L1, (dB rs).length = L1 := ⟨_, rfl⟩
  have hL1b : L1 ≤ 2 * n + 1 := by have := HDL.out; omega
  obtain ⟨a1, c1, hv1⟩ : ∃ a c, v1 = .slice a L1 c := by
    obtain ⟨a, c, e, _⟩ := hown1.toks'
    exact ⟨a, c, by rw [e, hL1]⟩
  subst hv1
  have ht1 := hown1.toksAt
  have hc1 := ht1.2.1
  have hc2 := ht1.2.2.1
  unfold maxLen at hc2
  have HL1 : Hid ((dB rs).length = L1) := hL1
  clear hL1
  go_wp2_with fail
  refine (toinfix_any a1 L1 c1 (dB rs) w1 ht1 (by omega)).mono ?_
  rintro e w2 ⟨v2, b2, rfl, hb2, hr2⟩
  have hz : b2 = true ∧ ∃ I, PX (dB rs) I ∧ OwnT w2 w1.heap.size v2 I := by
    rcases hr2 with ⟨h1, _⟩ | ⟨_, h1, h2⟩
    · rw [HVP.out] at h1; cases h1
    · exact ⟨h1, h2⟩
  obtain ⟨rfl, I, hpx, hI⟩ := hz
  obtain ⟨L2, hL2⟩ : ∃ L2, I.length = L2 := ⟨_, rfl⟩
  obtain ⟨a2, c3, hv2⟩ : ∃ a c, v2 = .slice a L2 c := by
    obtain ⟨a, c, e, _⟩ := hI.toks'
    exact ⟨a, c, by rw [e, hL2]⟩
  subst hv2
  have hIl : L2 ≤ 3 * L1 := by have := hpx.len_le; rw [HL1.out, hL2] at this; exact this
  have ht2 := hI.toksAt
  have HL2 : Hid (I.length = L2) := hL2
  have HPX : Hid (PX (dB rs) I) := hpx
  have hL1p : 0 < L1 := by have := hpx.pos; rw [HL1.out] at this; exact this
  have hx2 := hb1.trans (hb2.mono hb1.size)
  have ht1' : Toks w2 a1 L1 c1 ([] ++ dB rs ++ []) := by simpa using ht1.below hb2
  have hblk : ∀ x, a1 = some x → x.block < w2.heap.size := fun x hx => by
    subst hx
    have hsp : x.spot = none := by
      obtain ⟨b, off, e, _⟩ := ht1.2.2.2 hL1p
      cases e; rfl
    have hcell := ht1.2.2.2 hL1p
    obtain ⟨b, off, e, hc⟩ := hcell
    cases e
    have h1 := World.block_lt_of_cell? w1 _ (hc 0 hL1p).1
    exact Nat.lt_of_lt_of_le h1 hb2.size
  clear hr2 hpx hL2 ht1
  go_wp2_with fail
  refine (dback_any HPX.out [] [] w2.heap.size a1 L1 c1 (.slice none 0 0) [] I.reverse ((L1 : Int) - 1) (-1) w2 (by simp) ht1' hblk (by omega) (Nat.le_refl _) (World.ownsRow_nil _ _ _ _) (by have := HL2.out; simp; omega) (by have := HL1.out; simp; omega) (by simp)).mono ?_
  rintro e w3 ⟨v3, rfl, hown3, hgr3⟩
  have hb3 : Below w2.heap.size w2 w3 := hgr3.below (Nat.le_refl _) (fun k hk => by cases hk)
  have hx3 := hx2.trans (hb3.mono hx2.size)
  obtain ⟨a3, c4, hv3⟩ : ∃ a c, v3 = .slice a L2 c := by
    obtain ⟨a, c, e, _⟩ := hown3.toks'
    exact ⟨a, c, by rw [e, List.length_reverse, HL2.out]⟩
  subst hv3
  have ht3 := hown3.toksAt
  have HG : Hid (Toks w3 a2 L2 c3 I) := ht2.below hb3
  have HK : Hid (Toks w3 a3 L2 c4 I.reverse) := ht3
  have g1 := ht2.2.1
  have g2 := ht2.2.2.1
  have g3 := ht3.2.1
  have g4 := ht3.2.2.1
  unfold maxLen at g2 g4
  have dL : ((L2 : Int) != (L2 : Int)) = false := by simp
  clear hown3 hgr3 hI ht2 ht3 ht1' hblk hown1
  go_wp2_with fail
  go_loopw [8, 9] (fun i _ wr => ∃ (k : Nat), k ≤ L2 ∧ i = .int .i64 k ∧ Below w3.heap.size w3 wr) (fun i _ _ => L2 - (intOf i).toNat)
  case atStart => exact ⟨0, by omega, rfl, Below.refl _ _⟩
  case round =>
    obtain ⟨k, hk, rfl, hb⟩ := hrel
    have hB := hb.size
    have hxk : Below w.heap.size w wr := hx3.trans (hb.mono hx3.size)
    by_cases hlt : k < L2
    · obtain ⟨b3, o3, rfl, hc3⟩ := (HK.out.below hb).2.2.2 (by omega)
      obtain ⟨m, hm⟩ : ∃ m : Nat, L2 - 1 - k = m := ⟨_, rfl⟩
      obtain ⟨y1, y2⟩ := hc3 m (by omega)
      obtain ⟨r1, r2⟩ := at_rev I k m (by have := HL2.out; omega) (by have := HL2.out; omega)
      rw [r1] at y1
      rw [r2] at y2
      have hb2' := hb.alloc hB (.cells #[.int .u8 (Ex.kAt I k), .int .i64 (Ex.vAt I k)] 30)
      obtain ⟨b2, o2, rfl, hc2'⟩ := (HG.out.below hb2').2.2.2 (by omega)
      obtain ⟨x1, x2⟩ := hc2' k hlt
      generalize Ex.kAt I k = K at x1 y1 x2 y2 hb2'
      generalize Ex.vAt I k = V at x1 y1 x2 y2 hb2'
      have hmi : (L2 : Int) - 1 - (k : Int) = (m : Int) := by omega
      have hm0 : (0 : Int) ≤ (m : Int) := by omega
      have hmL : (m : Int) < (L2 : Int) := by omega
      have hki : (k : Int) < (L2 : Int) := by omega
      have hk0 : (0 : Int) ≤ (k : Int) := by omega
      have dK : (K != K) = false := by simp
      have dV : (V != V) = false := by simp
      clear hc3 hc2' r1 r2 hm
      go_wp2_with fail
      go_quiet (fail)
      go_wp2_with fail
      go_roundw
      case rel => exact ⟨k + 1, by omega, by go_num, below_drewN hb2' _⟩
      case measure => simp [intOf]; omega
    · have hkd : decide ((k : Int) < (L2 : Int)) = false := decide_eq_false (by omega)
      go_wp2_with fail
      go_ret
      exact ⟨rfl, hxk⟩
end Go.Proofs.Ymbrbt
