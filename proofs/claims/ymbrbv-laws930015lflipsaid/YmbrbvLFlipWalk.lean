import Derived.Test.YmbrbvLJoinWalk
set_option linter.unusedVariables false
set_option linter.unusedSimpArgs false
set_option linter.unnecessarySimpa false
namespace Go.Proofs.Ymbrbv
open Go.RowKit

theorem below_grownBy {B : Nat} {w w1 w2 : World} {g : Nat} (hb : Below B w w1) (h : w1.grownBy w2 (some g)) (hB : B ≤ w1.heap.size) (hg : B ≤ g) : Below B w w2 :=
  hb.grown h hB (fun k hk => by cases hk; exact hg)

set_option maxHeartbeats 2000000 in
theorem lflip_any (a0 : Option Addr) (n0 cap0 : Nat) (z0 : List Int) (pos bad : Int) (w : World) (ht0 : Ints .u8 w a0 n0 cap0 z0) (hz0 : ∀ x ∈ z0, 0 ≤ x ∧ x ≤ 255)
    (hp0 : 0 ≤ pos) (hp1 : pos ≤ 18446744073709551615) :
    Calls Ybvm.prog 11 #[.slice a0 n0 cap0, .int .u64 pos, .int .u8 bad] w fun e w' => e = .returned (.bool true) ∧ Below w.heap.size w w' := by
  have hcm0 := ht0.2.2.1
  have hnc0 := ht0.2.1
  unfold maxLen at hcm0
  by_cases hbig0 : 1024 < n0
  · clear ht0 hz0
    go_enter Ybvm.func11, Ybvm.ntmps11
    go_wp2_with fail
    go_ret
    exact ⟨rfl, Below.refl _ _⟩
  have d0 : decide ((1024 : Int) < (n0 : Int)) = false := by simp; omega
  have T0 : Hid (Ints .u8 w a0 n0 cap0 z0) := ht0
  have Z0 : Hid (∀ x ∈ z0, 0 ≤ x ∧ x ≤ 255) := hz0
  clear ht0 hz0
  go_enter Ybvm.func11, Ybvm.ntmps11
  go_wp2_with fail
  refine (lbuild_any _ _ _ z0 _ T0.out Z0.out (by omega)).mono ?_
  rintro e w1 ⟨v1, ts, rfl, hown1, hv1, hl1, hpos1, hb1⟩
  obtain ⟨g, cap, rfl, hcl, hcm, hcell⟩ := hown1.at hpos1
  unfold maxLen at hcm
  have hT1 : Hid (Toks w1 (some ⟨g, 0, none⟩) ts.length cap ts) := by obtain ⟨a', c', e, h⟩ := hown1.toks; cases e; exact h
  have HC : Hid (∀ i, i < ts.length → w1.cell? ⟨g, i * 2, none⟩ = some (.int .u8 (Ex.kAt ts i)) ∧ w1.cell? ⟨g, i * 2 + 1, none⟩ = some (.int .i64 (Ex.vAt ts i))) := hcell
  have V1 : Hid (Ex.vrun 0 ts = some 1) := hv1
  have hgB : w.heap.size ≤ g := (hown1.lt g rfl).1
  clear hcell hv1 T0 Z0
  go_wp2_with fail
  refine (vp_true _ _ _ ts _ hT1.out (Ex.vpB_iff.2 V1.out)).mono ?_
  rintro e w2 ⟨rfl, hx2⟩
  have hown2 := hown1.below hx2
  have hb2 : Below w.heap.size w w2 := hb1.trans (hx2.mono hb1.size)
  obtain ⟨p, hp⟩ : ∃ p : Nat, (p : Int) = pos % (ts.length : Int) := ⟨(pos % (ts.length : Int)).toNat, by have := Int.emod_nonneg pos (show (ts.length : Int) ≠ 0 by omega); omega⟩
  have hpl : p < ts.length := by have := Int.emod_lt_of_pos pos (show (0 : Int) < (ts.length : Int) by omega); omega
  have hpe : pos % (ts.length : Int) = (p : Int) := hp.symm
  have c1 : w2.cell? ⟨g, p * 2, none⟩ = some (.int .u8 (Ex.kAt ts p)) := (hx2.cell (World.block_lt_of_cell? w1 _ (HC.out p hpl).1)).trans (HC.out p hpl).1
  have f1 := hown2.frozen (p * 2)
  clear hp hx2 hown1 hb1 hT1 HC
  by_cases h48 : Ex.kAt ts p = 48
  · have hk : (Ex.kAt ts p == 48) = true := by simpa using h48
    have HB : Hid (Ex.vpB (ts.set p (43, Ex.vAt ts p)) = false) := Ex.vpB_of_not (Ex.flip_bad V1.out p hpl 43 _ (.inl ⟨h48, by omega⟩))
    obtain ⟨hown3, hg3⟩ := hown2.setKind p hpl 43
    have hb3 : Below w.heap.size w (w2.setCell ⟨g, p * 2, none⟩ (.int .u8 43)) := below_grownBy hb2 hg3 hb2.size hgB
    clear h48
    go_wp2_with fail
    obtain ⟨us, hus⟩ : ∃ us, us = ts.set p (43, Ex.vAt ts p) := ⟨_, rfl⟩
    have hul : us.length = ts.length := by rw [hus]; simp
    rw [← hus] at hown3 HB
    have hT3 : Hid (Toks (w2.setCell ⟨g, p * 2, none⟩ (.int .u8 43)) (some ⟨g, 0, none⟩) us.length cap us) := by obtain ⟨a', c', e, h⟩ := OwnT.toks hown3; rw [hul] at e h ⊢; cases e; exact h
    generalize w2.setCell ⟨g, p * 2, none⟩ (.int .u8 43) = w3 at hown3 hT3 hb3 ⊢
    rw [← hul] at hown3 hcl hpl ⊢
    clear hown2 hb2 hg3 hus c1 f1 hul hl1 hpe
    refine (vp_false _ _ _ us _ hT3.out HB.out).mono ?_
    rintro e w4 ⟨rfl, hx4⟩
    have hown4 := OwnT.below hown3 hx4
    have hb4 : Below w.heap.size w w4 := hb3.trans (hx4.mono hb3.size)
    have c4 : w4.cell? ⟨g, p * 2, none⟩ = some (.int .u8 (Ex.kAt us p)) := by
      obtain ⟨g', cap', e, _, _, hc⟩ := OwnT.at hown4 (by omega)
      cases e
      exact (hc p hpl).1
    clear hx4 hown3 hb3 hT3
    by_cases hb48 : bad = 48
    · subst hb48
      have HB2 : Hid (Ex.vpB (us.set p (40, Ex.vAt us p)) = false) := Ex.vpB_of_not (Ex.put_bad p (by omega) 40 _ (by first | omega | assumption) (by first | (simp [Ex.prec]; done) | assumption))
      obtain ⟨hown5, hg5⟩ := hown4.setKind p (by omega) 40
      have hb5 : Below w.heap.size w (w4.setCell ⟨g, p * 2, none⟩ (.int .u8 40)) := below_grownBy hb4 hg5 hb4.size hgB
      have f4 := hown4.frozen (p * 2)
      have hT5 : Hid (Toks (w4.setCell ⟨g, p * 2, none⟩ (.int .u8 40)) (some ⟨g, 0, none⟩) us.length cap (us.set p (40, Ex.vAt us p))) := by obtain ⟨a', c', e, h⟩ := OwnT.toks (v := .slice (some ⟨g, 0, none⟩) us.length cap) hown5; rw [List.length_set] at e h; cases e; exact h
      clear hown4 hown5 hg5
      go_wp2_with fail
      refine (vp_false _ _ _ _ _ hT5.out HB2.out).mono ?_
      rintro e w6 ⟨rfl, hx6⟩
      go_wp2_with fail
      go_ret
      exact ⟨rfl, hb5.trans (hx6.mono hb5.size)⟩
    · have hb48' : (bad == 48) = false := by simpa using hb48
      cases ho : Ex.opB bad with
      | true =>
        have HB2 : Hid (Ex.vpB (us.set p (40, Ex.vAt us p)) = false) := Ex.vpB_of_not (Ex.put_bad p (by omega) 40 _ (by first | omega | assumption) (by first | (simp [Ex.prec]; done) | assumption))
        obtain ⟨hown5, hg5⟩ := hown4.setKind p (by omega) 40
        have hb5 : Below w.heap.size w (w4.setCell ⟨g, p * 2, none⟩ (.int .u8 40)) := below_grownBy hb4 hg5 hb4.size hgB
        have f4 := hown4.frozen (p * 2)
        have hT5 : Hid (Toks (w4.setCell ⟨g, p * 2, none⟩ (.int .u8 40)) (some ⟨g, 0, none⟩) us.length cap (us.set p (40, Ex.vAt us p))) := by obtain ⟨a', c', e, h⟩ := OwnT.toks (v := .slice (some ⟨g, 0, none⟩) us.length cap) hown5; rw [List.length_set] at e h; cases e; exact h
        clear hown4 hown5 hg5
        go_wp2_with fail
        refine (lisop_any _ _).mono ?_
        rw [ho]
        rintro e w5 ⟨rfl, rfl⟩
        go_wp2_with fail
        refine (vp_false _ _ _ _ _ hT5.out HB2.out).mono ?_
        rintro e w6 ⟨rfl, hx6⟩
        go_wp2_with fail
        go_ret
        exact ⟨rfl, hb5.trans (hx6.mono hb5.size)⟩
      | false =>
        have hnp : ¬ 0 < Ex.prec bad := fun h => by rw [Ex.opB_iff.2 h] at ho; cases ho
        have HB2 : Hid (Ex.vpB (us.set p (bad, Ex.vAt us p)) = false) := Ex.vpB_of_not (Ex.put_bad p (by omega) bad _ (by first | omega | assumption) (by first | (simp [Ex.prec]; done) | assumption))
        obtain ⟨hown5, hg5⟩ := hown4.setKind p (by omega) bad
        have hb5 : Below w.heap.size w (w4.setCell ⟨g, p * 2, none⟩ (.int .u8 bad)) := below_grownBy hb4 hg5 hb4.size hgB
        have f4 := hown4.frozen (p * 2)
        have hT5 : Hid (Toks (w4.setCell ⟨g, p * 2, none⟩ (.int .u8 bad)) (some ⟨g, 0, none⟩) us.length cap (us.set p (bad, Ex.vAt us p))) := by obtain ⟨a', c', e, h⟩ := OwnT.toks (v := .slice (some ⟨g, 0, none⟩) us.length cap) hown5; rw [List.length_set] at e h; cases e; exact h
        clear hown4 hown5 hg5
        clear hnp
        go_wp2_with fail
        refine (lisop_any _ _).mono ?_
        rw [ho]
        rintro e w5 ⟨rfl, rfl⟩
        go_wp2_with fail
        refine (vp_false _ _ _ _ _ hT5.out HB2.out).mono ?_
        rintro e w6 ⟨rfl, hx6⟩
        go_wp2_with fail
        go_ret
        exact ⟨rfl, hb5.trans (hx6.mono hb5.size)⟩
  · have hk : (Ex.kAt ts p == 48) = false := by simpa using h48
    have HB : Hid (Ex.vpB (ts.set p (48, Ex.vAt ts p)) = false) := Ex.vpB_of_not (Ex.flip_bad V1.out p hpl 48 _ (.inr ⟨h48, rfl⟩))
    obtain ⟨hown3, hg3⟩ := hown2.setKind p hpl 48
    have hb3 : Below w.heap.size w (w2.setCell ⟨g, p * 2, none⟩ (.int .u8 48)) := below_grownBy hb2 hg3 hb2.size hgB
    clear h48
    go_wp2_with fail
    obtain ⟨us, hus⟩ : ∃ us, us = ts.set p (48, Ex.vAt ts p) := ⟨_, rfl⟩
    have hul : us.length = ts.length := by rw [hus]; simp
    rw [← hus] at hown3 HB
    have hT3 : Hid (Toks (w2.setCell ⟨g, p * 2, none⟩ (.int .u8 48)) (some ⟨g, 0, none⟩) us.length cap us) := by obtain ⟨a', c', e, h⟩ := OwnT.toks hown3; rw [hul] at e h ⊢; cases e; exact h
    generalize w2.setCell ⟨g, p * 2, none⟩ (.int .u8 48) = w3 at hown3 hT3 hb3 ⊢
    rw [← hul] at hown3 hcl hpl ⊢
    clear hown2 hb2 hg3 hus c1 f1 hul hl1 hpe
    refine (vp_false _ _ _ us _ hT3.out HB.out).mono ?_
    rintro e w4 ⟨rfl, hx4⟩
    have hown4 := OwnT.below hown3 hx4
    have hb4 : Below w.heap.size w w4 := hb3.trans (hx4.mono hb3.size)
    have c4 : w4.cell? ⟨g, p * 2, none⟩ = some (.int .u8 (Ex.kAt us p)) := by
      obtain ⟨g', cap', e, _, _, hc⟩ := OwnT.at hown4 (by omega)
      cases e
      exact (hc p hpl).1
    clear hx4 hown3 hb3 hT3
    by_cases hb48 : bad = 48
    · subst hb48
      have HB2 : Hid (Ex.vpB (us.set p (40, Ex.vAt us p)) = false) := Ex.vpB_of_not (Ex.put_bad p (by omega) 40 _ (by first | omega | assumption) (by first | (simp [Ex.prec]; done) | assumption))
      obtain ⟨hown5, hg5⟩ := hown4.setKind p (by omega) 40
      have hb5 : Below w.heap.size w (w4.setCell ⟨g, p * 2, none⟩ (.int .u8 40)) := below_grownBy hb4 hg5 hb4.size hgB
      have f4 := hown4.frozen (p * 2)
      have hT5 : Hid (Toks (w4.setCell ⟨g, p * 2, none⟩ (.int .u8 40)) (some ⟨g, 0, none⟩) us.length cap (us.set p (40, Ex.vAt us p))) := by obtain ⟨a', c', e, h⟩ := OwnT.toks (v := .slice (some ⟨g, 0, none⟩) us.length cap) hown5; rw [List.length_set] at e h; cases e; exact h
      clear hown4 hown5 hg5
      go_wp2_with fail
      refine (vp_false _ _ _ _ _ hT5.out HB2.out).mono ?_
      rintro e w6 ⟨rfl, hx6⟩
      go_wp2_with fail
      go_ret
      exact ⟨rfl, hb5.trans (hx6.mono hb5.size)⟩
    · have hb48' : (bad == 48) = false := by simpa using hb48
      cases ho : Ex.opB bad with
      | true =>
        have HB2 : Hid (Ex.vpB (us.set p (40, Ex.vAt us p)) = false) := Ex.vpB_of_not (Ex.put_bad p (by omega) 40 _ (by first | omega | assumption) (by first | (simp [Ex.prec]; done) | assumption))
        obtain ⟨hown5, hg5⟩ := hown4.setKind p (by omega) 40
        have hb5 : Below w.heap.size w (w4.setCell ⟨g, p * 2, none⟩ (.int .u8 40)) := below_grownBy hb4 hg5 hb4.size hgB
        have f4 := hown4.frozen (p * 2)
        have hT5 : Hid (Toks (w4.setCell ⟨g, p * 2, none⟩ (.int .u8 40)) (some ⟨g, 0, none⟩) us.length cap (us.set p (40, Ex.vAt us p))) := by obtain ⟨a', c', e, h⟩ := OwnT.toks (v := .slice (some ⟨g, 0, none⟩) us.length cap) hown5; rw [List.length_set] at e h; cases e; exact h
        clear hown4 hown5 hg5
        go_wp2_with fail
        refine (lisop_any _ _).mono ?_
        rw [ho]
        rintro e w5 ⟨rfl, rfl⟩
        go_wp2_with fail
        refine (vp_false _ _ _ _ _ hT5.out HB2.out).mono ?_
        rintro e w6 ⟨rfl, hx6⟩
        go_wp2_with fail
        go_ret
        exact ⟨rfl, hb5.trans (hx6.mono hb5.size)⟩
      | false =>
        have hnp : ¬ 0 < Ex.prec bad := fun h => by rw [Ex.opB_iff.2 h] at ho; cases ho
        have HB2 : Hid (Ex.vpB (us.set p (bad, Ex.vAt us p)) = false) := Ex.vpB_of_not (Ex.put_bad p (by omega) bad _ (by first | omega | assumption) (by first | (simp [Ex.prec]; done) | assumption))
        obtain ⟨hown5, hg5⟩ := hown4.setKind p (by omega) bad
        have hb5 : Below w.heap.size w (w4.setCell ⟨g, p * 2, none⟩ (.int .u8 bad)) := below_grownBy hb4 hg5 hb4.size hgB
        have f4 := hown4.frozen (p * 2)
        have hT5 : Hid (Toks (w4.setCell ⟨g, p * 2, none⟩ (.int .u8 bad)) (some ⟨g, 0, none⟩) us.length cap (us.set p (bad, Ex.vAt us p))) := by obtain ⟨a', c', e, h⟩ := OwnT.toks (v := .slice (some ⟨g, 0, none⟩) us.length cap) hown5; rw [List.length_set] at e h; cases e; exact h
        clear hown4 hown5 hg5
        clear hnp
        go_wp2_with fail
        refine (lisop_any _ _).mono ?_
        rw [ho]
        rintro e w5 ⟨rfl, rfl⟩
        go_wp2_with fail
        refine (vp_false _ _ _ _ _ hT5.out HB2.out).mono ?_
        rintro e w6 ⟨rfl, hx6⟩
        go_wp2_with fail
        go_ret
        exact ⟨rfl, hb5.trans (hx6.mono hb5.size)⟩
end Go.Proofs.Ymbrbv
