import Derived.Test.YmbrbuIToksWalk
set_option linter.unusedVariables false
set_option linter.unusedSimpArgs false
set_option linter.unnecessarySimpa false
namespace Go.Proofs.Ymbrbu
open Go.RowKit

theorem drStop_unique {m : Int} {ps : List (Int × Int)} {i j : Nat} (h : DrStop m ps i) (h' : DrStop m ps j) : i = j := by
  obtain ⟨a1, a2, a3⟩ := h
  obtain ⟨b1, b2, b3⟩ := h'
  rcases Nat.lt_trichotomy i j with hlt | he | hgt
  · rcases b3 with b3 | b3
    · omega
    · have := a2 (j - 1) (by omega) (by omega); omega
  · exact he
  · rcases a3 with a3 | a3
    · omega
    · have := b2 (i - 1) (by omega) (by omega); omega
theorem rev_drop_at (A B : List (Int × Int)) (j q : Nat) (h : q < B.length - j) :
    Ex.kAt (A ++ (B.drop j).reverse) (A.length + q) = Ex.kAt B (B.length - 1 - q) ∧ Ex.vAt (A ++ (B.drop j).reverse) (A.length + q) = Ex.vAt B (B.length - 1 - q) := by
  have e : (A ++ (B.drop j).reverse)[A.length + q]? = B[B.length - 1 - q]? := by
    rw [List.getElem?_append_right (by omega), Nat.add_sub_cancel_left, List.getElem?_reverse (by simp; omega), List.getElem?_drop]
    congr 1
    simp; omega
  simp [Ex.kAt, Ex.vAt, List.getD_eq_getElem?_getD, e]

set_option maxRecDepth 100000 in
set_option maxHeartbeats 4000000 in
theorem iexact_any (a0 a1 : Option Addr) (n m cap0 cap1 : Nat) (r0 r1 : List (Int × Int)) (mn : Int) (raw : Bool) (w : World) (ht : Toks w a0 n cap0 r0) (hok : TokOk r0) (hu : Toks w a1 m cap1 r1) (hou : TokOk r1) (hmn : Ex.inI mn) :
    Calls Ybum.prog 13 #[.slice a0 n cap0, .slice a1 m cap1, .int .i64 mn, .bool raw] w fun e w' => e = .returned (.bool true) ∧ Below w.heap.size w w' := by
  have hn := ht.2.1
  have hm := hu.2.1
  have hc0 := ht.2.2.1
  have hc1 := hu.2.2.1
  unfold maxLen at hc0 hc1
  have T0 : Hid (Toks w a0 n cap0 r0) := ht
  have T1 : Hid (Toks w a1 m cap1 r1) := hu
  have O0 : Hid (TokOk r0) := hok
  have O1 : Hid (TokOk r1) := hou
  clear ht hu hok hou
  by_cases hb0 : 1024 < n
  · go_enter Ybum.func13, Ybum.ntmps13
    go_wp2_with fail
    go_ret
    exact ⟨rfl, Below.refl _ _⟩
  have d0 : decide ((1024 : Int) < (n : Int)) = false := by simp; omega
  by_cases hb1 : 1024 < m
  · go_enter Ybum.func13, Ybum.ntmps13
    go_wp2_with fail
    go_ret
    exact ⟨rfl, Below.refl _ _⟩
  have d1 : decide ((1024 : Int) < (m : Int)) = false := by simp; omega
  go_enter Ybum.func13, Ybum.ntmps13
  go_wp2_with fail
  refine (itoks_any raw a0 n cap0 r0 w T0.out O0.out (by omega)).mono ?_
  rintro e w1 ⟨rfl, ow1, be1, lt1⟩
  go_wp2_with fail
  refine (itoks_any raw a1 m cap1 r1 w1 (T1.out.below be1) O1.out (by omega)).mono ?_
  rintro e w2 ⟨rfl, ow2, be2, lt2⟩
  have bA2 : Below w.heap.size w w2 := be1.trans (be2.mono (Nat.le_of_lt lt1))
  go_wp2_with fail
  refine (itoks_any raw a0 n cap0 r0 w2 (T0.out.below bA2) O0.out (by omega)).mono ?_
  rintro e w3 ⟨rfl, ow3, be3, lt3⟩
  have bA3 : Below w.heap.size w w3 := bA2.trans (be3.mono (by omega))
  go_wp2_with fail
  refine (itoks_any raw a1 m cap1 r1 w3 (T1.out.below bA3) O1.out (by omega)).mono ?_
  rintro e w4 ⟨rfl, ow4, be4, lt4⟩
  have bA4 : Below w.heap.size w w4 := bA3.trans (be4.mono (by omega))
  obtain ⟨A, hA⟩ : ∃ A, imap raw r0 = A := ⟨_, rfl⟩
  obtain ⟨B, hB⟩ : ∃ B, imap raw r1 = B := ⟨_, rfl⟩
  rw [hA] at ow1 ow3
  rw [hB] at ow2 ow4
  clear hA hB T0 T1 O0 O1
  have own1 : OwnT w4 w.heap.size (.slice (some ⟨w.heap.size, 0, none⟩) n n) A := ((ow1.below be2).below be3).below be4
  have HB : Hid (Toks w4 (some ⟨w1.heap.size, 0, none⟩) m m B) := ((ow2.below be3).below be4).toksAt
  have HWA : Hid (Toks w4 (some ⟨w2.heap.size, 0, none⟩) n n A) := (ow3.below be4).toksAt
  have HWB : Hid (Toks w4 (some ⟨w3.heap.size, 0, none⟩) m m B) := ow4.toksAt
  have LA : Hid (A.length = n) := own1.toksAt.1
  have LB : Hid (B.length = m) := HB.out.1
  clear ow1 ow2 ow3 ow4 be1 be2 be3 be4 bA2 bA3
  go_wp2_with fail
  refine (imin_any mn raw w4 hmn).mono ?_
  rintro e w' ⟨⟨mi, rfl⟩, hw⟩
  subst hw
  clear hmn
  go_wp2_with fail
  refine (drain_any w.heap.size _ A _ _ _ B mi _ own1 HB.out (fun x hx => by cases hx; simp [Value.ownBlock]; omega) (by have := LA.out; omega) bA4.size).mono ?_
  rintro e w5 ⟨out', j, rfl, hst, ow5, hgr⟩
  have HST : Hid (DrStop mi B j) := hst
  have be5 : Below w.heap.size w w5 := below_app bA4 bA4.size own1.base hgr
  have HB5 : Hid (Toks w5 (some ⟨w1.heap.size, 0, none⟩) m m B) := HB.out.grew hgr (fun x hx => by cases hx; simp [Value.ownBlock]; omega)
  have HWA5 : Hid (Toks w5 (some ⟨w2.heap.size, 0, none⟩) n n A) := HWA.out.grew hgr (fun x hx => by cases hx; simp [Value.ownBlock]; omega)
  have HWB5 : Hid (Toks w5 (some ⟨w3.heap.size, 0, none⟩) m m B) := HWB.out.grew hgr (fun x hx => by cases hx; simp [Value.ownBlock]; omega)
  have hjm : j ≤ m := by have := LB.out; have := hst.1; omega
  obtain ⟨ao, co, rfl, hno, hTo⟩ := ow5.toks'
  obtain ⟨L, hlo⟩ : ∃ L, (A ++ (B.drop j).reverse).length = L := ⟨_, rfl⟩
  rw [hlo] at hTo ⊢
  have hL : L + j = n + m := by rw [← hlo]; have := LA.out; have := LB.out; simp; omega
  have hco := hTo.2.2.1
  have hnco := hTo.2.1
  unfold maxLen at hco
  have HTO : Hid (Toks w5 ao L co (A ++ (B.drop j).reverse)) := hTo
  clear hTo ow5 hgr hst hno HB HWA HWB own1 bA4 hlo
  go_wp2_with fail
  go_loopw [16, 17] (fun q i wr => ∃ (k p : Nat), k ≤ m ∧ p ≤ k ∧ i = .int .i64 k ∧ q = .int .i64 p ∧ Hid ((∀ i, p ≤ i → i < k → mi ≤ Ex.prec (Ex.kAt B i)) ∧ (p = 0 ∨ Ex.prec (Ex.kAt B (p - 1)) < mi)) ∧ w5 = wr) (fun _ i _ => m - (intOf i).toNat)
  case atStart => exact ⟨0, 0, by omega, by omega, rfl, rfl, ⟨fun i h1 h2 => by omega, .inl rfl⟩, rfl⟩
  case round =>
    obtain ⟨k, p, hk, hp, rfl, rfl, HQ, rfl⟩ := hrel
    by_cases hlt : k < m
    · obtain ⟨b, off, eb, hc⟩ := HWB5.out.2.2.2 (by omega)
      cases eb
      obtain ⟨c1, c2⟩ := hc k hlt
      rw [Nat.zero_add] at c1 c2
      clear hc
      have hki : (k : Int) < (m : Int) := by omega
      have hki0 : (0 : Int) ≤ (k : Int) := by omega
      go_wp2_with fail
      refine (iprec_any _ _).mono ?_
      rintro e w' ⟨rfl, hw⟩
      subst hw
      by_cases hlow : Ex.prec (Ex.kAt B k) < mi
      · have HN : Hid ((∀ i, k + 1 ≤ i → i < k + 1 → mi ≤ Ex.prec (Ex.kAt B i)) ∧ (k + 1 = 0 ∨ Ex.prec (Ex.kAt B (k + 1 - 1)) < mi)) := ⟨fun i h1 h2 => by omega, .inr hlow⟩
        have dl : decide (Ex.prec (Ex.kAt B k) < mi) = true := by simpa using hlow
        clear hlow
        go_wp2_with fail
        go_roundw
        case rel => exact ⟨k + 1, k + 1, by omega, by omega, by go_num, by go_num, HN, trivial⟩
        case measure => simp [intOf]; omega
      · have HN : Hid ((∀ i, p ≤ i → i < k + 1 → mi ≤ Ex.prec (Ex.kAt B i)) ∧ (p = 0 ∨ Ex.prec (Ex.kAt B (p - 1)) < mi)) := ⟨fun i h1 h2 => by
          by_cases h : i = k
          · subst h; omega
          · exact HQ.out.1 i h1 (by omega), HQ.out.2⟩
        have dl : decide (Ex.prec (Ex.kAt B k) < mi) = false := by simpa using hlow
        clear hlow
        go_wp2_with fail
        go_roundw
        case rel => exact ⟨k + 1, p, by omega, by omega, by go_num, rfl, HN, trivial⟩
        case measure => simp [intOf]; omega
    · have hkm : k = m := by omega
      have hpj : p = j := drStop_unique (m := mi) (ps := B) ⟨by have := LB.out; omega, fun i h1 h2 => HQ.out.1 i h1 (by have := LB.out; omega), HQ.out.2⟩ HST.out
      subst hpj
      have hkn : decide ((k : Int) < (m : Int)) = false := by simp; omega
      clear HQ HST
      have hLi : (n : Int) + (m : Int) - (p : Int) = (L : Int) := by omega
      go_wp2_with fail
      refine (ieq_any _ _ _ _ _ _ (B.take p) (B.take p) _ (HB5.out.take p (by omega)) (HWB5.out.take p (by omega))).mono ?_
      rintro e w6 ⟨rfl, hx6⟩
      have dt : decide (B.take p = B.take p) = true := by simp
      rw [dt]
      clear dt
      go_wp2_with fail
      refine (ieq_any _ _ _ _ _ _ B B _ (HB5.out.below hx6) (HWB5.out.below hx6)).mono ?_
      rintro e w7 ⟨rfl, hx7⟩
      have hx7 : Below w5.heap.size w5 w7 := hx6.trans (hx7.mono hx6.size)
      have dt : decide (B = B) = true := by simp
      rw [dt]
      clear dt hx6
      go_wp2_with fail
      refine (ieq_any _ _ _ _ _ _ A A _ (by have := (HTO.out.below hx7).take n (by omega); rwa [List.take_append_of_le_length (by have := LA.out; omega), List.take_of_length_le (by have := LA.out; omega)] at this) (HWA5.out.below hx7)).mono ?_
      rintro e w8 ⟨rfl, hx8⟩
      have hx8 : Below w5.heap.size w5 w8 := hx7.trans (hx8.mono hx7.size)
      have dt : decide (A = A) = true := by simp
      rw [dt]
      clear dt hx7
      have be8 : Below w.heap.size w w8 := be5.trans (hx8.mono be5.size)
      go_wp2_with fail
      go_loopw [19, 20] (fun i _ wx => ∃ (q : Nat), q ≤ m - p ∧ i = .int .i64 (n + q) ∧ Below w5.heap.size w5 wx ∧ Below w.heap.size w wx) (fun i _ _ => n + (m - p) - (intOf i).toNat)
      case atStart => exact ⟨0, by omega, by simp, hx8, be8⟩
      case round =>
        clear hx8 be8
        obtain ⟨q, hq, rfl, hbx, hbw⟩ := hrel
        by_cases hqm : q < m - p
        · obtain ⟨b1, o1, rfl, hc1⟩ := (HTO.out.below hbx).2.2.2 (by omega)
          obtain ⟨b2, o2, eb2, hc2⟩ := (HWB5.out.below hbx).2.2.2 (by omega)
          cases eb2
          obtain ⟨s1, s2⟩ := hc1 (n + q) (by omega)
          obtain ⟨s3, s4⟩ := hc2 (m - 1 - q) (by omega)
          obtain ⟨e1, e2⟩ := rev_drop_at A B p q (by have := LB.out; omega)
          rw [LA.out, LB.out] at e1 e2
          rw [e1] at s1
          rw [e2] at s2
          rw [Nat.zero_add] at s3 s4
          obtain ⟨i, hi⟩ : ∃ i : Nat, i = m - 1 - q := ⟨_, rfl⟩
          rw [← hi] at s1 s2 s3 s4
          obtain ⟨x, hx⟩ : ∃ x : Nat, x = n + q := ⟨_, rfl⟩
          rw [← hx] at s1 s2
          have HI : Hid (i = m - 1 - q) := hi
          have hx2 : (n : Int) + (q : Int) = (x : Int) := by omega
          rw [hx2]
          have hie : (m : Int) - 1 - ((x : Int) - (n : Int)) = (i : Int) := by omega
          have him : (i : Int) < (m : Int) := by omega
          have him0 : (0 : Int) ≤ (i : Int) := by omega
          have hqi : (x : Int) < (L : Int) := by omega
          have hqi0 : (0 : Int) ≤ (x : Int) := by omega
          have k1 : ∀ o, (wr.alloc o).cell? ⟨b1, o1 + x * 2, none⟩ = some (.int .u8 (Ex.kAt B i)) := fun o => by rw [World.cell?_alloc_old _ _ _ (Nat.ne_of_lt (World.block_lt_of_cell? _ _ s1))]; exact s1
          have k2 : ∀ o, (wr.alloc o).cell? ⟨b1, o1 + x * 2 + 1, none⟩ = some (.int .i64 (Ex.vAt B i)) := fun o => by rw [World.cell?_alloc_old _ _ _ (Nat.ne_of_lt (World.block_lt_of_cell? _ _ s2))]; exact s2
          have hl1 : (Ex.kAt B i != Ex.kAt B i) = false := by simp
          have hl2 : (Ex.vAt B i != Ex.vAt B i) = false := by simp
          have HX : Hid (x = n + q) := hx
          clear hc1 hc2 hi e1 e2 hx hx2 hie
          have hie : (m : Int) - 1 - ((x : Int) - (n : Int)) = (i : Int) := by have := HX.out; have := HI.out; omega
          go_wp2_with fail
          go_quiet (fail)
          go_wp2_with fail
          go_roundw
          case rel => exact ⟨q + 1, by omega, by have := HX.out; first | (subst this; go_num) | (rw [this]; go_num), below_drewN (hbx.alloc hbx.size _) _, below_drewN (hbw.alloc hbw.size _) _⟩
          case measure => have := HX.out; simp [intOf]; omega
        · have hqn : decide ((n : Int) + (q : Int) < (L : Int)) = false := decide_eq_false (by omega)
          go_wp2_with fail
          go_ret
          exact ⟨rfl, hbw⟩
end Go.Proofs.Ymbrbu
