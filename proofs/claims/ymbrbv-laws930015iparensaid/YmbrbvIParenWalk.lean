import Derived.Test.YmbrbvLBuildWalk
import Derived.Test.YmbrbvDrainWalk
import Derived.Test.YmbrbvIeqWalk
set_option linter.unusedVariables false
set_option linter.unusedSimpArgs false
set_option linter.unnecessarySimpa false
namespace Go.Proofs.Ymbrbv
open Go.RowKit

/-- the operators above the parenthesis, the first j of them -/
def abv (zs : List Int) (j : Nat) : List (Int × Int) := (List.range j).map fun i => (l4 (Ex.iAt zs i), (i : Int))
theorem abv_succ (zs : List Int) (j : Nat) : abv zs (j + 1) = abv zs j ++ [(l4 (Ex.iAt zs j), (j : Int))] := by simp [abv, List.range_succ]
theorem abv_len (zs : List Int) (j : Nat) : (abv zs j).length = j := by simp [abv]

theorem abv_at (zs : List Int) (j i : Nat) (h : i < j) : Ex.kAt (abv zs j) i = l4 (Ex.iAt zs i) ∧ Ex.vAt (abv zs j) i = (i : Int) := by
  have := Ex.at_eq (abv zs j) i (by rw [abv_len]; exact h)
  simp [abv] at this
  exact ⟨by rw [← this.1]; rfl, by rw [← this.2]; rfl⟩
theorem abv_rev (zs : List Int) (m i : Nat) (h : i < m) : Ex.kAt (abv zs m).reverse i = l4 (Ex.iAt zs (m - 1 - i)) ∧ Ex.vAt (abv zs m).reverse i = ((m - 1 - i : Nat) : Int) := by
  have hl : (abv zs m).length = m := abv_len zs m
  have := Ex.at_eq (abv zs m).reverse i (by simp [hl]; exact h)
  rw [List.getElem_reverse] at this
  rw [← Ex.at_eq (abv zs m) _ (by omega)] at this
  obtain ⟨e1, e2⟩ := abv_at zs m ((abv zs m).length - 1 - i) (by omega)
  rw [hl] at e1 e2 this
  simp at this
  exact ⟨this.1.trans e1, this.2.trans e2⟩
theorem kAt_app (A B : List (Int × Int)) (i : Nat) (h : i < A.length) : Ex.kAt (A ++ B) i = Ex.kAt A i ∧ Ex.vAt (A ++ B) i = Ex.vAt A i := by
  simp [Ex.kAt, Ex.vAt, List.getD_eq_getElem?_getD, List.getElem?_append_left h]
theorem kAt_app' (A B : List (Int × Int)) (i : Nat) : Ex.kAt (A ++ B) (A.length + i) = Ex.kAt B i ∧ Ex.vAt (A ++ B) (A.length + i) = Ex.vAt B i := by
  simp [Ex.kAt, Ex.vAt, List.getD_eq_getElem?_getD, List.getElem?_append_right]
theorem pre_len (ts : List (Int × Int)) (zs : List Int) (j : Nat) : (ts ++ [(40, 7)] ++ abv zs j).length = ts.length + 1 + j := by simp [abv_len]; omega
/-- drain stops just above the parenthesis -/
theorem paren_stop {ts : List (Int × Int)} {zs : List Int} {m j : Nat} (h : DrStop 1 (ts ++ [(40, 7)] ++ abv zs m) j) : j = ts.length + 1 := by
  obtain ⟨h1, h2, h3⟩ := h
  have hl : (abv zs m).length = m := abv_len zs m
  simp [hl] at h1
  have e40 : Ex.kAt (ts ++ [(40, 7)] ++ abv zs m) ts.length = 40 := by
    rw [(kAt_app (ts ++ [(40, 7)]) (abv zs m) ts.length (by simp)).1]
    have := (kAt_app' ts [(40, 7)] 0).1
    simpa [Ex.kAt] using this
  have eabv : ∀ i, i < m → 0 < Ex.prec (Ex.kAt (ts ++ [(40, 7)] ++ abv zs m) (ts.length + 1 + i)) := fun i hi => by
    have := (kAt_app' (ts ++ [(40, 7)]) (abv zs m) i).1
    rw [List.length_append, List.length_singleton] at this
    rw [this, (abv_at zs m i hi).1]
    exact l4_prec _
  by_cases hlt : j ≤ ts.length
  · have := h2 ts.length hlt (by simp)
    rw [e40] at this
    simp [Ex.prec] at this
  · by_cases hgt : ts.length + 1 < j
    · rcases h3 with h3 | h3
      · omega
      · have := eabv (j - 1 - (ts.length + 1)) (by omega)
        rw [show ts.length + 1 + (j - 1 - (ts.length + 1)) = j - 1 by omega] at this
        omega
    · omega

set_option maxRecDepth 100000 in
set_option maxHeartbeats 4000000 in
theorem iparen_any (a0 a1 : Option Addr) (n m cap0 cap1 : Nat) (ts : List (Int × Int)) (zs : List Int) (w : World) (ht : Toks w a0 n cap0 ts) (hz : Ints .u8 w a1 m cap1 zs) (hzb : ∀ x ∈ zs, 0 ≤ x ∧ x ≤ 255) :
    Calls Ybvm.prog 3 #[.slice a0 n cap0, .slice a1 m cap1] w fun e w' => e = .returned (.bool true) ∧ Below w.heap.size w w' := by
  have hn := ht.2.1
  have hm := hz.2.1
  have hc0 := ht.2.2.1
  have hc1 := hz.2.2.1
  unfold maxLen at hc0 hc1
  have T0 : Hid (Toks w a0 n cap0 ts) := ht
  have Z0 : Hid (Ints .u8 w a1 m cap1 zs) := hz
  have ZB : Hid (∀ x ∈ zs, 0 ≤ x ∧ x ≤ 255) := hzb
  clear ht hz hzb
  by_cases hb0 : 1024 < n
  · go_enter Ybvm.func3, Ybvm.ntmps3
    go_wp2_with fail
    go_ret
    exact ⟨rfl, Below.refl _ _⟩
  have d0 : decide ((1024 : Int) < (n : Int)) = false := by simp; omega
  by_cases hb1 : 1024 < m
  · go_enter Ybvm.func3, Ybvm.ntmps3
    go_wp2_with fail
    go_ret
    exact ⟨rfl, Below.refl _ _⟩
  have d1 : decide ((1024 : Int) < (m : Int)) = false := by simp; omega
  go_enter Ybvm.func3, Ybvm.ntmps3
  go_wp2_with (first | (at_make; refine make_tokN _ rfl _ _ rfl w.heap.size _ _ _ _ (n + 1 + m) rfl rfl (by omega) (by omega) (by omega) (by omega) ?_; intro w1 hown1 hbl1 hlt1))
  go_loopw [7] (fun i wr => ∃ (k : Nat), k ≤ n ∧ i = .int .i64 k ∧ OwnT wr w.heap.size (.slice (some ⟨w.heap.size, 0, none⟩) (n + 1 + m) (n + 1 + m)) (ts.take k ++ List.replicate (n + 1 + m - k) (0, 0)) ∧ Below w.heap.size w wr) (fun i _ => n - (intOf i).toNat)
  case atStart => exact ⟨0, by omega, rfl, by simpa using hown1, hbl1⟩
  case round =>
    obtain ⟨k, hk, rfl, hown, hb⟩ := hrel
    clear hown1 hbl1 hlt1
    have hB := hb.size
    have hg : w.heap.size < wr.heap.size := (hown.lt _ rfl).2
    by_cases hlt : k < n
    · obtain ⟨b, off, rfl, hc⟩ := (T0.out.below hb).2.2.2 (by omega)
      obtain ⟨c1, c2⟩ := hc k hlt
      have htl := T0.out.1
      have hlen : (ts.take k ++ List.replicate (n + 1 + m - k) ((0, 0) : Int × Int)).length = n + 1 + m := by simp; omega
      obtain ⟨hown2, hgb2⟩ := OwnT.setTok hown hlen.symm k (by omega) (Ex.kAt ts k) (Ex.vAt ts k)
      have f1 := hown.frozenAt (k * 2)
      have f2 := hown.frozenAt (k * 2 + 1)
      obtain ⟨c3, c4⟩ := hown.cells k (by omega)
      have hki : (k : Int) < (n : Int) := by omega
      have hki2 : (k : Int) < ((n + 1 + m : Nat) : Int) := by omega
      have hki0 : (0 : Int) ≤ (k : Int) := by omega
      have HS : Hid ((ts.take k ++ List.replicate (n + 1 + m - k) ((0, 0) : Int × Int)).set k (Ex.kAt ts k, Ex.vAt ts k) = ts.take (k + 1) ++ List.replicate (n + 1 + m - (k + 1)) (0, 0)) := by
        show _ = _
        have e1 : (ts.take k).length = k := by rw [List.length_take]; omega
        have e2 : n + 1 + m - k = (n + 1 + m - (k + 1)) + 1 := by omega
        have := set_mid (ts.take k) ((0, 0) : Int × Int) (Ex.kAt ts k, Ex.vAt ts k) (n + 1 + m - (k + 1))
        rw [e1] at this
        rw [e2, this, Ex.take_at ts k (by omega)]
      clear hc hlen htl
      go_wp2_with fail
      go_region
      go_wp2_with fail
      go_roundw
      case rel => exact ⟨k + 1, by omega, by go_num, by rw [← HS.out]; exact hown2, (below_setTok hb hgb2 hB (Nat.le_refl _)).drew⟩
      case measure => simp [intOf]; omega
    · have htl := T0.out.1
      have hlen : (ts.take k ++ List.replicate (n + 1 + m - k) ((0, 0) : Int × Int)).length = n + 1 + m := by simp; omega
      have eS : (ts.take k ++ List.replicate (n + 1 + m - k) ((0, 0) : Int × Int)).set n (40, 7) = ts ++ [(40, 7)] ++ List.replicate m (0, 0) := by
        have e0 : k = n := by omega
        have := set_mid ts ((0, 0) : Int × Int) (40, 7) m
        rw [htl] at this
        rw [e0, List.take_of_length_le (by omega), show n + 1 + m - n = m + 1 by omega, this]
      obtain ⟨hown2, hgb2⟩ := OwnT.setTok hown hlen.symm n (by omega) 40 7
      rw [eS] at hown2
      have hb2 := below_setTok hb hgb2 hB (Nat.le_refl _)
      have f1 := hown.frozenAt (n * 2)
      have f2 := hown.frozenAt (n * 2 + 1)
      obtain ⟨c3, c4⟩ := hown.cells n (by omega)
      have hkn : decide ((k : Int) < (n : Int)) = false := by simp; omega
      clear hlen htl eS
      go_wp2_with fail
      generalize (wr.setCell ⟨w.heap.size, n * 2, none⟩ (.int .u8 40)).setCell ⟨w.heap.size, n * 2 + 1, none⟩ (.int .i64 7) = w2 at hown2 hb2 ⊢
      clear hown hb hgb2 f1 f2 c3 c4 hB hg
      go_loopw [8] (fun i wx => ∃ (j : Nat), j ≤ m ∧ i = .int .i64 j ∧ OwnT wx w.heap.size (.slice (some ⟨w.heap.size, 0, none⟩) (n + 1 + m) (n + 1 + m)) (ts ++ [(40, 7)] ++ abv zs j ++ List.replicate (m - j) (0, 0)) ∧ Below w.heap.size w wx) (fun i _ => m - (intOf i).toNat)
      case atStart => exact ⟨0, by omega, rfl, by simpa [abv] using hown2, hb2⟩
      case round =>
        clear hown2 hb2
        obtain ⟨j, hj, rfl, hown, hb⟩ := hrel
        have hB := hb.size
        have htl := T0.out.1
        have hal := abv_len zs j
        have hlen : (ts ++ [(40, 7)] ++ abv zs j ++ List.replicate (m - j) ((0, 0) : Int × Int)).length = n + 1 + m := by simp [hal, htl]; omega
        by_cases hlt : j < m
        · obtain ⟨b, off, rfl, hc⟩ := (Z0.out.below hb).2.2.2 (by omega)
          have c1 := hc j hlt
          have hzl := Z0.out.1
          obtain ⟨o1, o2⟩ := ZB.out _ (Ex.iAt_mem zs j (by omega))
          have hix := l4_index (Ex.iAt zs j)
          obtain ⟨hown2, hgb2⟩ := OwnT.setTok hown hlen.symm (n + 1 + j) (by omega) (l4 (Ex.iAt zs j)) (j : Int)
          have f1 := hown.frozenAt ((n + 1 + j) * 2)
          have f2 := hown.frozenAt ((n + 1 + j) * 2 + 1)
          obtain ⟨c3, c4⟩ := hown.cells (n + 1 + j) (by omega)
          have HS : Hid ((ts ++ [(40, 7)] ++ abv zs j ++ List.replicate (m - j) ((0, 0) : Int × Int)).set (n + 1 + j) (l4 (Ex.iAt zs j), (j : Int)) = ts ++ [(40, 7)] ++ abv zs (j + 1) ++ List.replicate (m - (j + 1)) (0, 0)) := by
            show _ = _
            have e2 : m - j = (m - (j + 1)) + 1 := by omega
            have := set_mid (ts ++ [(40, 7)] ++ abv zs j) ((0, 0) : Int × Int) (l4 (Ex.iAt zs j), (j : Int)) (m - (j + 1))
            rw [pre_len, htl] at this
            rw [e2, this, abv_succ]
            simp
          clear hc hlen htl hal hzl
          go_wp2_with fail
          go_roundw
          case rel => exact ⟨j + 1, by omega, by go_num, by rw [← HS.out]; exact hown2, below_setTok hb hgb2 hB (Nat.le_refl _)⟩
          case measure => simp [intOf]; omega
        · have hjm : j = m := by omega
          rw [hjm, Nat.sub_self, List.replicate_zero, List.append_nil] at hown
          have hjn : decide ((j : Int) < (m : Int)) = false := by simp; omega
          have hne : ∀ x : Addr, (some ⟨w.heap.size, 0, none⟩ : Option Addr) = some x → (Value.slice none 0 0).ownBlock ≠ some x.block := fun x hx => by simp [Value.ownBlock]
          have hTk : Hid (Toks wr (some ⟨w.heap.size, 0, none⟩) (n + 1 + m) (n + 1 + m) (ts ++ [(40, 7)] ++ abv zs m)) := hown.toksAt
          have HTL : Hid (ts.length = n) := htl
          clear hlen htl hal hjm
          go_wp2_with fail
          refine (drain_any w.heap.size _ [] _ _ _ _ 1 _ (OwnT.nil _ _) hTk.out hne (by simp; omega) hB).mono ?_
          rintro e w3 ⟨out', j', rfl, hst, hown3, hgr3⟩
          have hj' := paren_stop hst
          rw [HTL.out] at hj'
          subst hj'
          have eD : (ts ++ [(40, 7)] ++ abv zs m).drop (n + 1) = abv zs m := by
            have e1 : n + 1 = (ts ++ [((40, 7) : Int × Int)]).length := by have := HTL.out; simp; omega
            rw [e1]; exact List.drop_left
          rw [eD, List.nil_append] at hown3
          have hb3 : Below w.heap.size w w3 := below_app hb hB (fun k hk => by simp [Value.ownBlock] at hk) hgr3
          have hT3 : Toks w3 (some ⟨w.heap.size, 0, none⟩) (n + 1 + m) (n + 1 + m) (ts ++ [(40, 7)] ++ abv zs m) := hTk.out.grew hgr3 hne
          obtain ⟨ao, co, rfl, hno, hTo⟩ := hown3.toks'
          rw [List.length_reverse, abv_len] at hTo ⊢
          have hco := hTo.2.2.1
          have hnco := hTo.2.1
          unfold maxLen at hco
          have HTO : Hid (Toks w3 ao m co (abv zs m).reverse) := hTo
          obtain ⟨bq, oq, eq, hcq⟩ := hT3.2.2.2 (by omega)
          cases eq
          obtain ⟨c5, c6⟩ := hcq n (by omega)
          have e40 : Ex.kAt (ts ++ [(40, 7)] ++ abv zs m) n = 40 ∧ Ex.vAt (ts ++ [(40, 7)] ++ abv zs m) n = 7 := by
            have h0 := kAt_app (ts ++ [(40, 7)]) (abv zs m) n (by have := HTL.out; simp; omega)
            have h1 := kAt_app' ts [(40, 7)] 0
            rw [HTL.out, Nat.add_zero] at h1
            exact ⟨h0.1.trans (h1.1.trans rfl), h0.2.trans (h1.2.trans rfl)⟩
          rw [e40.1, Nat.zero_add] at c5
          rw [e40.2, Nat.zero_add] at c6
          have hTt : Hid (Toks w3 (some ⟨w.heap.size, 0, none⟩) n (n + 1 + m) ts) := by
            have h0 := hT3.take n (by omega)
            have e1 : (ts ++ [(40, 7)] ++ abv zs m).take n = ts := by
              rw [List.append_assoc, ← HTL.out]; exact List.take_left
            rw [e1] at h0
            exact h0
          clear hcq hT3 hTo hown3 hgr3 hTk hst eD e40 hno hne
          go_wp2_with fail
          refine (ieq_any _ _ _ _ _ _ ts ts _ hTt.out (T0.out.below hb3)).mono ?_
          rintro e w4 ⟨rfl, hx4⟩
          have hb4 : Below w.heap.size w w4 := hb3.trans (hx4.mono hb3.size)
          have HTO4 : Hid (Toks w4 ao m co (abv zs m).reverse) := HTO.out.below hx4
          have dt : decide (ts = ts) = true := by simp
          rw [dt]
          clear hx4 HTO hTt hb3 dt c5 c6 hown hb
          go_wp2_with fail
          go_loopw [11, 12] (fun i _ wx => ∃ (q : Nat), q ≤ m ∧ i = .int .i64 q ∧ Below w4.heap.size w4 wx) (fun i _ _ => m - (intOf i).toNat)
          case atStart => exact ⟨0, by omega, rfl, Below.refl _ _⟩
          case round =>
            obtain ⟨q, hq, rfl, hbx⟩ := hrel
            by_cases hqm : q < m
            · obtain ⟨b1, o1, rfl, hc1⟩ := (HTO4.out.below hbx).2.2.2 (by omega)
              obtain ⟨b2, o2, rfl, hc2⟩ := ((Z0.out.below hb4).below hbx).2.2.2 (by omega)
              obtain ⟨r1, r2⟩ := hc1 q hqm
              have r3 := hc2 (m - 1 - q) (by omega)
              obtain ⟨e1, e2⟩ := abv_rev zs m q hqm
              rw [e1] at r1
              rw [e2] at r2
              have hzl := Z0.out.1
              obtain ⟨p1, p2⟩ := ZB.out _ (Ex.iAt_mem zs (m - 1 - q) (by omega))
              obtain ⟨i, hi⟩ : ∃ i : Nat, i = m - 1 - q := ⟨_, rfl⟩
              rw [← hi] at r2 r3 r1 p1 p2
              have hie : (m : Int) - 1 - (q : Int) = (i : Int) := by omega
              have him : (i : Int) < (m : Int) := by omega
              have him0 : (0 : Int) ≤ (i : Int) := by omega
              have hqi : (q : Int) < (m : Int) := by omega
              have hqi0 : (0 : Int) ≤ (q : Int) := by omega
              have hix := l4_index (Ex.iAt zs i)
              have hl4 : (l4 (Ex.iAt zs i) != l4 (Ex.iAt zs i)) = false := by simp
              clear hc1 hc2 hi hzl e1 e2
              go_wp2_with fail
              go_quiet (fail)
              go_wp2_with fail
              go_roundw
              case rel => exact ⟨q + 1, by omega, by go_num, below_drewN hbx _⟩
              case measure => simp [intOf]; omega
            · have hqn : decide ((q : Int) < (m : Int)) = false := by simp; omega
              go_wp2_with fail
              go_ret
              exact ⟨rfl, hb4.trans (hbx.mono hb4.size)⟩
end Go.Proofs.Ymbrbv
