import Derived.Test.YmbrbuDrainWalk
import Derived.Test.YmbrbuOpenTok
set_option linter.unusedVariables false
set_option linter.unusedSimpArgs false
set_option linter.unnecessarySimpa false
namespace Go.Proofs.Ymbrbu
open Go.RowKit

/- ToPostfix as a plain function; the stack of operators lies top first -/
abbrev Tk := Int × Int
def ge (m : Int) (t : Tk) : Bool := decide (m ≤ Ex.prec t.1)
def tpStep (st : List Tk × List Tk × Bool) (t : Tk) : Option (List Tk × List Tk × Bool) :=
  if st.2.2 != (t.1 == 48 || t.1 == 40) then none
  else if t.1 = 48 then some (st.1 ++ [t], st.2.1, false)
  else if t.1 = 40 then some (st.1, t :: st.2.1, st.2.2)
  else if t.1 = 41 then (match st.2.1.dropWhile (ge 1) with
    | [] => none
    | _ :: r => some (st.1 ++ st.2.1.takeWhile (ge 1), r, st.2.2))
  else if 0 < Ex.prec t.1 then some (st.1 ++ st.2.1.takeWhile (ge (Ex.prec t.1)), t :: st.2.1.dropWhile (ge (Ex.prec t.1)), true)
  else none
def tpRun : List Tk → List Tk × List Tk × Bool → Option (List Tk × List Tk × Bool)
  | [], st => some st
  | t :: ts, st => (tpStep st t).bind (tpRun ts)
def tpEnd (st : List Tk × List Tk × Bool) : Option (List Tk) :=
  if st.2.2 || !(st.2.1.dropWhile (ge 1)).isEmpty then none else some (st.1 ++ st.2.1.takeWhile (ge 1))
def tp (ts : List Tk) : Option (List Tk) := (tpRun ts ([], [], true)).bind tpEnd

theorem kAt_getElem (ps : List Tk) (i : Nat) (h : i < ps.length) : Ex.kAt ps i = ps[i].1 := by simp [Ex.kAt, List.getD_eq_getElem?_getD, h]
/-- where drain stops, told of the stack top first -/
theorem drStop_rev {m : Int} : ∀ (S : List Tk) {j : Nat}, DrStop m S.reverse j → S.reverse.take j = (S.dropWhile (ge m)).reverse ∧ (S.reverse.drop j).reverse = S.takeWhile (ge m)
  | [], j, h => by
    have : j = 0 := by have := h.1; simp at this; exact this
    subst this; simp
  | x :: S, j, h => by
    obtain ⟨h1, h2, h3⟩ := h
    have hl : (x :: S).reverse.length = S.length + 1 := by simp
    have hx : Ex.kAt (x :: S).reverse S.length = x.1 := by
      rw [kAt_getElem _ _ (by rw [hl]; omega)]
      simp
    have hi : ∀ i, i < S.length → Ex.kAt (x :: S).reverse i = Ex.kAt S.reverse i := fun i hi => by
      simp [Ex.kAt, List.getD_eq_getElem?_getD]
      rw [List.getElem?_append_left (by simpa using hi)]
    by_cases hj : j = S.length + 1
    · subst hj
      have hlow : Ex.prec x.1 < m := by
        rcases h3 with h3 | h3
        · omega
        · rw [Nat.add_sub_cancel, hx] at h3; exact h3
      have hg : ge m x = false := by simp [ge]; omega
      rw [List.take_of_length_le (by rw [hl]; omega), List.drop_eq_nil_of_le (by rw [hl]; omega)]
      simp [List.dropWhile, List.takeWhile, hg]
    · have hjl : j ≤ S.length := by rw [hl] at h1; omega
      have hge := h2 S.length hjl (by rw [hl]; omega)
      rw [hx] at hge
      have hg : ge m x = true := by simpa [ge] using hge
      obtain ⟨e1, e2⟩ := drStop_rev S (j := j) ⟨by simpa using hjl, fun i a b => by
        have hb : i < S.length := by simpa using b
        rw [← hi i hb]; exact h2 i a (by rw [hl]; omega), by
        rcases h3 with h3 | h3
        · exact .inl h3
        · by_cases h0 : j = 0
          · exact .inl h0
          · right; rw [← hi _ (by omega)]; exact h3⟩
      have t1 : (x :: S).reverse.take j = S.reverse.take j := by
        rw [List.reverse_cons, List.take_append_of_le_length (by simpa using hjl)]
      have t2 : ((x :: S).reverse.drop j).reverse = x :: (S.reverse.drop j).reverse := by
        rw [List.reverse_cons, List.drop_append_of_le_length (by simpa using hjl)]
        simp
      rw [t1, t2, e1, e2]
      simp [List.dropWhile, List.takeWhile, hg]

theorem OwnT.take' {w : World} {base cap n : Nat} {a : Option Addr} {ts : List (Int × Int)} (h : OwnT w base (.slice a n cap) ts) (j : Nat) (hj : j ≤ n) : OwnT w base (.slice a j cap) (ts.take j) := by
  rcases h.2 with ⟨h0, h00⟩ | ⟨g', cap', cur, hv, hg, hh, hn, hcap, hsz, htake⟩
  · cases h0
    have : j = 0 := by omega
    subst this
    have hl : ts = [] := List.length_eq_zero_iff.1 h00
    subst hl
    exact h
  · cases hv
    exact h.take j hj
/-- two rows of the call's own that lie apart -/
theorem ne_grew {w w' : World} {u v v' : Value} {base : Nat} {ts : List (Int × Int)} (g : Grew w w' v v') (hu : OwnT w base u ts) (hne : u.ownBlock ≠ v.ownBlock) : u.ownBlock ≠ v'.ownBlock := by
  rcases g.2 with n | ⟨q, n, hq⟩
  · rw [n]; exact hne
  · rw [n]; intro e
    have := (hu.lt q e).2
    omega
theorem tpRun_cons (t : Tk) (ts : List Tk) (st : List Tk × List Tk × Bool) : tpRun (t :: ts) st = (tpStep st t).bind (tpRun ts) := rfl
theorem tp_none_of {ts : List Tk} {k : Nat} {t : Tk} {st : List Tk × List Tk × Bool} (h : tpRun (ts.drop k) st = tpRun ts ([], [], true)) (hd : ts.drop k = t :: ts.drop (k + 1)) (hs : tpStep st t = none) : tp ts = none := by
  unfold tp
  rw [← h, hd, tpRun_cons, hs]; rfl
theorem tp_next {ts : List Tk} {k : Nat} {t : Tk} {st st' : List Tk × List Tk × Bool} (h : tpRun (ts.drop k) st = tpRun ts ([], [], true)) (hd : ts.drop k = t :: ts.drop (k + 1)) (hs : tpStep st t = some st') : tpRun (ts.drop (k + 1)) st' = tpRun ts ([], [], true) := by
  rw [← h, hd, tpRun_cons, hs]; rfl

set_option maxRecDepth 100000 in
set_option maxHeartbeats 4000000 in
theorem topost_any (a : Option Addr) (n cap : Nat) (ts : List (Int × Int)) (w : World) (ht : Toks w a n cap ts) (hn : n ≤ 10000000000) :
    Calls Ybum.prog 27 #[.slice a n cap] w fun e w' => ∃ v c, e = .returned (.tuple #[v, .int .i64 c]) ∧ Below w.heap.size w w' ∧ ((tp ts = none ∧ c = 2 ∧ v = .slice none 0 0) ∨ ∃ out, tp ts = some out ∧ c = 0 ∧ OwnT w' w.heap.size v out) := by
  have hnc := ht.2.1
  have hcm := ht.2.2.1
  unfold maxLen at hcm
  have HL : Hid (ts.length = n) := ht.1
  have HT : Hid (Toks w a n cap ts) := ht
  clear ht
  go_enter Ybum.func27, Ybum.ntmps27
  go_wp2_with (first
    | (at_make; refine make_tok _ rfl _ (.tmp 10) rfl w.heap.size _ _ _ n rfl rfl (by omega) (by omega) (by omega) ?_; intro w1 hown1 hb1 hlt1)
    | (at_make; refine make_tok _ rfl _ (.tmp 13) rfl w.heap.size _ _ _ n rfl rfl (by omega) (by omega) (by omega) ?_; intro w2 hown2 hb2 hlt2))
  go_loopw [4, 5, 6, 8, 17] (fun v u d _ i wr => ∃ (k : Nat) (out S : List Tk) (want : Bool), k ≤ n ∧ i = .int .i64 k ∧ d = .bool want ∧ out.length + S.length ≤ k ∧ Hid (tpRun (ts.drop k) (out, S, want) = tpRun ts ([], [], true)) ∧ OwnT wr w.heap.size v out ∧ OwnT wr w.heap.size u S.reverse ∧ u.ownBlock ≠ v.ownBlock ∧ Below w.heap.size w wr) (fun _ _ _ _ i _ => n - (intOf i).toNat)
  case atStart => exact ⟨0, [], [], true, by omega, rfl, rfl, by simp, rfl, hown1.below hb2, hown2, by simp [Value.ownBlock]; omega, hb1.trans (hb2.mono hb1.size)⟩
  case round =>
    clear hown1 hown2 hb1 hb2 hlt1 hlt2
    obtain ⟨k, out, S, want, hk, rfl, rfl, hos, HR, ho, hs, hap, hb⟩ := hrel
    have hB := hb.size
    have hne4 : some wr.heap.size ≠ u4.ownBlock := fun e => by have := (ho.lt _ e.symm).2; omega
    have hne5 : some wr.heap.size ≠ u5.ownBlock := fun e => by have := (hs.lt _ e.symm).2; omega
    obtain ⟨aS, cS, rfl, hnS, hTS⟩ := hs.toks'
    have hcS := hTS.2.2.1
    have hnS' := hTS.2.1
    unfold maxLen at hcS
    obtain ⟨p, hp⟩ : ∃ p, S.reverse.length = p := ⟨_, rfl⟩
    have HPS : Hid (p = S.length) := by show _ = _; rw [← hp]; simp
    have hpk : out.length + p ≤ k := by have := HPS.out; omega
    have HOS : Hid (out.length + S.length ≤ k) := hos
    clear hos
    rw [hp] at hTS hs hap hne5 hnS' ⊢
    have HS : Hid (Toks wr aS p cS S.reverse) := hTS
    have HSA : Hid (∀ o, Toks (wr.alloc o) aS p cS S.reverse) := fun o => hTS.below ((Below.refl wr.heap.size wr).alloc (Nat.le_refl _) o)
    have HP : Hid (S.reverse.length = p) := hp
    have hdr : ∀ x, aS = some x → u4.ownBlock ≠ some x.block := fun x hx => by
      subst hx; intro e; exact hap e.symm
    have HDR : Hid (∀ x, aS = some x → u4.ownBlock ≠ some x.block) := hdr
    clear hTS hdr hp
    by_cases hlt : k < n
    · obtain ⟨b, off, rfl, hc⟩ := (HT.out.below hb).2.2.2 (by omega)
      obtain ⟨c1, c2⟩ := hc k hlt
      have HD : Hid (ts.drop k = (Ex.kAt ts k, Ex.vAt ts k) :: ts.drop (k + 1)) := Ex.drop_at ts k (by have := HL.out; omega)
      clear hc
      have hki : (k : Int) < (n : Int) := by omega
      by_cases h48 : Ex.kAt ts k = 48
      · have d1 : (Ex.kAt ts k == 48) = true := by simpa using h48
        cases want with
        | false =>
          have HF : Hid (tp ts = none) := tp_none_of HR.out HD.out (by simp [tpStep, h48])
          clear h48
          go_wp2_with fail
          go_ret2
          exact ⟨_, _, rfl, hb.alloc hB _, .inl ⟨HF.out, rfl, rfl⟩⟩
        | true =>
          have HN : Hid (tpRun (ts.drop (k + 1)) (out ++ [(Ex.kAt ts k, Ex.vAt ts k)], S, false) = tpRun ts ([], [], true)) := tp_next HR.out HD.out (by simp [tpStep, h48])
          clear h48
          go_wp2_with (first | (at_builtin; refine app_tok _ rfl (.tmp 35) (.tmp 37) rfl w.heap.size _ out rfl ((ho.alloc _).alloc _) _ (Ex.kAt ts k) (Ex.vAt ts k) rfl (by simp) (by simp) (by omega) (by simp; omega) ?_; intro v' w2 hown2 hold2 hgr))
          go_roundw
          case rel => exact ⟨k + 1, _, S, false, by omega, by go_num, rfl, by have := HOS.out; simp; omega, HN, hown2, ((hs.alloc _).alloc _).keeps hgr (.inr hap), ne_grew hgr ((hs.alloc _).alloc _) hap, below_app hb hB ho.base hgr.after_alloc.after_alloc⟩
          case measure => simp [intOf]; omega
      · have d1 : (Ex.kAt ts k == 48) = false := by simpa using h48
        by_cases h40 : Ex.kAt ts k = 40
        · have d2 : (Ex.kAt ts k == 40) = true := by simpa using h40
          cases want with
          | false =>
            have HF : Hid (tp ts = none) := tp_none_of HR.out HD.out (by simp [tpStep, h40])
            clear h40 h48
            go_wp2_with fail
            go_ret2
            exact ⟨_, _, rfl, hb.alloc hB _, .inl ⟨HF.out, rfl, rfl⟩⟩
          | true =>
            have HN : Hid (tpRun (ts.drop (k + 1)) (out, (Ex.kAt ts k, Ex.vAt ts k) :: S, true) = tpRun ts ([], [], true)) := tp_next HR.out HD.out (by simp [tpStep, h40])
            clear h40 h48
            go_wp2_with (first | (at_builtin; refine app_tok _ rfl (.tmp 43) (.tmp 45) rfl w.heap.size _ S.reverse rfl ((hs.alloc _).alloc _) _ (Ex.kAt ts k) (Ex.vAt ts k) rfl (by simp) (by simp) (by have := HP.out; omega) (by simp; omega) ?_; intro v' w2 hown2 hold2 hgr))
            go_roundw
            case rel => exact ⟨k + 1, out, _, true, by omega, by go_num, rfl, by have := HOS.out; simp; omega, HN, ((ho.alloc _).alloc _).keeps hgr (.inr (fun e => hap e.symm)), by simpa using hown2, fun e => ne_grew hgr ((ho.alloc _).alloc _) (fun e => hap e.symm) e.symm, below_app hb hB hs.base hgr.after_alloc.after_alloc⟩
            case measure => simp [intOf]; omega
        · have d2 : (Ex.kAt ts k == 40) = false := by simpa using h40
          cases want with
          | true =>
            have HF : Hid (tp ts = none) := tp_none_of HR.out HD.out (by simp [tpStep, h40, h48])
            clear h40 h48
            go_wp2_with fail
            go_ret2
            exact ⟨_, _, rfl, hb.alloc hB _, .inl ⟨HF.out, rfl, rfl⟩⟩
          | false =>
            by_cases h41 : Ex.kAt ts k = 41
            · have d3 : (Ex.kAt ts k == 41) = true := by simpa using h41
              have HF : Hid (S.dropWhile (ge 1) = [] → tp ts = none) := fun hd => tp_none_of HR.out HD.out (by simp [tpStep, h41, hd])
              have HN : Hid (∀ x r, S.dropWhile (ge 1) = x :: r → tpRun (ts.drop (k + 1)) (out ++ S.takeWhile (ge 1), r, false) = tpRun ts ([], [], true)) := fun x r hd => tp_next HR.out HD.out (by simp [tpStep, h41, hd])
              clear h40 h48 h41
              go_wp2_with fail
              refine (drain_any w.heap.size _ out _ _ _ S.reverse 1 _ (ho.alloc _) (HSA.out _) HDR.out (by omega) (by simp; omega)).mono ?_
              rintro e w2 ⟨v', j, rfl, hst, hown2, hgr⟩
              obtain ⟨e1, e2⟩ := drStop_rev S hst
              have hj := hst.1
              rw [HP.out] at hj
              have hs2 := ((hs.alloc _).keeps hgr (.inr hap)).take' j hj
              rw [e1] at hs2
              rw [e2] at hown2
              have hap2 : (Value.slice aS j cS).ownBlock ≠ v'.ownBlock := by
                have h := ne_grew hgr (hs.alloc _) hap
                have e : (Value.slice aS j cS).ownBlock = (Value.slice aS p cS).ownBlock := by cases aS <;> rfl
                rw [e]; exact h
              have hb2 := below_app hb hB ho.base hgr.after_alloc
              have hjl : (S.dropWhile (ge 1)).length = j := by have := hs2.len.1; simpa using this
              have hTL : (S.takeWhile (ge 1)).length + (S.dropWhile (ge 1)).length = S.length := by
                rw [← List.length_append, List.takeWhile_append_dropWhile]
              have HTL : Hid ((S.takeWhile (ge 1)).length + (S.dropWhile (ge 1)).length = S.length) := hTL
              have HS2 : Hid (OwnT w2 w.heap.size (.slice aS j cS) (S.dropWhile (ge 1)).reverse) := hs2
              have HJL : Hid ((S.dropWhile (ge 1)).length = j) := hjl
              clear e1 e2 hst hTL hs2 hgr hjl
              by_cases hj0 : j = 0
              · subst hj0
                have HE : Hid (tp ts = none) := HF.out (List.length_eq_zero_iff.1 HJL.out)
                go_wp2_with fail
                go_ret2
                exact ⟨_, _, rfl, hb2, .inl ⟨HE.out, rfl, rfl⟩⟩
              · have dj : ((j : Int) == 0) = false := by simpa using hj0
                obtain ⟨x, r, hxr⟩ : ∃ x r, S.dropWhile (ge 1) = x :: r := by
                  cases h : S.dropWhile (ge 1) with
                  | nil => have := HJL.out; rw [h] at this; simp at this; omega
                  | cons x r => exact ⟨x, r, rfl⟩
                have HN2 := HN.out x r hxr
                have hl2 := HJL.out
                have hs3 := HS2.out.take' (j - 1) (by omega)
                have hl3 := HTL.out
                rw [hxr] at hl2 hs3 hl3
                simp at hl2 hl3
                have ht3 : (x :: r).reverse.take (j - 1) = r.reverse := by
                  rw [List.reverse_cons]
                  have : j - 1 = r.reverse.length := by simp; omega
                  rw [this, List.take_left]
                rw [ht3] at hs3
                have HN3 : Hid (tpRun (ts.drop (k + 1)) (out ++ S.takeWhile (ge 1), r, false) = tpRun ts ([], [], true)) := HN2
                have HX : Hid ((out ++ S.takeWhile (ge 1)).length + r.length ≤ k + 1) := by show _ ≤ _; have := HOS.out; simp; omega
                clear hl2 hl3 hxr ht3 HN2 HJL HTL HS2 HF HN
                go_wp2_with fail
                go_roundw
                case rel => exact ⟨k + 1, _, r, false, by omega, by go_num, rfl, HX.out, HN3, hown2, hs3, (by have e : (Value.slice aS (j - 1) cS).ownBlock = (Value.slice aS j cS).ownBlock := (by cases aS <;> rfl); rw [e]; exact hap2), hb2⟩
                case measure => simp [intOf]; omega
            · have d3 : (Ex.kAt ts k == 41) = false := by simpa using h41
              by_cases hpr : 0 < Ex.prec (Ex.kAt ts k)
              · have HN : Hid (tpRun (ts.drop (k + 1)) (out ++ S.takeWhile (ge (Ex.prec (Ex.kAt ts k))), (Ex.kAt ts k, Ex.vAt ts k) :: S.dropWhile (ge (Ex.prec (Ex.kAt ts k))), true) = tpRun ts ([], [], true)) := tp_next HR.out HD.out (by simp [tpStep, h40, h48, h41, hpr])
                clear h40 h48 h41
                go_wp2_with fail
                refine (prec_any _ _).mono ?_
                rintro e w' ⟨rfl, hw⟩
                subst hw
                go_wp2_with fail
                refine (prec_any _ _).mono ?_
                rintro e w' ⟨rfl, hw⟩
                subst hw
                go_wp2_with fail
                refine (drain_any w.heap.size _ out _ _ _ S.reverse _ _ (ho.alloc _) (HSA.out _) HDR.out (by omega) (by simp; omega)).mono ?_
                rintro e w2 ⟨v', j, rfl, hst, hown2, hgr⟩
                obtain ⟨e1, e2⟩ := drStop_rev S hst
                have hj := hst.1
                rw [HP.out] at hj
                have hs2 := ((hs.alloc _).keeps hgr (.inr hap)).take' j hj
                rw [e1] at hs2
                rw [e2] at hown2
                have hap2 : (Value.slice aS j cS).ownBlock ≠ v'.ownBlock := by
                  have h := ne_grew hgr (hs.alloc _) hap
                  have e : (Value.slice aS j cS).ownBlock = (Value.slice aS p cS).ownBlock := by cases aS <;> rfl
                  rw [e]; exact h
                have hb2 := below_app hb hB ho.base hgr.after_alloc
                have hjl := hs2.len.1
                have hTL : (S.takeWhile (ge (Ex.prec (Ex.kAt ts k)))).length + (S.dropWhile (ge (Ex.prec (Ex.kAt ts k)))).length = S.length := by
                  rw [← List.length_append, List.takeWhile_append_dropWhile]
                have HX : Hid ((out ++ S.takeWhile (ge (Ex.prec (Ex.kAt ts k)))).length + ((Ex.kAt ts k, Ex.vAt ts k) :: S.dropWhile (ge (Ex.prec (Ex.kAt ts k)))).length ≤ k + 1) := by show _ ≤ _; have := HOS.out; simp; omega
                have t1 : w2.cell? ⟨wr.heap.size, 0, none⟩ = some (.int .u8 (Ex.kAt ts k)) := hgr.1.cell (by simp) hne4
                have t2 : w2.cell? ⟨wr.heap.size, 1, none⟩ = some (.int .i64 (Ex.vAt ts k)) := hgr.1.cell (by simp) hne4
                have hlen3 : (S.dropWhile (ge (Ex.prec (Ex.kAt ts k)))).reverse.length < 100000000000 := by have := HOS.out; simp; omega
                obtain ⟨D, hD⟩ : ∃ D, S.dropWhile (ge (Ex.prec (Ex.kAt ts k))) = D := ⟨_, rfl⟩
                obtain ⟨U, hU⟩ : ∃ U, out ++ S.takeWhile (ge (Ex.prec (Ex.kAt ts k))) = U := ⟨_, rfl⟩
                rw [hD] at hs2 hlen3 HN HX
                rw [hU] at hown2 HN HX
                have hs2sz := hb2.size
                clear e1 e2 hst hTL hjl hD hU hgr c1 c2
                go_wp2_with (first | (at_builtin; refine app_tok _ rfl (.tmp 79) (.tmp 81) rfl w.heap.size _ D.reverse rfl (hs2.alloc _) _ (Ex.kAt ts k) (Ex.vAt ts k) rfl (by simp) (by simp) (by omega) (by simp; omega) ?_; intro v3 w3 hown3 hold3 hgr3))
                go_roundw
                case rel => exact ⟨k + 1, U, _, true, by omega, by go_num, rfl, HX.out, HN, (hown2.alloc _).keeps hgr3 (.inr (fun e => hap2 e.symm)), by simpa using hown3, fun e => ne_grew hgr3 (hown2.alloc _) (fun e => hap2 e.symm) e.symm, below_app hb2 hb2.size hs2.base hgr3.after_alloc⟩
                case measure => simp [intOf]; omega
              · have HF : Hid (tp ts = none) := tp_none_of HR.out HD.out (by simp [tpStep, h40, h48, h41, hpr])
                have hp0 : decide (0 < Ex.prec (Ex.kAt ts k)) = false := by simp; omega
                clear h40 h48 h41 hpr
                go_wp2_with fail
                refine (prec_any _ _).mono ?_
                rintro e w' ⟨rfl, hw⟩
                subst hw
                go_wp2_with fail
                go_ret2
                exact ⟨_, _, rfl, hb.alloc hB _, .inl ⟨HF.out, rfl, rfl⟩⟩
    · have hkn : decide ((k : Int) < (n : Int)) = false := decide_eq_false (by omega)
      have HE : Hid (tp ts = tpEnd (out, S, want)) := by
        show _ = _
        unfold tp
        rw [← HR.out, List.drop_eq_nil_of_le (by have := HL.out; omega)]; rfl
      go_wp2_with fail
      refine (drain_any w.heap.size _ out _ _ _ S.reverse 1 _ ho HS.out HDR.out (by omega) hB).mono ?_
      rintro e w2 ⟨v', j, rfl, hst, hown2, hgr⟩
      obtain ⟨e1, e2⟩ := drStop_rev S hst
      have hj := hst.1
      rw [HP.out] at hj
      have hs2 := (hs.keeps hgr (.inr hap)).take' j hj
      rw [e1] at hs2
      rw [e2] at hown2
      have hb2 := below_app hb hB ho.base hgr
      have hjl : (S.dropWhile (ge 1)).length = j := by have := hs2.len.1; simpa using this
      have HJL : Hid ((S.dropWhile (ge 1)).length = j) := hjl
      clear e1 e2 hst hs2 hgr hjl
      cases want with
      | true =>
        have HF : Hid (tp ts = none) := HE.out.trans (by simp [tpEnd])
        go_wp2_with fail
        go_ret2
        exact ⟨_, _, rfl, hb2, .inl ⟨HF.out, rfl, rfl⟩⟩
      | false =>
        by_cases hj0 : j = 0
        · subst hj0
          have HF : Hid (tp ts = some (out ++ S.takeWhile (ge 1))) := HE.out.trans (by simp [tpEnd, List.length_eq_zero_iff.1 HJL.out])
          go_wp2_with fail
          go_ret2
          exact ⟨_, _, rfl, hb2, .inr ⟨_, HF.out, rfl, hown2⟩⟩
        · have HF : Hid (tp ts = none) := HE.out.trans (by
            cases h : S.dropWhile (ge 1) with
            | nil => have := HJL.out; rw [h] at this; simp at this; omega
            | cons x r => simp [tpEnd, h])
          have dj : decide ((0 : Int) < (j : Int)) = true := by simp; omega
          go_wp2_with fail
          go_ret2
          exact ⟨_, _, rfl, hb2, .inl ⟨HF.out, rfl, rfl⟩⟩
end Go.Proofs.Ymbrbu
