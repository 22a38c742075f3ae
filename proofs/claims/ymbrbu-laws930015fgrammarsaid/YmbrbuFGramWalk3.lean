import Derived.Test.YmbrbuFGramWalk2
set_option linter.unusedVariables false
set_option linter.unusedSimpArgs false
set_option linter.unnecessarySimpa false
namespace Go.Proofs.Ymbrbu
open Go.RowKit

set_option maxRecDepth 100000 in
set_option maxHeartbeats 4000000 in
theorem atom_step (s : ByteArray) (i : Nat) (hs : s.size ≤ 100000) (hi : i ≤ s.size) (hA : ∀ i', i < i' → i' ≤ s.size → SumC s i') : AtomC s i := by
  intro T w hL
  have HA : Hid (∀ i', i < i' → i' ≤ s.size → SumC s i') := hA
  have HL : Hid (Lx (sb s) i T) := hL
  have HS : Hid ((sb s).length = s.size) := sb_len s
  have hsb := sb_at s
  clear hA hL
  go_enter Ybum.func50, Ybum.ntmps50
  go_wp2_with fail
  refine (fskip_any s i T w hs hi HL.out).mono ?_
  rintro e w1 ⟨⟨J, rfl, hiJ, hJ, hlx, hnb⟩, hw⟩
  subst hw
  have HX : Hid (Lx (sb s) J T) := hlx
  have HN : Hid (NB (sb s) J) := hnb
  clear hlx hnb HL
  by_cases hlt : J < s.size
  · have hge : decide ((s.size : Int) ≤ (J : Int)) = false := decide_eq_false (by omega)
    have hJi : (J : Int) < (s.size : Int) := by omega
    have hJ0 : (0 : Int) ≤ (J : Int) := by omega
    have hJl : J < (sb s).length := by have := HS.out; omega
    by_cases h40 : Ex.iAt (sb s) J = 40
    · have d40 : (Ex.iAt (sb s) J == 40) = true := by simpa using h40
      obtain ⟨R, hR, hLR⟩ := HX.out.sym hJl (by rw [h40]; decide)
      rw [h40] at hR
      subst hR
      have HLR : Hid (Lx (sb s) (J + 1) R) := hLR
      clear hLR h40 HX HN hJl
      go_wp2_with fail
      refine (HA.out (J + 1) (by omega) (by omega) R w1 HLR.out).mono ?_
      rintro e w2 ⟨⟨v, j, c, rfl, hr⟩, hw⟩
      subst hw
      rcases hr with ⟨rfl, hf⟩ | ⟨K, rest, rfl, hK, hJK, hc2, hv, hok, hlx, hnb, hst⟩
      · have HF : Hid (FailAt 3 ((40, 0) :: R)) := FailAt.paren 3 0 hf
        clear hf
        go_wp2_with fail
        go_ret3
        exact ⟨⟨_, _, _, rfl, .inl ⟨rfl, HF.out⟩⟩, rfl⟩
      · have dc : (c == 2) = false := by simpa using hc2
        have HO : Hid (OkAt 1 R v c rest) := hok
        have HX : Hid (Lx (sb s) K rest) := hlx
        have HN : Hid (NB (sb s) K) := hnb (by first | rfl | trivial)
        have HQ : Hid (∀ t, rest.head? = some t → Ex.prec t.1 = 0) := hst
        clear hok hlx hnb hst
        by_cases hKl : K < s.size
        · have dK : decide ((s.size : Int) ≤ (K : Int)) = false := decide_eq_false (by omega)
          have hKi : (K : Int) < (s.size : Int) := by omega
          have hK0 : (0 : Int) ≤ (K : Int) := by omega
          by_cases h41 : Ex.iAt (sb s) K = 41
          · have d41 : (Ex.iAt (sb s) K != 41) = false := by simpa using h41
            obtain ⟨R2, hR2, hLR2⟩ := HX.out.sym (by have := HS.out; omega) (by rw [h41]; decide)
            rw [h41] at hR2
            have HRES : Hid (OkAt 3 ((40, 0) :: R) v c R2) := OkAt.paren 3 0 0 (by rw [← hR2]; exact HO.out)
            have HLR2 : Hid (Lx (sb s) (K + 1) R2) := hLR2
            clear hR2 hLR2 h41 HO HX HN HQ
            go_wp2_with fail
            go_ret3
            refine ⟨⟨v, (K : Int) + 1, c, rfl, .inr ⟨K + 1, R2, by omega, by omega, by omega, hc2, hv, HRES.out, HLR2.out, ?_, fun _ _ => trivial⟩⟩, rfl⟩
            intro h; cases h
          · have d41 : (Ex.iAt (sb s) K != 41) = true := by simpa using h41
            have HF : Hid (FailAt 3 ((40, 0) :: R)) := FailAt.shut 3 0 HO.out HQ.out (fun y r e => by
              obtain ⟨x, r', e'⟩ := HX.out.head hKl HN.out
              rw [e] at e'
              have := (List.cons.inj e').1
              have h2 := congrArg Prod.fst this
              simp only at h2
              split at h2
              · exact h41 h2.symm
              · omega)
            clear h41 HO HX HN HQ
            go_wp2_with fail
            go_ret3
            exact ⟨⟨_, _, _, rfl, .inl ⟨rfl, HF.out⟩⟩, rfl⟩
        · have dK : (s.size : Int) ≤ (K : Int) := by omega
          have HF : Hid (FailAt 3 ((40, 0) :: R)) := FailAt.shut 3 0 HO.out HQ.out (fun y r e => by
            have := HX.out.fin (by have := HS.out; omega)
            rw [this] at e; cases e)
          clear HO HX HN HQ
          go_wp2_with fail
          go_ret3
          exact ⟨⟨_, _, _, rfl, .inl ⟨rfl, HF.out⟩⟩, rfl⟩
    · have d40 : (Ex.iAt (sb s) J == 40) = false := by simpa using h40
      cases hD : Ex.isD (Ex.iAt (sb s) J) with
      | false =>
        have HF : Hid (FailAt 3 T) := by
          rcases HX.out.cases hJl with h1 | h1 | h1
          · have := HN.out hJl
            rw [isBl_iff.2 h1] at this; cases this
          · obtain ⟨T', e, _⟩ := HX.out.sym hJl h1
            have h48 : Ex.iAt (sb s) J ≠ 48 := fun h => by rw [h] at hD; cases hD
            rw [e]
            exact FailAt.head 3 _ _ h48 h40
          · rw [hD] at h1; cases h1
        have HDD : Hid (Ex.isD (Ex.iAt (sb s) J) = false) := hD
        clear hD h40 HX HN hJl
        go_wp2_with fail
        refine (fdigit_any _ _).mono ?_
        rintro e w2 ⟨rfl, hw⟩
        subst hw
        rw [HDD.out]
        go_wp2_with fail
        go_ret3
        exact ⟨⟨_, _, _, rfl, .inl ⟨rfl, HF.out⟩⟩, rfl⟩
      | true =>
        obtain ⟨n1, n2, T', e, hlx'⟩ := HX.out.num hJl hD
        obtain ⟨D, hDr⟩ : ∃ D, D = Ex.runAt (sb s) J := ⟨_, rfl⟩
        have hat : ∀ q, q < D.length → J + q < s.size ∧ Ex.iAt D q = Ex.iAt (sb s) (J + q) ∧ 48 ≤ Ex.iAt (sb s) (J + q) ∧ Ex.iAt (sb s) (J + q) ≤ 57 := fun q hq => by
          have := Ex.run_at (sb s) J q (by rw [← hDr]; exact hq)
          rw [sb_len, ← hDr] at this
          exact this
        have hend : J + D.length < s.size → Ex.isD (Ex.iAt (sb s) (J + D.length)) = false := by
          have := Ex.run_end (sb s) J
          rw [sb_len, ← hDr] at this
          exact fun h => Ex.isD_not.2 (this h)
        rw [← hDr] at n1 n2 e hlx'
        rw [HS.out] at n2
        have HAT : Hid (∀ q, q < D.length → J + q < s.size ∧ Ex.iAt D q = Ex.iAt (sb s) (J + q) ∧ 48 ≤ Ex.iAt (sb s) (J + q) ∧ Ex.iAt (sb s) (J + q) ≤ 57) := hat
        have HEND : Hid (J + D.length < s.size → Ex.isD (Ex.iAt (sb s) (J + D.length)) = false) := hend
        have hDpos : 0 < D.length := by
          rw [hDr]
          unfold Ex.runAt
          rw [Ex.idrop_at (sb s) J hJl, List.takeWhile_cons, if_pos hD]
          simp
        have HOK : Hid (OkAt 3 T (Ex.dval 0 D : Int) 0 T') := by
          rw [e]
          exact OkAt.num 3 _ _ (by unfold Ex.inI; omega)
        have HLX : Hid (Lx (sb s) (J + D.length) T') := hlx'
        have HV : Hid (Ex.dval 0 D ≤ 9223372036854775807) := n1
        have HDD : Hid (Ex.isD (Ex.iAt (sb s) J) = true) := hD
        clear hat hend hDr e hlx' hD h40 HX HN hJl n1
        go_wp2_with fail
        refine (fdigit_any _ _).mono ?_
        rintro e w2 ⟨rfl, hw⟩
        subst hw
        rw [HDD.out]
        go_wp2_with fail
        go_loop [1, 10] (fun j v => ∃ (q V : Nat), q ≤ D.length ∧ V ≤ 9223372036854775807 ∧ j = .int .i64 ((J : Int) + (q : Int)) ∧ v = .int .i64 V ∧ Hid (Ex.dval 0 (D.take q) = V)) (fun j _ => (s.size + 1) - (intOf j).toNat)
        case atStart => exact ⟨0, 0, by omega, by omega, by go_num, rfl, rfl⟩
        case round =>
          obtain ⟨q, V, hq, hVb, rfl, rfl, HQ⟩ := hrel
          have hjn0 : (0 : Int) ≤ (J : Int) + (q : Int) := by omega
          by_cases hqd : q < D.length
          · obtain ⟨h1, h2, h3, h4⟩ := HAT.out q hqd
            have hdv := Ex.dval_take_succ D q hqd
            rw [HQ.out, h2] at hdv
            have hle := Ex.dval_take_le D (q + 1)
            rw [hdv] at hle
            have hVle : V * 10 + (Ex.iAt (sb s) (J + q) - 48).toNat ≤ 9223372036854775807 := Nat.le_trans hle HV.out
            have HDV : Hid (Ex.dval 0 (D.take (q + 1)) = V * 10 + (Ex.iAt (sb s) (J + q) - 48).toNat) := hdv
            have HD1 : Hid (Ex.isD (Ex.iAt (sb s) (J + q)) = true) := Ex.isD_iff.2 ⟨h3, h4⟩
            clear hdv h2 hle
            have x1 : (J : Int) + (q : Int) < (s.size : Int) := by omega
            have x2 : J + q < s.size := h1
            go_wp2_with fail
            refine (fdigit_any _ _).mono ?_
            rintro e w3 ⟨rfl, hw⟩
            subst hw
            rw [HD1.out]
            go_wp2_with fail
            go_round
            case rel => exact ⟨q + 1, V * 10 + (Ex.iAt (sb s) (J + q) - 48).toNat, by omega, hVle, by go_num, by go_num, HDV⟩
            case measure => simp [intOf]; omega
          · have hqD : q = D.length := by omega
            have hdv : Ex.dval 0 D = V := by rw [← HQ.out, hqD, List.take_length]
            have HOK2 : Hid (OkAt 3 T (V : Int) 0 T') := by rw [← hdv]; exact HOK.out
            have HLX2 : Hid (Lx (sb s) (J + q) T') := by rw [hqD]; exact HLX.out
            have HE2 : Hid (J + q < s.size → Ex.isD (Ex.iAt (sb s) (J + q)) = false) := by rw [hqD]; exact HEND.out
            have hq1 : 0 < q := by omega
            have hqs : J + q ≤ s.size := by omega
            clear hdv hqD
            by_cases hend : J + q < s.size
            · have x1 : (J : Int) + (q : Int) < (s.size : Int) := by omega
              go_wp2_with fail
              refine (fdigit_any _ _).mono ?_
              rintro e w3 ⟨rfl, hw⟩
              subst hw
              rw [HE2.out hend]
              go_wp2_with fail
              go_ret3
              refine ⟨⟨(V : Int), (J : Int) + (q : Int), 0, rfl, .inr ⟨J + q, T', by omega, by omega, by omega, by decide, by unfold Ex.inI; omega, HOK2.out, HLX2.out, ?_, fun _ _ => trivial⟩⟩, rfl⟩
              intro h; cases h
            · have x1 : decide ((J : Int) + (q : Int) < (s.size : Int)) = false := decide_eq_false (by omega)
              go_wp2_with fail
              go_ret3
              refine ⟨⟨(V : Int), (J : Int) + (q : Int), 0, rfl, .inr ⟨J + q, T', by omega, by omega, by omega, by decide, by unfold Ex.inI; omega, HOK2.out, HLX2.out, ?_, fun _ _ => trivial⟩⟩, rfl⟩
              intro h; cases h
  · have hge : (s.size : Int) ≤ (J : Int) := by omega
    have HF : Hid (FailAt 3 T) := by rw [HX.out.fin (by have := HS.out; omega)]; exact FailAt.nil 3
    clear HX HN
    go_wp2_with fail
    go_ret3
    exact ⟨⟨_, _, _, rfl, .inl ⟨rfl, HF.out⟩⟩, rfl⟩

theorem atom_all (s : ByteArray) (hs : s.size ≤ 100000) : ∀ m i, s.size - i ≤ m → i ≤ s.size → AtomC s i := by
  intro m
  induction m with
  | zero =>
    intro i h1 h2
    exact atom_step s i hs h2 (fun i' h3 h4 => by omega)
  | succ m ih =>
    intro i h1 h2
    refine atom_step s i hs h2 (fun i' h3 h4 => sum_of s i' hs h4 (fun i'' h5 h6 => prod_of s i'' hs h6 (fun i3 h7 h8 => ih i3 (by omega) h8)))
theorem sum_any (s : ByteArray) (hs : s.size ≤ 100000) (i : Nat) (hi : i ≤ s.size) : SumC s i :=
  sum_of s i hs hi (fun i' _ h => prod_of s i' hs h (fun i'' _ h' => atom_all s hs s.size i'' (by omega) h'))
end Go.Proofs.Ymbrbu
