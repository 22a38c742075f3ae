import Derived.Test.YmbrbuFGramWalk
set_option linter.unusedVariables false
set_option linter.unusedSimpArgs false
set_option linter.unnecessarySimpa false
namespace Go.Proofs.Ymbrbu
open Go.RowKit

/-- what a parser of the law answers at byte i -/
def PRes (p : Int) (nb : Bool) (stop : Int → Prop) (s : ByteArray) (i : Nat) (T : List Tk) (v j c : Int) : Prop :=
  (c = 2 ∧ FailAt p T) ∨ ∃ (J : Nat) (rest : List Tk), j = (J : Int) ∧ J ≤ s.size ∧ i < J ∧ c ≠ 2 ∧ Ex.inI v ∧ OkAt p T v c rest ∧ Lx (sb s) J rest ∧ (nb = true → NB (sb s) J) ∧ ∀ t, rest.head? = some t → stop t.1
def PC (F : Nat) (p : Int) (nb : Bool) (stop : Int → Prop) (s : ByteArray) (i : Nat) : Prop :=
  ∀ T w, Lx (sb s) i T → Calls Ybum.prog F #[.string s, .int .i64 i] w fun e w' => (∃ v j c : Int, e = .returned (.tuple #[.int .i64 v, .int .i64 j, .int .i64 c]) ∧ PRes p nb stop s i T v j c) ∧ w' = w
abbrev AtomC := PC 50 3 false (fun _ => True)
abbrev ProdC := PC 42 2 true (fun k => Ex.prec k ≠ 2)
abbrev SumC := PC 18 1 true (fun k => Ex.prec k = 0)

/-- the next token by the next byte -/
theorem Lx.head {s : ByteArray} {J : Nat} {rest : List Tk} (h : Lx (sb s) J rest) (hJ : J < s.size) (hn : NB (sb s) J) : ∃ x r, rest = (if isSym (Ex.iAt (sb s) J) = true then Ex.iAt (sb s) J else 48, x) :: r := by
  have hl : J < (sb s).length := by rw [sb_len]; exact hJ
  rcases h.cases hl with h1 | h1 | h1
  · have := hn hl
    rw [isBl_iff.2 h1] at this; cases this
  · obtain ⟨T', e, _⟩ := h.sym hl h1
    exact ⟨0, T', by rw [if_pos h1]; exact e⟩
  · obtain ⟨_, _, T', e, _⟩ := h.num hl h1
    exact ⟨_, T', by rw [if_neg (by rw [(dig_not h1).2]; simp)]; exact e⟩

set_option maxRecDepth 100000 in
set_option maxHeartbeats 4000000 in
theorem prod_of (s : ByteArray) (i : Nat) (hs : s.size ≤ 100000) (hi : i ≤ s.size) (hA : ∀ i', i ≤ i' → i' ≤ s.size → AtomC s i') : ProdC s i := by
  intro T w hL
  have HA : Hid (∀ i', i ≤ i' → i' ≤ s.size → AtomC s i') := hA
  have HL : Hid (Lx (sb s) i T) := hL
  have HS : Hid ((sb s).length = s.size) := sb_len s
  have hsb := sb_at s
  clear hA hL
  go_enter Ybum.func42, Ybum.ntmps42
  go_wp2_with fail
  refine (HA.out i (by omega) hi T w HL.out).mono ?_
  rintro e w1 ⟨⟨v, j, c, rfl, hr⟩, hw⟩
  subst hw
  rcases hr with ⟨rfl, hf⟩ | ⟨J, rest, rfl, hJ, hiJ, hc2, hv, hok, hlx, -, -⟩
  · have HF : Hid (FailAt 2 T) := hf.mono (by omega)
    clear hf
    go_wp2_with fail
    go_ret3
    exact ⟨⟨_, _, _, rfl, .inl ⟨rfl, HF.out⟩⟩, rfl⟩
  · have dc : (c == 2) = false := by simpa using hc2
    have HOK : Hid (OkAt 2 T v c rest) := hok.mono (by omega)
    have HLX : Hid (Lx (sb s) J rest) := hlx
    clear hok hlx
    go_wp2_with fail
    refine (fskip_any s J rest w1 hs hJ HLX.out).mono ?_
    rintro e w2 ⟨⟨J2, rfl, hJJ, hJ2, hlx2, hnb2⟩, hw⟩
    subst hw
    have HLX2 : Hid (Lx (sb s) J2 rest) := hlx2
    have HNB2 : Hid (NB (sb s) J2) := hnb2
    clear hlx2 hnb2 HLX
    go_wp2_with fail
    go_loop [7, 8, 9, 10, 11, 12, 13] (fun v j c _ _ _ _ => ∃ (V : Int) (J : Nat) (C : Int) (rest : List Tk), v = .int .i64 V ∧ j = .int .i64 J ∧ c = .int .i64 C ∧ i < J ∧ J ≤ s.size ∧ C ≠ 2 ∧ Ex.inI V ∧ Hid (OkAt 2 T V C rest) ∧ Hid (Lx (sb s) J rest) ∧ Hid (NB (sb s) J)) (fun _ j _ _ _ _ _ => s.size - (intOf j).toNat)
    case atStart => exact ⟨v, J2, c, rest, rfl, rfl, rfl, by omega, hJ2, hc2, hv, HOK, HLX2, HNB2⟩
    case round =>
      clear HOK HLX2 HNB2 hJJ hJ2 hJ hiJ hc2 hv dc
      obtain ⟨V, K, C, rest, rfl, rfl, rfl, hiK, hK, hC2, hV, HO, HX, HN⟩ := hrel
      by_cases hlt : K < s.size
      · have hKi : (K : Int) < (s.size : Int) := by omega
        have hK0 : (0 : Int) ≤ (K : Int) := by omega
        have hKl : K < (sb s).length := by have := HS.out; omega
        by_cases hop : Ex.iAt (sb s) K = 42 ∨ Ex.iAt (sb s) K = 47
        · have hsy : isSym (Ex.iAt (sb s) K) = true := by rcases hop with h | h <;> rw [h] <;> decide
          have hpr : Ex.prec (Ex.iAt (sb s) K) = 2 := by rcases hop with h | h <;> rw [h] <;> decide
          obtain ⟨R, hR, hLR⟩ := HX.out.sym hKl hsy
          have HO2 : Hid (OkAt 2 T V C ((Ex.iAt (sb s) K, 0) :: R)) := by rw [← hR]; exact HO.out
          have HLR : Hid (Lx (sb s) (K + 1) R) := hLR
          have HPR : Hid (Ex.prec (Ex.iAt (sb s) K) = 2) := hpr
          have hway : (Ex.iAt (sb s) K == 42) = true ∨ ((Ex.iAt (sb s) K == 42) = false ∧ (Ex.iAt (sb s) K == 47) = true) := by
            rcases hop with h | h
            · exact .inl (by simpa using h)
            · exact .inr ⟨by simp; omega, by simpa using h⟩
          clear hR hLR hpr hsy hop HO HX HN hKl
          rcases hway with y1 | ⟨y1, y2⟩
          all_goals
            go_wp2_with fail
            refine (HA.out (K + 1) (by omega) (by omega) R w2 HLR.out).mono ?_
            rintro e w3 ⟨⟨u, k, d, rfl, hr⟩, hw⟩
            subst hw
            rcases hr with ⟨rfl, hf⟩ | ⟨K2, rest2, rfl, hK2, hKK, hd2, hu, hok, hlx, -, -⟩
            · have HF : Hid (FailAt 2 T) := FailAt.after HO2.out HPR.out (by omega) (show (2 : Int) < 3 by omega) hf
              clear hf
              go_wp2_with fail
              go_ret3
              exact ⟨⟨_, _, _, rfl, .inl ⟨rfl, HF.out⟩⟩, rfl⟩
            · have dd : (d == 2) = false := by simpa using hd2
              have hjok := OkAt.join HO2.out HPR.out (by omega) (show (2 : Int) < 3 by omega) hok
              have hjn : (jn (Ex.iAt (sb s) K) V C u d).2 ≠ 2 := by obtain ⟨_, _, _, _, _, _, h, _⟩ := hjok; exact h
              have hji : Ex.inI (jn (Ex.iAt (sb s) K) V C u d).1 := jn_in
              obtain ⟨r, hr⟩ : ∃ r, jn (Ex.iAt (sb s) K) V C u d = r := ⟨_, rfl⟩
              rw [hr] at hjok hjn hji
              obtain ⟨V2, C2⟩ := r
              have HJ : Hid (OkAt 2 T V2 C2 rest2) := hjok
              have HR : Hid (jn (Ex.iAt (sb s) K) V C u d = (V2, C2)) := hr
              have HLX : Hid (Lx (sb s) K2 rest2) := hlx
              clear hjok hok hlx hr
              go_wp2_with fail
              refine (fjoin_any _ V C u d w3 hV hu).mono ?_
              rintro e w4 ⟨rfl, hw⟩
              subst hw
              rw [HR.out]
              go_wp2_with fail
              refine (fskip_any s K2 rest2 w4 hs hK2 HLX.out).mono ?_
              rintro e w5 ⟨⟨J5, rfl, hJ5, hJ5s, hlx5, hnb5⟩, hw⟩
              subst hw
              have HLX5 : Hid (Lx (sb s) J5 rest2) := hlx5
              have HNB5 : Hid (NB (sb s) J5) := hnb5
              clear hlx5 hnb5
              go_wp2_with fail
              go_round
              case rel => exact ⟨V2, J5, C2, rest2, rfl, rfl, rfl, by omega, hJ5s, hjn, hji, HJ, HLX5, HNB5⟩
              case measure => simp [intOf]; omega
        · have y1 : (Ex.iAt (sb s) K == 42) = false := by simp; omega
          have y2 : (Ex.iAt (sb s) K == 47) = false := by simp; omega
          have HST : Hid (∀ t, rest.head? = some t → Ex.prec t.1 ≠ 2) := fun t ht => by
            obtain ⟨x, r, e⟩ := HX.out.head hlt HN.out
            rw [e] at ht
            simp at ht
            subst ht
            simp only
            split
            · rcases Ex.prec_cases (Ex.iAt (sb s) K) with ⟨h, _⟩ | ⟨_, h⟩ | ⟨h, _⟩
              · omega
              · exact absurd h hop
              · omega
            · simp [Ex.prec]
          clear hop
          go_wp2_with fail
          go_ret3
          exact ⟨⟨_, _, _, rfl, .inr ⟨K, rest, rfl, hK, hiK, hC2, hV, HO.out, HX.out, fun _ => HN.out, HST.out⟩⟩, rfl⟩
      · have hd : decide ((K : Int) < (s.size : Int)) = false := decide_eq_false (by omega)
        have HST : Hid (∀ t, rest.head? = some t → Ex.prec t.1 ≠ 2) := fun t ht => by
          rw [HX.out.fin (by have := HS.out; omega)] at ht; cases ht
        go_wp2_with fail
        go_ret3
        exact ⟨⟨_, _, _, rfl, .inr ⟨K, rest, rfl, hK, hiK, hC2, hV, HO.out, HX.out, fun _ => HN.out, HST.out⟩⟩, rfl⟩
set_option maxRecDepth 100000 in
set_option maxHeartbeats 4000000 in
theorem sum_of (s : ByteArray) (i : Nat) (hs : s.size ≤ 100000) (hi : i ≤ s.size) (hA : ∀ i', i ≤ i' → i' ≤ s.size → ProdC s i') : SumC s i := by
  intro T w hL
  have HA : Hid (∀ i', i ≤ i' → i' ≤ s.size → ProdC s i') := hA
  have HL : Hid (Lx (sb s) i T) := hL
  have HS : Hid ((sb s).length = s.size) := sb_len s
  have hsb := sb_at s
  clear hA hL
  go_enter Ybum.func18, Ybum.ntmps18
  go_wp2_with fail
  refine (HA.out i (by omega) hi T w HL.out).mono ?_
  rintro e w1 ⟨⟨v, j, c, rfl, hr⟩, hw⟩
  subst hw
  rcases hr with ⟨rfl, hf⟩ | ⟨J, rest, rfl, hJ, hiJ, hc2, hv, hok, hlx, hnb, hst⟩
  · have HF : Hid (FailAt 1 T) := hf.mono (by omega)
    clear hf
    go_wp2_with fail
    go_ret3
    exact ⟨⟨_, _, _, rfl, .inl ⟨rfl, HF.out⟩⟩, rfl⟩
  · have dc : (c == 2) = false := by simpa using hc2
    have HOK : Hid (OkAt 1 T v c rest) := hok.mono (by omega)
    have HLX : Hid (Lx (sb s) J rest) := hlx
    clear hok hlx
    have HLX2 := HLX
    have HNB2 : Hid (NB (sb s) J) := hnb rfl
    have HST2 : Hid (∀ t, rest.head? = some t → Ex.prec t.1 ≠ 2) := hst
    clear hnb hst HLX
    go_wp2_with fail
    go_loop [7, 8, 9, 10, 11, 12, 13] (fun v j c _ _ _ _ => ∃ (V : Int) (J : Nat) (C : Int) (rest : List Tk), v = .int .i64 V ∧ j = .int .i64 J ∧ c = .int .i64 C ∧ i < J ∧ J ≤ s.size ∧ C ≠ 2 ∧ Ex.inI V ∧ Hid (OkAt 1 T V C rest) ∧ Hid (Lx (sb s) J rest) ∧ Hid (NB (sb s) J) ∧ Hid (∀ t, rest.head? = some t → Ex.prec t.1 ≠ 2)) (fun _ j _ _ _ _ _ => s.size - (intOf j).toNat)
    case atStart => exact ⟨v, J, c, rest, rfl, rfl, rfl, hiJ, hJ, hc2, hv, HOK, HLX2, HNB2, HST2⟩
    case round =>
      clear HOK HLX2 HNB2 HST2 hJ hiJ hc2 hv dc
      obtain ⟨V, K, C, rest, rfl, rfl, rfl, hiK, hK, hC2, hV, HO, HX, HN, HQ⟩ := hrel
      by_cases hlt : K < s.size
      · have hKi : (K : Int) < (s.size : Int) := by omega
        have hK0 : (0 : Int) ≤ (K : Int) := by omega
        have hKl : K < (sb s).length := by have := HS.out; omega
        by_cases hop : Ex.iAt (sb s) K = 43 ∨ Ex.iAt (sb s) K = 45
        · have hsy : isSym (Ex.iAt (sb s) K) = true := by rcases hop with h | h <;> rw [h] <;> decide
          have hpr : Ex.prec (Ex.iAt (sb s) K) = 1 := by rcases hop with h | h <;> rw [h] <;> decide
          obtain ⟨R, hR, hLR⟩ := HX.out.sym hKl hsy
          have HO2 : Hid (OkAt 1 T V C ((Ex.iAt (sb s) K, 0) :: R)) := by rw [← hR]; exact HO.out
          have HLR : Hid (Lx (sb s) (K + 1) R) := hLR
          have HPR : Hid (Ex.prec (Ex.iAt (sb s) K) = 1) := hpr
          have hway : (Ex.iAt (sb s) K == 43) = true ∨ ((Ex.iAt (sb s) K == 43) = false ∧ (Ex.iAt (sb s) K == 45) = true) := by
            rcases hop with h | h
            · exact .inl (by simpa using h)
            · exact .inr ⟨by simp; omega, by simpa using h⟩
          clear hR hLR hpr hsy hop HO HX HN hKl
          rcases hway with y1 | ⟨y1, y2⟩
          all_goals
            go_wp2_with fail
            refine (HA.out (K + 1) (by omega) (by omega) R w1 HLR.out).mono ?_
            rintro e w3 ⟨⟨u, k, d, rfl, hr⟩, hw⟩
            subst hw
            rcases hr with ⟨rfl, hf⟩ | ⟨K2, rest2, rfl, hK2, hKK, hd2, hu, hok, hlx, hnb5, hst5⟩
            · have HF : Hid (FailAt 1 T) := FailAt.after HO2.out HPR.out (by omega) (show (1 : Int) < 2 by omega) hf
              clear hf
              go_wp2_with fail
              go_ret3
              exact ⟨⟨_, _, _, rfl, .inl ⟨rfl, HF.out⟩⟩, rfl⟩
            · have dd : (d == 2) = false := by simpa using hd2
              have hjok := OkAt.join HO2.out HPR.out (by omega) (show (1 : Int) < 2 by omega) hok
              have hjn : (jn (Ex.iAt (sb s) K) V C u d).2 ≠ 2 := by obtain ⟨_, _, _, _, _, _, h, _⟩ := hjok; exact h
              have hji : Ex.inI (jn (Ex.iAt (sb s) K) V C u d).1 := jn_in
              obtain ⟨r, hr⟩ : ∃ r, jn (Ex.iAt (sb s) K) V C u d = r := ⟨_, rfl⟩
              rw [hr] at hjok hjn hji
              obtain ⟨V2, C2⟩ := r
              have HJ : Hid (OkAt 1 T V2 C2 rest2) := hjok
              have HR : Hid (jn (Ex.iAt (sb s) K) V C u d = (V2, C2)) := hr
              have HLX : Hid (Lx (sb s) K2 rest2) := hlx
              clear hjok hok hlx hr
              go_wp2_with fail
              refine (fjoin_any _ V C u d w3 hV hu).mono ?_
              rintro e w4 ⟨rfl, hw⟩
              subst hw
              rw [HR.out]
              go_wp2_with fail
              go_round
              case rel => exact ⟨V2, K2, C2, rest2, rfl, rfl, rfl, by omega, hK2, hjn, hji, HJ, HLX, hnb5 (by first | rfl | trivial), hst5⟩
              case measure => simp [intOf]; omega
        · have y1 : (Ex.iAt (sb s) K == 43) = false := by simp; omega
          have y2 : (Ex.iAt (sb s) K == 45) = false := by simp; omega
          have HST : Hid (∀ t, rest.head? = some t → Ex.prec t.1 = 0) := fun t ht => by
            obtain ⟨x, r, e⟩ := HX.out.head hlt HN.out
            rw [e] at ht
            simp at ht
            subst ht
            simp only
            split
            · have h2 := HQ.out _ (by rw [e]; rfl)
              simp only at h2
              split at h2
              · rcases Ex.prec_cases (Ex.iAt (sb s) K) with ⟨_, h⟩ | ⟨h, _⟩ | ⟨h, _⟩
                · exact absurd h hop
                · exact absurd h h2
                · exact h
              · rename_i hx hy; exact absurd hx hy
            · simp [Ex.prec]
          clear hop
          go_wp2_with fail
          go_ret3
          exact ⟨⟨_, _, _, rfl, .inr ⟨K, rest, rfl, hK, hiK, hC2, hV, HO.out, HX.out, fun _ => HN.out, HST.out⟩⟩, rfl⟩
      · have hd : decide ((K : Int) < (s.size : Int)) = false := decide_eq_false (by omega)
        have HST : Hid (∀ t, rest.head? = some t → Ex.prec t.1 = 0) := fun t ht => by
          rw [HX.out.fin (by have := HS.out; omega)] at ht; cases ht
        go_wp2_with fail
        go_ret3
        exact ⟨⟨_, _, _, rfl, .inr ⟨K, rest, rfl, hK, hiK, hC2, hV, HO.out, HX.out, fun _ => HN.out, HST.out⟩⟩, rfl⟩
end Go.Proofs.Ymbrbu
