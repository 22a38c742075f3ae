import Derived.Test.YmbrbuFGramWalk4
set_option linter.unusedVariables false
set_option linter.unusedSimpArgs false
set_option linter.unnecessarySimpa false
namespace Go.Proofs.Ymbrbu
open Go.RowKit

theorem ft_ix0 (w : World) : (Instr.index 9 (.string { data := #[49, 43, 50, 42, 40, 51, 41, 45, 48, 47, 32, 57, 120, 52, 53, 54, 55, 56, 9] }) (.int .i64 0)).run Ybum.prog w = .ok (.int .u8 49) w := by kernel_rfl
theorem ft_ix1 (w : World) : (Instr.index 9 (.string { data := #[49, 43, 50, 42, 40, 51, 41, 45, 48, 47, 32, 57, 120, 52, 53, 54, 55, 56, 9] }) (.int .i64 1)).run Ybum.prog w = .ok (.int .u8 43) w := by kernel_rfl
theorem ft_ix2 (w : World) : (Instr.index 9 (.string { data := #[49, 43, 50, 42, 40, 51, 41, 45, 48, 47, 32, 57, 120, 52, 53, 54, 55, 56, 9] }) (.int .i64 2)).run Ybum.prog w = .ok (.int .u8 50) w := by kernel_rfl
theorem ft_ix3 (w : World) : (Instr.index 9 (.string { data := #[49, 43, 50, 42, 40, 51, 41, 45, 48, 47, 32, 57, 120, 52, 53, 54, 55, 56, 9] }) (.int .i64 3)).run Ybum.prog w = .ok (.int .u8 42) w := by kernel_rfl
theorem ft_ix4 (w : World) : (Instr.index 9 (.string { data := #[49, 43, 50, 42, 40, 51, 41, 45, 48, 47, 32, 57, 120, 52, 53, 54, 55, 56, 9] }) (.int .i64 4)).run Ybum.prog w = .ok (.int .u8 40) w := by kernel_rfl
theorem ft_ix5 (w : World) : (Instr.index 9 (.string { data := #[49, 43, 50, 42, 40, 51, 41, 45, 48, 47, 32, 57, 120, 52, 53, 54, 55, 56, 9] }) (.int .i64 5)).run Ybum.prog w = .ok (.int .u8 51) w := by kernel_rfl
theorem ft_ix6 (w : World) : (Instr.index 9 (.string { data := #[49, 43, 50, 42, 40, 51, 41, 45, 48, 47, 32, 57, 120, 52, 53, 54, 55, 56, 9] }) (.int .i64 6)).run Ybum.prog w = .ok (.int .u8 41) w := by kernel_rfl
theorem ft_ix7 (w : World) : (Instr.index 9 (.string { data := #[49, 43, 50, 42, 40, 51, 41, 45, 48, 47, 32, 57, 120, 52, 53, 54, 55, 56, 9] }) (.int .i64 7)).run Ybum.prog w = .ok (.int .u8 45) w := by kernel_rfl
theorem ft_ix8 (w : World) : (Instr.index 9 (.string { data := #[49, 43, 50, 42, 40, 51, 41, 45, 48, 47, 32, 57, 120, 52, 53, 54, 55, 56, 9] }) (.int .i64 8)).run Ybum.prog w = .ok (.int .u8 48) w := by kernel_rfl
theorem ft_ix9 (w : World) : (Instr.index 9 (.string { data := #[49, 43, 50, 42, 40, 51, 41, 45, 48, 47, 32, 57, 120, 52, 53, 54, 55, 56, 9] }) (.int .i64 9)).run Ybum.prog w = .ok (.int .u8 47) w := by kernel_rfl
theorem ft_ix10 (w : World) : (Instr.index 9 (.string { data := #[49, 43, 50, 42, 40, 51, 41, 45, 48, 47, 32, 57, 120, 52, 53, 54, 55, 56, 9] }) (.int .i64 10)).run Ybum.prog w = .ok (.int .u8 32) w := by kernel_rfl
theorem ft_ix11 (w : World) : (Instr.index 9 (.string { data := #[49, 43, 50, 42, 40, 51, 41, 45, 48, 47, 32, 57, 120, 52, 53, 54, 55, 56, 9] }) (.int .i64 11)).run Ybum.prog w = .ok (.int .u8 57) w := by kernel_rfl
theorem ft_ix12 (w : World) : (Instr.index 9 (.string { data := #[49, 43, 50, 42, 40, 51, 41, 45, 48, 47, 32, 57, 120, 52, 53, 54, 55, 56, 9] }) (.int .i64 12)).run Ybum.prog w = .ok (.int .u8 120) w := by kernel_rfl
theorem ft_ix13 (w : World) : (Instr.index 9 (.string { data := #[49, 43, 50, 42, 40, 51, 41, 45, 48, 47, 32, 57, 120, 52, 53, 54, 55, 56, 9] }) (.int .i64 13)).run Ybum.prog w = .ok (.int .u8 52) w := by kernel_rfl
theorem ft_ix14 (w : World) : (Instr.index 9 (.string { data := #[49, 43, 50, 42, 40, 51, 41, 45, 48, 47, 32, 57, 120, 52, 53, 54, 55, 56, 9] }) (.int .i64 14)).run Ybum.prog w = .ok (.int .u8 53) w := by kernel_rfl
theorem ft_ix15 (w : World) : (Instr.index 9 (.string { data := #[49, 43, 50, 42, 40, 51, 41, 45, 48, 47, 32, 57, 120, 52, 53, 54, 55, 56, 9] }) (.int .i64 15)).run Ybum.prog w = .ok (.int .u8 54) w := by kernel_rfl
theorem ft_ix16 (w : World) : (Instr.index 9 (.string { data := #[49, 43, 50, 42, 40, 51, 41, 45, 48, 47, 32, 57, 120, 52, 53, 54, 55, 56, 9] }) (.int .i64 16)).run Ybum.prog w = .ok (.int .u8 55) w := by kernel_rfl
theorem ft_ix17 (w : World) : (Instr.index 9 (.string { data := #[49, 43, 50, 42, 40, 51, 41, 45, 48, 47, 32, 57, 120, 52, 53, 54, 55, 56, 9] }) (.int .i64 17)).run Ybum.prog w = .ok (.int .u8 56) w := by kernel_rfl
theorem ft_ix18 (w : World) : (Instr.index 9 (.string { data := #[49, 43, 50, 42, 40, 51, 41, 45, 48, 47, 32, 57, 120, 52, 53, 54, 55, 56, 9] }) (.int .i64 18)).run Ybum.prog w = .ok (.int .u8 9) w := by kernel_rfl
def ftab (k : Int) : Int := [49, 43, 50, 42, 40, 51, 41, 45, 48, 47, 32, 57, 120, 52, 53, 54, 55, 56, 9].getD (k % 19).toNat 0
theorem ftab_byte (k : Int) : 0 ≤ ftab k ∧ ftab k ≤ 255 := by
  have h : k % 19 = 0 ∨ k % 19 = 1 ∨ k % 19 = 2 ∨ k % 19 = 3 ∨ k % 19 = 4 ∨ k % 19 = 5 ∨ k % 19 = 6 ∨ k % 19 = 7 ∨ k % 19 = 8 ∨ k % 19 = 9 ∨ k % 19 = 10 ∨ k % 19 = 11 ∨ k % 19 = 12 ∨ k % 19 = 13 ∨ k % 19 = 14 ∨ k % 19 = 15 ∨ k % 19 = 16 ∨ k % 19 = 17 ∨ k % 19 = 18 := by omega
  unfold ftab
  rcases h with h | h | h | h | h | h | h | h | h | h | h | h | h | h | h | h | h | h | h <;> rw [h] <;> decide
theorem ftab_index (k : Int) (w : World) : (Instr.index 9 (.string { data := #[49, 43, 50, 42, 40, 51, 41, 45, 48, 47, 32, 57, 120, 52, 53, 54, 55, 56, 9] }) (.int .i64 (k % 19))).run Ybum.prog w = .ok (.int .u8 (ftab k)) w := by
  have h : k % 19 = 0 ∨ k % 19 = 1 ∨ k % 19 = 2 ∨ k % 19 = 3 ∨ k % 19 = 4 ∨ k % 19 = 5 ∨ k % 19 = 6 ∨ k % 19 = 7 ∨ k % 19 = 8 ∨ k % 19 = 9 ∨ k % 19 = 10 ∨ k % 19 = 11 ∨ k % 19 = 12 ∨ k % 19 = 13 ∨ k % 19 = 14 ∨ k % 19 = 15 ∨ k % 19 = 16 ∨ k % 19 = 17 ∨ k % 19 = 18 := by omega
  unfold ftab
  rcases h with h | h | h | h | h | h | h | h | h | h | h | h | h | h | h | h | h | h | h
  · rw [h]; exact ft_ix0 w
  · rw [h]; exact ft_ix1 w
  · rw [h]; exact ft_ix2 w
  · rw [h]; exact ft_ix3 w
  · rw [h]; exact ft_ix4 w
  · rw [h]; exact ft_ix5 w
  · rw [h]; exact ft_ix6 w
  · rw [h]; exact ft_ix7 w
  · rw [h]; exact ft_ix8 w
  · rw [h]; exact ft_ix9 w
  · rw [h]; exact ft_ix10 w
  · rw [h]; exact ft_ix11 w
  · rw [h]; exact ft_ix12 w
  · rw [h]; exact ft_ix13 w
  · rw [h]; exact ft_ix14 w
  · rw [h]; exact ft_ix15 w
  · rw [h]; exact ft_ix16 w
  · rw [h]; exact ft_ix17 w
  · rw [h]; exact ft_ix18 w

set_option maxRecDepth 100000 in
set_option maxHeartbeats 8000000 in
theorem fgrammar_any (s : ByteArray) (a : Option Addr) (n cap : Nat) (rs : List Int) (sp : Bool) (w : World) (hs : s.size ≤ maxLen) (ht : Ints .u8 w a n cap rs) (hrb : ∀ c ∈ rs, 0 ≤ c ∧ c ≤ 255) :
    Calls Ybum.prog 4 #[.string s, .slice a n cap, .bool sp] w fun e w' => e = .returned (.bool true) ∧ Below w.heap.size w w' := by
  have hnc := ht.2.1
  have hcm := ht.2.2.1
  unfold maxLen at hcm hs
  have HT : Hid (Ints .u8 w a n cap rs) := ht
  have HRB : Hid (∀ c ∈ rs, 0 ≤ c ∧ c ≤ 255) := hrb
  have HLN : Hid (rs.length = n) := ht.1
  clear ht hrb
  by_cases hb0 : 1024 < s.size
  · go_enter Ybum.func4, Ybum.ntmps4
    go_wp2_with fail
    go_ret
    exact ⟨rfl, Below.refl _ _⟩
  have d0 : decide ((1024 : Int) < (s.size : Int)) = false := decide_eq_false (by omega)
  by_cases hb1 : 1024 < n
  · go_enter Ybum.func4, Ybum.ntmps4
    go_wp2_with fail
    go_ret
    exact ⟨rfl, Below.refl _ _⟩
  have d1 : decide ((1024 : Int) < (n : Int)) = false := decide_eq_false (by omega)
  go_enter Ybum.func4, Ybum.ntmps4
  go_upto_if 27 with fail
  go_cut [7, 8, 9, 10, 11] from 27 to 49 (fun t _ _ _ _ wq => (∃ x : ByteArray, t = .string x ∧ x.size ≤ 1024) ∧ Below w.heap.size w wq)
  case first =>
    cases sp
    · go_wp2_with fail
      go_meet
      case rel => exact ⟨⟨s, rfl, by omega⟩, Below.refl _ _⟩
    · go_wp2_with (first
        | (at_make; refine make_int _ 22 5 .u8 1 Ybum.underlying22 Ybum.infoU8 (by omega) rfl _ (.tmp 29) rfl w.heap.size _ _ _ _ 0 n rfl rfl rfl (by omega) (by omega) (by omega) (by omega) ?_; intro w1 hown1 hb1' hlt1))
      go_loopw [9, 11, 33] (fun u _ i wr => ∃ (k : Nat) (X : List Int), k ≤ n ∧ i = .int .i64 k ∧ X.length = k ∧ Hid (∀ c ∈ X, 0 ≤ c ∧ c ≤ 255) ∧ OwnB wr w.heap.size u X ∧ Below w.heap.size w wr) (fun _ _ i _ => n - (intOf i).toNat)
      case atStart => exact ⟨0, [], by omega, rfl, rfl, (fun c hc => by cases hc), by simpa using hown1, hb1'⟩
      case round =>
        obtain ⟨k, X, hk, rfl, hXk, HX, hu, hb⟩ := hrel
        clear hown1 hb1' hlt1
        have hB := hb.size
        by_cases hlt : k < n
        · obtain ⟨b, off, rfl, hc⟩ := (HT.out.below hb).2.2.2 (by omega)
          have c1 := hc k hlt
          obtain ⟨o1, o2⟩ := HRB.out _ (Ex.iAt_mem rs k (by have := HLN.out; omega))
          generalize Ex.iAt rs k = r at c1 o1 o2
          have hix := ftab_index r
          have hfb := ftab_byte r
          have hkn : (k : Int) < (n : Int) := by omega
          clear hc
          go_wp2_with (first
            | (at_builtin; go_must (refine app_int _ 22 5 .u8 1 Ybum.underlying22 Ybum.infoU8 (by omega) rfl (.tmp 37) (.tmp 45) rfl w.heap.size _ X rfl (hu.alloc _) _ (ftab r) rfl (by simp) (by omega) (by simp; omega) ?_; intro u2 w2 hu2 huo hgr2)))
          go_roundw
          case rel => exact ⟨k + 1, X ++ [ftab r], by omega, by go_num, by simp [hXk], (fun c hc => by
            rcases List.mem_append.1 hc with h | h
            · exact HX.out c h
            · simp at h; subst h; exact hfb), hu2, below_app hb hB hu.baseLe hgr2.after_alloc⟩
          case measure => simp [intOf]; omega
        · have hkd : decide ((k : Int) < (n : Int)) = false := decide_eq_false (by omega)
          obtain ⟨a3, c3, rfl, _, _⟩ := hu.shape
          obtain ⟨sx, hcx, hsx, hsxz⟩ := conv_own hu HX.out
          rw [hXk] at hcx hsxz ⊢
          have hsz : sx.size ≤ 1024 := by omega
          clear hsx hsxz hu hXk
          go_wp2_with fail
          go_meet
          case rel => exact ⟨⟨sx, rfl, hsz⟩, hb⟩
  case rest =>
    obtain ⟨⟨x, rfl, hx⟩, hb⟩ := hcut
    obtain ⟨V, hV⟩ : ∃ V, evS (sb x) = V := ⟨_, rfl⟩
    obtain ⟨V, C⟩ := V
    have HV : Hid (evS (sb x) = (V, C)) := hV
    clear hV d0 d1
    have hB := hb.size
    go_wp2_with fail
    refine (eval_any x V C wc (by omega) HV.out).mono ?_
    rintro e w1 ⟨rfl, hb1'⟩
    have hxb : Below w.heap.size w w1 := hb.trans (hb1'.mono hB)
    go_wp2_with fail
    refine (flex_any x w1 (by omega)).mono ?_
    rintro e w2 ⟨rfl, hw⟩
    subst hw
    obtain ⟨R, hR⟩ : ∃ R, bz (sb x) [] none = R := ⟨_, rfl⟩
    obtain ⟨L, T⟩ := R
    rw [hR]
    have HR : Hid (bz (sb x) [] none = (L, T)) := hR
    clear hR
    by_cases hL : L = 0
    · subst hL
      have HLX : Hid (Lx (sb x) 0 T) := HR.out
      go_wp2_with fail
      refine (sum_any x (by omega) 0 (by omega) T w2 HLX.out).mono ?_
      rintro e w3 ⟨⟨v, j, c, rfl, hr⟩, hw⟩
      subst hw
      rcases hr with ⟨rfl, hf⟩ | ⟨K, rest, rfl, hK, hJK, hc2, hv, hok, hlx, hnb, hst⟩
      · have hev := gram_fail HR.out hf
        rw [HV.out] at hev
        cases hev
        clear hf HV
        go_wp2_with fail
        go_ret
        exact ⟨rfl, hxb⟩
      · have dc : (c == 2) = false := by simpa using hc2
        by_cases hKl : K < x.size
        · have hKi : (K : Int) < (x.size : Int) := by omega
          have hne : rest ≠ [] := fun e => by
            obtain ⟨y, r, e'⟩ := Lx.head hlx hKl (hnb (by first | rfl | trivial))
            rw [e] at e'; cases e'
          have hev := gram_rest HR.out hok hst hne
          rw [HV.out] at hev
          cases hev
          clear hok hlx hnb hst hne HV
          go_wp2_with fail
          go_ret
          exact ⟨rfl, hxb⟩
        · have hKd : decide ((K : Int) < (x.size : Int)) = false := decide_eq_false (by omega)
          have hrest : rest = [] := hlx.fin (by rw [sb_len]; omega)
          rw [hrest] at hok
          have hev := gram_ok HR.out hok
          rw [HV.out] at hev
          cases hev
          have e1 : (V == V) = true := by simp
          have e2 : (C == C) = true := by simp
          clear hok hlx hnb hst HV
          go_wp2_with fail
          go_ret
          exact ⟨rfl, hxb⟩
    · have dL : (L != 0) = true := by simpa using hL
      have hev : evS (sb x) = (0, L) := evS_bad HR.out hL
      rw [HV.out] at hev
      cases hev
      have e2 : (C == C) = true := by simp
      clear HV hL
      go_wp2_with fail
      go_ret
      exact ⟨rfl, hxb⟩
end Go.Proofs.Ymbrbu
