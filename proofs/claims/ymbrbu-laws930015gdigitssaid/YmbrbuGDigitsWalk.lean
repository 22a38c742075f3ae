import Derived.Test.YmbrbuGTail
import Derived.Test.YmbrbuGvWalk
set_option linter.unusedVariables false
set_option linter.unusedSimpArgs false
set_option linter.unnecessarySimpa false
namespace Go.Proofs.Ymbrbu
open Go.RowKit

def dmap (ds : List Int) : List Int := ds.map fun d => 48 + d % 10
theorem dmap_dig (ds : List Int) : ∀ c ∈ dmap ds, 48 ≤ c ∧ c ≤ 57 := fun c hc => by
  obtain ⟨d, _, rfl⟩ := List.mem_map.1 hc
  omega

set_option maxRecDepth 100000 in
set_option maxHeartbeats 4000000 in
theorem gdigits_any (pre post : ByteArray) (a : Option Addr) (n cap : Nat) (ds : List Int) (w : World) (hs1 : pre.size ≤ maxLen) (ht : Ints .u8 w a n cap ds) (hdb : ∀ c ∈ ds, 0 ≤ c ∧ c ≤ 255) (hs2 : post.size ≤ maxLen) :
    Calls Ybum.prog 8 #[.string pre, .slice a n cap, .string post] w fun e w' => e = .returned (.bool true) ∧ Below w.heap.size w w' := by
  have hnc := ht.2.1
  have hcm := ht.2.2.1
  unfold maxLen at hcm hs1 hs2
  have T0 : Hid (Ints .u8 w a n cap ds) := ht
  have DB : Hid (∀ c ∈ ds, 0 ≤ c ∧ c ≤ 255) := hdb
  clear ht hdb
  by_cases hb0 : 1024 < pre.size
  · go_enter Ybum.func8, Ybum.ntmps8
    go_wp2_with fail
    go_ret
    exact ⟨rfl, Below.refl _ _⟩
  have d0 : decide ((1024 : Int) < (pre.size : Int)) = false := by simp; omega
  by_cases hb1 : 1024 < n
  · go_enter Ybum.func8, Ybum.ntmps8
    go_wp2_with fail
    go_ret
    exact ⟨rfl, Below.refl _ _⟩
  have d1 : decide ((1024 : Int) < (n : Int)) = false := by simp; omega
  by_cases hb2 : 1024 < post.size
  · go_enter Ybum.func8, Ybum.ntmps8
    go_wp2_with fail
    go_ret
    exact ⟨rfl, Below.refl _ _⟩
  have d2 : decide ((1024 : Int) < (post.size : Int)) = false := by simp; omega
  go_enter Ybum.func8, Ybum.ntmps8
  go_wp2_with (first
    | (at_make; refine make_int _ 22 5 .u8 1 Ybum.underlying22 Ybum.infoU8 (by omega) rfl _ (.tmp 29) rfl w.heap.size _ _ _ _ 0 n rfl rfl rfl (by omega) (by omega) (by omega) (by omega) ?_; intro w1 hown1 hb1 hlt1))
  go_loopw [7, 8] (fun u i wr => ∃ (k : Nat), k ≤ n ∧ i = .int .i64 k ∧ OwnB wr w.heap.size u (dmap (ds.take k)) ∧ Below w.heap.size w wr) (fun _ i _ => n - (intOf i).toNat)
  case atStart => exact ⟨0, by omega, rfl, by simpa [dmap] using hown1, hb1⟩
  case round =>
    obtain ⟨k, hk, rfl, hu, hb⟩ := hrel
    clear hown1 hb1 hlt1
    have hB := hb.size
    have hdl := T0.out.1
    by_cases hlt : k < n
    · obtain ⟨b, off, rfl, hc⟩ := (T0.out.below hb).2.2.2 (by omega)
      have c1 := hc k hlt
      obtain ⟨e1, e2⟩ := DB.out _ (Ex.iAt_mem ds k (by omega))
      have hlk : (dmap (ds.take k)).length = k := by simp [dmap]; omega
      have HS : Hid (dmap (ds.take (k + 1)) = dmap (ds.take k) ++ [48 + Ex.iAt ds k % 10]) := by
        show _ = _
        rw [Ex.itake_at ds k (by omega)]; simp [dmap]
      clear hc hdl
      go_wp2_with (first
        | (at_builtin; go_must (refine app_int _ 22 5 .u8 1 Ybum.underlying22 Ybum.infoU8 (by omega) rfl (.tmp 37) (.tmp 44) rfl w.heap.size _ (dmap (ds.take k)) rfl (hu.alloc _) _ (48 + Ex.iAt ds k % 10) rfl (by simp) (by omega) (by simp; omega) ?_; intro u2 w2 hu2 huo hgr2)))
      go_roundw
      case rel => exact ⟨k + 1, by omega, by go_num, by rw [HS.out]; exact hu2, below_app hb hB hu.baseLe hgr2.after_alloc⟩
      case measure => simp [intOf]; omega
    · have hkd : decide ((k : Int) < (n : Int)) = false := by simp; omega
      rw [List.take_of_length_le (by omega)] at hu
      have hRl : (dmap ds).length = n := by simp [dmap, hdl]
      have hRd := dmap_dig ds
      generalize dmap ds = R at hu hRl hRd
      have HRD : Hid (∀ c ∈ R, 48 ≤ c ∧ c ≤ 57) := hRd
      have HRL : Hid (R.length = n) := hRl
      obtain ⟨au, cu, rfl, hnu, _⟩ := hu.shape
      rw [hRl] at hu ⊢
      have hub : Hid (Ints .u8 wr au n cu R) := hu.intsAt
      obtain ⟨sr, hcv, hsr, hsrz⟩ := conv_own hu (fun c hc => by have := hRd c hc; omega)
      have hcu := hu.len
      unfold maxLen at hcu
      obtain ⟨_, hcu1, hcu2⟩ := hcu
      have HPL : Hid ((sb pre).length = pre.size) := sb_len pre
      have HPB : Hid (∀ c ∈ sb pre, 0 ≤ c ∧ c ≤ 255) := sb_byte pre
      have HU : Hid (OwnB wr w.heap.size (.slice au n cu) R) := hu
      clear hdl hRd hRl hu hcv hsr hsrz
      go_wp2_with (first
        | (at_make; refine make_int _ 22 5 .u8 1 Ybum.underlying22 Ybum.infoU8 (by omega) rfl _ (.tmp 54) rfl wr.heap.size _ _ _ _ 0 (pre.size + n + post.size + 1) rfl rfl rfl (by omega) (by omega) (by omega) (by omega) ?_; intro w3 hown3 hb3 hlt3)
        | (at_builtin; refine app_str _ rfl (.tmp 56) (.tmp 57) rfl wr.heap.size _ (List.replicate 0 0) rfl hown3 pre rfl (by simp; omega) (by omega) ?_; intro v4 w4 hown4 hold4 hgr4; have hb4 := below_app hb3 hb3.size hown3.baseLe hgr4; have hs4 := hb4.size; simp only [List.replicate_zero, List.nil_append] at hown4)
        | (at_builtin; refine app_ints _ 22 5 .u8 1 Ybum.underlying22 Ybum.infoU8 (by omega) rfl (.tmp 59) (.tmp 60) rfl wr.heap.size _ (sb pre) rfl hown4 _ _ _ R rfl hnu (hub.out.below hb4) (by have := HPL.out; have := HRL.out; omega) (by omega) ?_; intro v5 w5 hown5 hold5 hgr5; have hb5 := below_app hb4 hb4.size hown4.baseLe hgr5; have hs5 := hb5.size))
      refine (gtail_any wr.heap.size _ (sb pre ++ R) post _ hown5 (by omega) (by have := HPL.out; have := HRL.out; rw [List.length_append]; omega) (by omega)).mono ?_
      rintro e w6 ⟨v6, T, rfl, hown6, hgr6, hT1, hT2, hT3⟩
      have hb6 := below_app hb5 hb5.size hown5.baseLe hgr6
      obtain ⟨L, hL⟩ : ∃ L, L = sb pre ++ R ++ T := ⟨_, rfl⟩
      rw [← hL] at hown6
      obtain ⟨a6, c6, rfl, _, _⟩ := hown6.shape
      obtain ⟨sx, hcx, hsx, hsxz⟩ := conv_own hown6 (fun c hc => by
        rw [hL] at hc
        rcases List.mem_append.1 hc with h | h
        · rcases List.mem_append.1 h with h | h
          · exact HPB.out c h
          · have := HRD.out c h; omega
        · exact hT3 c h)
      have HRUN : Hid (Ex.runAt (sb sx) pre.size = R) := by
        show _ = _
        rw [hsx, hL, ← HPL.out]
        exact Ex.run_mid (sb pre) R T HRD.out hT1
      have hxz : sx.size ≤ maxLen := by rw [hsxz, hL]; have := HPL.out; have := HRL.out; unfold maxLen; rw [List.length_append, List.length_append]; omega
      clear hL
      have HXZ : Hid (sx.size ≤ maxLen) := hxz
      have hbw : Below w.heap.size w w6 := hb.trans (hb6.mono hB)
      obtain ⟨sr, hcv, hsr, hsrz⟩ := conv_own (OwnI.below HU.out hb6) (fun c hc => by have := HRD.out c hc; omega)
      have HSR : Hid (sb sr = R) := hsr
      have HSRZ : Hid (sr.size ≤ maxLen) := by show _ ≤ _; rw [hsrz]; unfold maxLen; omega
      clear hown3 hb3 hlt3 hown4 hold4 hgr4 hb4 hs4 hown5 hold5 hgr5 hb5 hs5 hown6 hgr6 hT1 hT2 hT3 hsx hsxz hxz hb6 hsr hsrz HU hub hnu hb hB
      go_wp2_with fail
      refine (scan_any sx pre.size _ HXZ.out (by omega)).mono ?_
      rintro e w7 ⟨rfl, rfl⟩
      obtain ⟨V, hV⟩ : ∃ V, V = Ex.dval 0 R := ⟨_, rfl⟩
      have HV : Hid (Ex.dval 0 (sb sr) = V) := by show _ = _; rw [HSR.out, hV]
      by_cases hVb : V ≤ 9223372036854775807
      · obtain ⟨s1, s2, s3⟩ := Ex.scan_fits (bs := sb sx) (k := pre.size) (by rw [HRUN.out, ← hV]; exact hVb)
        rw [HRUN.out, ← hV] at s1
        rw [HRUN.out, HRL.out] at s2 s3
        rw [s1, s2, s3]
        clear s1 s2 s3 hcx
        by_cases hn0 : n = 0
        · have hV0 : V = 0 := by rw [hV, List.eq_nil_of_length_eq_zero (show R.length = 0 by have := HRL.out; omega)]; rfl
          have hdn : decide (0 < n) = false := by simp; omega
          have hnz : ((n : Int) == 0) = true := by simp; omega
          rw [hdn]
          rw [hV0] at HV ⊢
          rw [show pre.size + n = pre.size from by omega]
          clear hV hdn hV0 hn0
          go_wp2_with fail
          refine (gvalue_yes sr 0 _ HSRZ.out (by rw [HSR.out]; exact HRD.out) HV.out (by omega)).mono ?_
          rintro e w8 ⟨rfl, rfl⟩
          go_wp2_with fail
          go_ret
          exact ⟨rfl, hbw⟩
        · have hdn : decide (0 < n) = true := by simp; omega
          have hnz : ((n : Int) == 0) = false := by simp; omega
          rw [hdn]
          clear hV hdn
          go_wp2_with fail
          refine (gvalue_yes sr V _ HSRZ.out (by rw [HSR.out]; exact HRD.out) HV.out hVb).mono ?_
          rintro e w8 ⟨rfl, rfl⟩
          go_wp2_with fail
          go_ret
          exact ⟨rfl, hbw⟩
      · obtain ⟨s1, s2, s3⟩ := Ex.scan_over (bs := sb sx) (k := pre.size) (by rw [HRUN.out, ← hV]; exact hVb)
        rw [s1, s2, s3]
        have hn0 : n ≠ 0 := fun h => hVb (by rw [hV, List.eq_nil_of_length_eq_zero (show R.length = 0 by have := HRL.out; omega)]; simp [Ex.dval])
        have hnz : ((n : Int) == 0) = false := by simp; omega
        clear s1 s2 s3 hcx hV hn0
        go_wp2_with fail
        refine (gvalue_no sr V _ HSRZ.out (by rw [HSR.out]; exact HRD.out) HV.out hVb).mono ?_
        rintro e w8 ⟨rfl, rfl⟩
        go_wp2_with fail
        go_ret
        exact ⟨rfl, hbw⟩
end Go.Proofs.Ymbrbu
