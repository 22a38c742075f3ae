import Derived.Test.YmbrbuScanWalk
import Derived.WalkLawsBesides
import Derived.Deep.Cut
set_option linter.unusedVariables false
set_option linter.unusedSimpArgs false
set_option linter.unnecessarySimpa false
namespace Go.Proofs.Ymbrbu
open Go.RowKit

def bI (l : List UInt8) : List Int := l.map fun b => (b.toNat : Int)
theorem sb_eq (s : ByteArray) : sb s = bI s.data.toList := rfl
theorem bI_len (l : List UInt8) : (bI l).length = l.length := by simp [bI]
theorem bI_inj {x y : List UInt8} (h : bI x = bI y) : x = y := by
  induction x generalizing y with
  | nil => cases y with
    | nil => rfl
    | cons b y => simp [bI] at h
  | cons a x ih => cases y with
    | nil => simp [bI] at h
    | cons b y =>
      simp only [bI, List.map_cons, List.cons.injEq] at h
      rw [ih h.2]
      congr 1
      exact UInt8.toNat_inj.1 (by omega)

/-- on texts of digits of one length the order of the texts is that of the values -/
theorem less_dval : ∀ (x y : List UInt8), x.length = y.length → (∀ c ∈ bI x, 48 ≤ c ∧ c ≤ 57) → (∀ c ∈ bI y, 48 ≤ c ∧ c ≤ 57) → (Op.bytesLess x y = true ↔ Ex.dval 0 (bI x) < Ex.dval 0 (bI y)) ∧ (x = y ↔ Ex.dval 0 (bI x) = Ex.dval 0 (bI y)) := by
  intro x
  induction x with
  | nil =>
    intro y h _ _
    cases y with
    | nil => simp [Op.bytesLess]
    | cons b y => simp at h
  | cons a x ih =>
    intro y h hx hy
    cases y with
    | nil => simp at h
    | cons b y =>
      have hl : x.length = y.length := by simpa using h
      obtain ⟨i1, i2⟩ := ih y hl (fun c hc => hx c (by simp [bI] at hc ⊢; right; exact hc)) (fun c hc => hy c (by simp [bI] at hc ⊢; right; exact hc))
      have ha := hx (a.toNat : Int) (by simp [bI])
      have hb := hy (b.toNat : Int) (by simp [bI])
      have lx := Ex.dval_lt0 (bI x) (fun c hc => hx c (by simp [bI] at hc ⊢; right; exact hc))
      have ly := Ex.dval_lt0 (bI y) (fun c hc => hy c (by simp [bI] at hc ⊢; right; exact hc))
      have ex : Ex.dval 0 (bI (a :: x)) = ((a.toNat : Int) - 48).toNat * 10 ^ x.length + Ex.dval 0 (bI x) := by
        show Ex.dval 0 ((a.toNat : Int) :: bI x) = _
        rw [Ex.dval_cons, bI_len]
      have ey : Ex.dval 0 (bI (b :: y)) = ((b.toNat : Int) - 48).toNat * 10 ^ x.length + Ex.dval 0 (bI y) := by
        show Ex.dval 0 ((b.toNat : Int) :: bI y) = _
        rw [Ex.dval_cons, bI_len, hl]
      rw [bI_len] at lx ly
      rw [← hl] at ly
      generalize 10 ^ x.length = p at *
      obtain ⟨u, hu⟩ : ∃ u : Nat, (a.toNat : Int) - 48 = u := ⟨((a.toNat : Int) - 48).toNat, by omega⟩
      obtain ⟨v, hv⟩ : ∃ v : Nat, (b.toNat : Int) - 48 = v := ⟨((b.toNat : Int) - 48).toNat, by omega⟩
      rw [hu, Int.toNat_natCast] at ex
      rw [hv, Int.toNat_natCast] at ey
      rw [ex, ey]
      simp only [Op.bytesLess, Bool.or_eq_true, Bool.and_eq_true, decide_eq_true_iff, beq_iff_eq, List.cons.injEq, i1, i2]
      rw [UInt8.lt_iff_toNat_lt, ← UInt8.toNat_inj]
      rcases Nat.lt_trichotomy u v with h | h | h
      · have : (u + 1) * p ≤ v * p := Nat.mul_le_mul_right _ h
        rw [Nat.add_mul, Nat.one_mul] at this
        generalize u * p = up at *
        generalize v * p = vp at *
        constructor <;> omega
      · subst h
        generalize u * p = up at *
        constructor <;> omega
      · have : (v + 1) * p ≤ u * p := Nat.mul_le_mul_right _ h
        rw [Nat.add_mul, Nat.one_mul] at this
        generalize u * p = up at *
        generalize v * p = vp at *
        constructor <;> omega

theorem sb_extract (s : ByteArray) (a b : Nat) : sb (s.extract a b) = ((sb s).drop a).take (b - a) := by
  simp [sb, List.map_take, List.map_drop]
theorem maxS_val : Ex.dval 0 (bI [57, 50, 50, 51, 51, 55, 50, 48, 51, 54, 56, 53, 52, 55, 55, 53, 56, 48, 55]) = 9223372036854775807 := by decide
theorem maxS_dig : ∀ c ∈ bI [57, 50, 50, 51, 51, 55, 50, 48, 51, 54, 56, 53, 52, 55, 55, 53, 56, 48, 55], 48 ≤ c ∧ c ≤ 57 := by decide
theorem cmp_max (sg : ByteArray) (h : sg.size = 19) (hd : ∀ c ∈ sb sg, 48 ≤ c ∧ c ≤ 57) : (Op.bytesLess sg.toList [57, 50, 50, 51, 51, 55, 50, 48, 51, 54, 56, 53, 52, 55, 55, 53, 56, 48, 55] = true ↔ Ex.dval 0 (sb sg) < 9223372036854775807) ∧ ((sg.toList == [57, 50, 50, 51, 51, 55, 50, 48, 51, 54, 56, 53, 52, 55, 55, 53, 56, 48, 55]) = true ↔ Ex.dval 0 (sb sg) = 9223372036854775807) := by
  rw [ByteArray.toList_eq]
  obtain ⟨l1, l2⟩ := less_dval sg.data.toList [57, 50, 50, 51, 51, 55, 50, 48, 51, 54, 56, 53, 52, 55, 55, 53, 56, 48, 55] (by simpa using h) hd maxS_dig
  rw [maxS_val] at l1 l2
  rw [beq_iff_eq]
  exact ⟨l1, l2⟩
theorem bool_false {b : Bool} (h : ¬ b = true) : b = false := by cases b <;> simp_all

set_option maxRecDepth 100000 in
set_option maxHeartbeats 2000000 in
theorem gvalue_yes (s : ByteArray) (V : Nat) (w : World) (hs : s.size ≤ maxLen) (hd : ∀ c ∈ sb s, 48 ≤ c ∧ c ≤ 57) (hV0 : Ex.dval 0 (sb s) = V) (hVb : V ≤ 9223372036854775807) :
    Calls Ybum.prog 23 #[.string s] w fun e w' => e = .returned (.tuple #[.int .i64 V, .bool true]) ∧ w' = w := by
  unfold maxLen at hs
  have hbt := sb_at s
  have HD : Hid (∀ c ∈ sb s, 48 ≤ c ∧ c ≤ 57) := hd
  have HL : Hid ((sb s).length = s.size) := sb_len s
  have HV0 : Hid (Ex.dval 0 (sb s) = V) := hV0
  clear hd hV0
  go_enter Ybum.func23, Ybum.ntmps23
  go_wp2_with fail
  go_loop [4] (fun i => ∃ (k : Nat), k ≤ s.size ∧ i = .int .i64 k ∧ Hid (Ex.dval 0 ((sb s).drop k) = V)) (fun i => s.size - (intOf i).toNat)
  case atStart => exact ⟨0, by omega, rfl, by show _ = _; rw [List.drop_zero]; exact HV0.out⟩
  case round =>
    obtain ⟨k, hk, rfl, HK⟩ := hrel
    by_cases hk0 : k < s.size ∧ Ex.iAt (sb s) k = 48
    · obtain ⟨hk1, hk2⟩ := hk0
      have h48 : (Ex.iAt (sb s) k == 48) = true := by simpa using hk2
      have HK2 : Hid (Ex.dval 0 ((sb s).drop (k + 1)) = V) := by
        show _ = _
        rw [Ex.dval_drop_zero _ _ (by have := HL.out; omega) hk2, HK.out]
      clear hk2
      go_wp2_with fail
      go_round
      case rel => exact ⟨k + 1, by omega, by go_num, HK2⟩
      case measure => simp [intOf]; omega
    · rcases (show (k < s.size ∧ (Ex.iAt (sb s) k == 48) = false) ∨ (decide ((k : Int) < (s.size : Int)) = false ∧ ¬ k < s.size) from by
        by_cases h : k < s.size
        · left; exact ⟨h, by simpa using fun e => hk0 ⟨h, e⟩⟩
        · right; exact ⟨by simp; omega, h⟩) with ⟨q1, q2⟩ | ⟨q1, q2⟩
      · go_upto_region 5 with fail
        obtain ⟨sg, hsg⟩ : ∃ sg, sg = s.extract k s.size := ⟨_, rfl⟩
        rw [← hsg]
        have hsl : sb sg = (sb s).drop k := by
          rw [hsg, sb_extract]
          exact List.take_of_length_le (by rw [List.length_drop]; have := HL.out; omega)
        have hgz : sg.size = s.size - k := by rw [← sb_len, hsl, List.length_drop, HL.out]
        have hdg : Hid (∀ c ∈ sb sg, 48 ≤ c ∧ c ≤ 57) := fun c hc => HD.out c (List.mem_of_mem_drop (hsl ▸ hc))
        have hV : Hid (Ex.dval 0 (sb sg) = V) := by show _ = _; rw [hsl]; exact HK.out
        have h0 : Hid (0 < sg.size → Ex.iAt (sb sg) 0 ≠ 48) := fun hp e => hk0 ⟨by omega, by rw [hsl, Ex.iAt_drop] at e; simpa using e⟩
        have hgb : sg.size ≤ 9223372036854775807 := by omega
        have hgl : Hid ((sb sg).length = sg.size) := sb_len sg
        have hbg := sb_at sg
        clear hsg hsl hgz HK hk0 HD HL hbt
        have hs19 : sg.size ≤ 19 := by
          by_cases h : 20 ≤ sg.size
          · have hVbig := Ex.dval_big (sb sg) hdg.out (h0.out (by omega)) (by have := hgl.out; omega)
            rw [hV.out] at hVbig
            omega
          · omega
        have d19 : decide ((19 : Int) < (sg.size : Int)) = false := by simp; omega
        rcases (show ((sg.size : Int) == 19) = false ∨ (((sg.size : Int) == 19) = true ∧ Op.bytesLess sg.toList [57, 50, 50, 51, 51, 55, 50, 48, 51, 54, 56, 53, 52, 55, 55, 53, 56, 48, 55] = true) ∨ (((sg.size : Int) == 19) = true ∧ (sg.toList == [57, 50, 50, 51, 51, 55, 50, 48, 51, 54, 56, 53, 52, 55, 55, 53, 56, 48, 55]) = true) from by
          by_cases h : sg.size = 19
          · obtain ⟨l1, l2⟩ := cmp_max sg h hdg.out
            rw [hV.out] at l1 l2
            right
            by_cases h2 : V = 9223372036854775807
            · right; exact ⟨by simp; omega, l2.2 h2⟩
            · left; exact ⟨by simp; omega, l1.2 (by omega)⟩
          · left; simp; omega) with q5 | ⟨q5, q6⟩ | ⟨q5, q6⟩
        all_goals
          go_wp2_with fail
          go_loop [6, 7, 8] (fun x y z => ∃ (j X P : Nat), j ≤ sg.size ∧ x = .int .u64 X ∧ y = .int .u64 P ∧ z = .int .i64 ((j : Int) - 1) ∧ Hid (X = Ex.dval 0 ((sb sg).drop j)) ∧ Hid (P = 10 ^ (sg.size - j))) (fun _ _ z => (intOf z + 1).toNat)
          case atStart => exact ⟨sg.size, 0, 1, by omega, rfl, rfl, by go_num, by show _ = _; rw [List.drop_eq_nil_of_le (by have := hgl.out; omega)]; rfl, by show _ = _; rw [Nat.sub_self, Nat.pow_zero]⟩
          case round =>
            obtain ⟨j, X, P, hj, rfl, rfl, rfl, HX, HP⟩ := hrel
            by_cases hj0 : j = 0
            · subst hj0
              have hXV : X = V := by rw [HX.out]; exact hV.out
              subst hXV
              go_wp2_with fail
              go_ret2
              exact ⟨rfl, rfl⟩
            · obtain ⟨i, rfl⟩ : ∃ i, j = i + 1 := ⟨j - 1, by omega⟩
              have e : ((i + 1 : Nat) : Int) - 1 = (i : Int) := by omega
              rw [e]
              have hix : i < (sb sg).length := by have := hgl.out; omega
              obtain ⟨e1, e2⟩ := hdg.out _ (Ex.iAt_mem (sb sg) i hix)
              have hdr := Ex.dval_drop_at (sb sg) i hix
              have hlen : (sb sg).length - 1 - i = sg.size - (i + 1) := by have := hgl.out; omega
              rw [hlen, ← HP.out, ← HX.out] at hdr
              have hle : Ex.dval 0 ((sb sg).drop i) < 10 ^ 19 := by
                have h1 := Ex.dval_lt0 ((sb sg).drop i) (fun c hc => hdg.out c (List.mem_of_mem_drop hc))
                have h2 : 10 ^ ((sb sg).drop i).length ≤ 10 ^ 19 := Nat.pow_le_pow_right (by omega) (by rw [List.length_drop]; have := hgl.out; omega)
                omega
              have hPle : P ≤ 10 ^ 18 := by
                rw [HP.out]
                exact Nat.pow_le_pow_right (by omega) (by omega)
              have HP2 : Hid (P * 10 = 10 ^ (sg.size - i)) := by
                show _ = _
                rw [HP.out, show sg.size - i = sg.size - (i + 1) + 1 from by omega, Nat.pow_succ]
              obtain ⟨d, hd⟩ : ∃ d : Nat, Ex.iAt (sb sg) i - 48 = (d : Int) := ⟨(Ex.iAt (sb sg) i - 48).toNat, by omega⟩
              have hd9 : d ≤ 9 := by omega
              rw [hd, Int.toNat_natCast] at hdr
              have HX2 : Hid (X + d * P = Ex.dval 0 ((sb sg).drop i)) := by show _ = _; rw [hdr]; omega
              have hdP : d * P ≤ 9 * P := Nat.mul_le_mul_right _ hd9
              have hb1 : ((d * P : Nat) : Int) = (d : Int) * (P : Int) := Int.natCast_mul d P
              have hb2 : (d : Int) * (P : Int) ≤ 9000000000000000000 := by rw [← hb1]; omega
              have hb3 : 0 ≤ (d : Int) * (P : Int) := by rw [← hb1]; omega
              have hb4 : (X : Int) + (d : Int) * (P : Int) ≤ 10000000000000000000 := by rw [← hb1]; have := HX2.out; omega
              have HB1 : Hid (((X + d * P : Nat) : Int) = (X : Int) + (d : Int) * (P : Int)) := by show _ = _; rw [← hb1]; omega
              clear e hdr hle hlen hb1 hdP
              go_wp2_with fail
              go_round
              case rel => exact ⟨i, X + d * P, P * 10, by omega, by rw [HB1.out], by go_num, by go_num, HX2.out, HP2.out⟩
              case measure => first | (simp [intOf]; done) | (simp [intOf]; omega)

      · go_upto_region 5 with fail
        obtain ⟨sg, hsg⟩ : ∃ sg, sg = s.extract k s.size := ⟨_, rfl⟩
        rw [← hsg]
        have hsl : sb sg = (sb s).drop k := by
          rw [hsg, sb_extract]
          exact List.take_of_length_le (by rw [List.length_drop]; have := HL.out; omega)
        have hgz : sg.size = s.size - k := by rw [← sb_len, hsl, List.length_drop, HL.out]
        have hdg : Hid (∀ c ∈ sb sg, 48 ≤ c ∧ c ≤ 57) := fun c hc => HD.out c (List.mem_of_mem_drop (hsl ▸ hc))
        have hV : Hid (Ex.dval 0 (sb sg) = V) := by show _ = _; rw [hsl]; exact HK.out
        have h0 : Hid (0 < sg.size → Ex.iAt (sb sg) 0 ≠ 48) := fun hp e => hk0 ⟨by omega, by rw [hsl, Ex.iAt_drop] at e; simpa using e⟩
        have hgb : sg.size ≤ 9223372036854775807 := by omega
        have hgl : Hid ((sb sg).length = sg.size) := sb_len sg
        have hbg := sb_at sg
        clear hsg hsl hgz HK hk0 HD HL hbt
        have hs19 : sg.size ≤ 19 := by
          by_cases h : 20 ≤ sg.size
          · have hVbig := Ex.dval_big (sb sg) hdg.out (h0.out (by omega)) (by have := hgl.out; omega)
            rw [hV.out] at hVbig
            omega
          · omega
        have d19 : decide ((19 : Int) < (sg.size : Int)) = false := by simp; omega
        rcases (show ((sg.size : Int) == 19) = false ∨ (((sg.size : Int) == 19) = true ∧ Op.bytesLess sg.toList [57, 50, 50, 51, 51, 55, 50, 48, 51, 54, 56, 53, 52, 55, 55, 53, 56, 48, 55] = true) ∨ (((sg.size : Int) == 19) = true ∧ (sg.toList == [57, 50, 50, 51, 51, 55, 50, 48, 51, 54, 56, 53, 52, 55, 55, 53, 56, 48, 55]) = true) from by
          by_cases h : sg.size = 19
          · obtain ⟨l1, l2⟩ := cmp_max sg h hdg.out
            rw [hV.out] at l1 l2
            right
            by_cases h2 : V = 9223372036854775807
            · right; exact ⟨by simp; omega, l2.2 h2⟩
            · left; exact ⟨by simp; omega, l1.2 (by omega)⟩
          · left; simp; omega) with q5 | ⟨q5, q6⟩ | ⟨q5, q6⟩
        all_goals
          go_wp2_with fail
          go_loop [6, 7, 8] (fun x y z => ∃ (j X P : Nat), j ≤ sg.size ∧ x = .int .u64 X ∧ y = .int .u64 P ∧ z = .int .i64 ((j : Int) - 1) ∧ Hid (X = Ex.dval 0 ((sb sg).drop j)) ∧ Hid (P = 10 ^ (sg.size - j))) (fun _ _ z => (intOf z + 1).toNat)
          case atStart => exact ⟨sg.size, 0, 1, by omega, rfl, rfl, by go_num, by show _ = _; rw [List.drop_eq_nil_of_le (by have := hgl.out; omega)]; rfl, by show _ = _; rw [Nat.sub_self, Nat.pow_zero]⟩
          case round =>
            obtain ⟨j, X, P, hj, rfl, rfl, rfl, HX, HP⟩ := hrel
            by_cases hj0 : j = 0
            · subst hj0
              have hXV : X = V := by rw [HX.out]; exact hV.out
              subst hXV
              go_wp2_with fail
              go_ret2
              exact ⟨rfl, rfl⟩
            · obtain ⟨i, rfl⟩ : ∃ i, j = i + 1 := ⟨j - 1, by omega⟩
              have e : ((i + 1 : Nat) : Int) - 1 = (i : Int) := by omega
              rw [e]
              have hix : i < (sb sg).length := by have := hgl.out; omega
              obtain ⟨e1, e2⟩ := hdg.out _ (Ex.iAt_mem (sb sg) i hix)
              have hdr := Ex.dval_drop_at (sb sg) i hix
              have hlen : (sb sg).length - 1 - i = sg.size - (i + 1) := by have := hgl.out; omega
              rw [hlen, ← HP.out, ← HX.out] at hdr
              have hle : Ex.dval 0 ((sb sg).drop i) < 10 ^ 19 := by
                have h1 := Ex.dval_lt0 ((sb sg).drop i) (fun c hc => hdg.out c (List.mem_of_mem_drop hc))
                have h2 : 10 ^ ((sb sg).drop i).length ≤ 10 ^ 19 := Nat.pow_le_pow_right (by omega) (by rw [List.length_drop]; have := hgl.out; omega)
                omega
              have hPle : P ≤ 10 ^ 18 := by
                rw [HP.out]
                exact Nat.pow_le_pow_right (by omega) (by omega)
              have HP2 : Hid (P * 10 = 10 ^ (sg.size - i)) := by
                show _ = _
                rw [HP.out, show sg.size - i = sg.size - (i + 1) + 1 from by omega, Nat.pow_succ]
              obtain ⟨d, hd⟩ : ∃ d : Nat, Ex.iAt (sb sg) i - 48 = (d : Int) := ⟨(Ex.iAt (sb sg) i - 48).toNat, by omega⟩
              have hd9 : d ≤ 9 := by omega
              rw [hd, Int.toNat_natCast] at hdr
              have HX2 : Hid (X + d * P = Ex.dval 0 ((sb sg).drop i)) := by show _ = _; rw [hdr]; omega
              have hdP : d * P ≤ 9 * P := Nat.mul_le_mul_right _ hd9
              have hb1 : ((d * P : Nat) : Int) = (d : Int) * (P : Int) := Int.natCast_mul d P
              have hb2 : (d : Int) * (P : Int) ≤ 9000000000000000000 := by rw [← hb1]; omega
              have hb3 : 0 ≤ (d : Int) * (P : Int) := by rw [← hb1]; omega
              have hb4 : (X : Int) + (d : Int) * (P : Int) ≤ 10000000000000000000 := by rw [← hb1]; have := HX2.out; omega
              have HB1 : Hid (((X + d * P : Nat) : Int) = (X : Int) + (d : Int) * (P : Int)) := by show _ = _; rw [← hb1]; omega
              clear e hdr hle hlen hb1 hdP
              go_wp2_with fail
              go_round
              case rel => exact ⟨i, X + d * P, P * 10, by omega, by rw [HB1.out], by go_num, by go_num, HX2.out, HP2.out⟩
              case measure => first | (simp [intOf]; done) | (simp [intOf]; omega)


set_option maxRecDepth 100000 in
set_option maxHeartbeats 2000000 in
theorem gvalue_no (s : ByteArray) (V : Nat) (w : World) (hs : s.size ≤ maxLen) (hd : ∀ c ∈ sb s, 48 ≤ c ∧ c ≤ 57) (hV0 : Ex.dval 0 (sb s) = V) (hVb : ¬ V ≤ 9223372036854775807) :
    Calls Ybum.prog 23 #[.string s] w fun e w' => e = .returned (.tuple #[.int .i64 0, .bool false]) ∧ w' = w := by
  unfold maxLen at hs
  have hbt := sb_at s
  have HD : Hid (∀ c ∈ sb s, 48 ≤ c ∧ c ≤ 57) := hd
  have HL : Hid ((sb s).length = s.size) := sb_len s
  have HV0 : Hid (Ex.dval 0 (sb s) = V) := hV0
  clear hd hV0
  go_enter Ybum.func23, Ybum.ntmps23
  go_wp2_with fail
  go_loop [4] (fun i => ∃ (k : Nat), k ≤ s.size ∧ i = .int .i64 k ∧ Hid (Ex.dval 0 ((sb s).drop k) = V)) (fun i => s.size - (intOf i).toNat)
  case atStart => exact ⟨0, by omega, rfl, by show _ = _; rw [List.drop_zero]; exact HV0.out⟩
  case round =>
    obtain ⟨k, hk, rfl, HK⟩ := hrel
    by_cases hk0 : k < s.size ∧ Ex.iAt (sb s) k = 48
    · obtain ⟨hk1, hk2⟩ := hk0
      have h48 : (Ex.iAt (sb s) k == 48) = true := by simpa using hk2
      have HK2 : Hid (Ex.dval 0 ((sb s).drop (k + 1)) = V) := by
        show _ = _
        rw [Ex.dval_drop_zero _ _ (by have := HL.out; omega) hk2, HK.out]
      clear hk2
      go_wp2_with fail
      go_round
      case rel => exact ⟨k + 1, by omega, by go_num, HK2⟩
      case measure => simp [intOf]; omega
    · rcases (show (k < s.size ∧ (Ex.iAt (sb s) k == 48) = false) ∨ (decide ((k : Int) < (s.size : Int)) = false ∧ ¬ k < s.size) from by
        by_cases h : k < s.size
        · left; exact ⟨h, by simpa using fun e => hk0 ⟨h, e⟩⟩
        · right; exact ⟨by simp; omega, h⟩) with ⟨q1, q2⟩ | ⟨q1, q2⟩
      · go_upto_region 5 with fail
        obtain ⟨sg, hsg⟩ : ∃ sg, sg = s.extract k s.size := ⟨_, rfl⟩
        rw [← hsg]
        have hsl : sb sg = (sb s).drop k := by
          rw [hsg, sb_extract]
          exact List.take_of_length_le (by rw [List.length_drop]; have := HL.out; omega)
        have hgz : sg.size = s.size - k := by rw [← sb_len, hsl, List.length_drop, HL.out]
        have hdg : Hid (∀ c ∈ sb sg, 48 ≤ c ∧ c ≤ 57) := fun c hc => HD.out c (List.mem_of_mem_drop (hsl ▸ hc))
        have hV : Hid (Ex.dval 0 (sb sg) = V) := by show _ = _; rw [hsl]; exact HK.out
        have h0 : Hid (0 < sg.size → Ex.iAt (sb sg) 0 ≠ 48) := fun hp e => hk0 ⟨by omega, by rw [hsl, Ex.iAt_drop] at e; simpa using e⟩
        have hgb : sg.size ≤ 9223372036854775807 := by omega
        have hgl : Hid ((sb sg).length = sg.size) := sb_len sg
        have hbg := sb_at sg
        clear hsg hsl hgz HK hk0 HD HL hbt
        by_cases h19 : 19 < sg.size
        · go_wp2_with fail
          go_ret2
          exact ⟨rfl, rfl⟩
        · have hs19 : sg.size = 19 := by
            by_cases h : sg.size ≤ 18
            · exfalso
              have h1 := Ex.dval_lt0 (sb sg) hdg.out
              have h2 : 10 ^ (sb sg).length ≤ 10 ^ 18 := Nat.pow_le_pow_right (by omega) (by have := hgl.out; omega)
              rw [hV.out] at h1
              omega
            · omega
          have d19 : decide ((19 : Int) < (sg.size : Int)) = false := by simp; omega
          have q5 : ((sg.size : Int) == 19) = true := by simp; omega
          obtain ⟨l1, l2⟩ := cmp_max sg hs19 hdg.out
          rw [hV.out] at l1 l2
          have q6 : Op.bytesLess sg.toList [57, 50, 50, 51, 51, 55, 50, 48, 51, 54, 56, 53, 52, 55, 55, 53, 56, 48, 55] = false := bool_false (by rw [l1]; omega)
          have q7 : (sg.toList == [57, 50, 50, 51, 51, 55, 50, 48, 51, 54, 56, 53, 52, 55, 55, 53, 56, 48, 55]) = false := bool_false (by rw [l2]; omega)
          clear l1 l2
          clear hs19
          go_wp2_with fail
          go_ret2
          exact ⟨rfl, rfl⟩

      · go_upto_region 5 with fail
        obtain ⟨sg, hsg⟩ : ∃ sg, sg = s.extract k s.size := ⟨_, rfl⟩
        rw [← hsg]
        have hsl : sb sg = (sb s).drop k := by
          rw [hsg, sb_extract]
          exact List.take_of_length_le (by rw [List.length_drop]; have := HL.out; omega)
        have hgz : sg.size = s.size - k := by rw [← sb_len, hsl, List.length_drop, HL.out]
        have hdg : Hid (∀ c ∈ sb sg, 48 ≤ c ∧ c ≤ 57) := fun c hc => HD.out c (List.mem_of_mem_drop (hsl ▸ hc))
        have hV : Hid (Ex.dval 0 (sb sg) = V) := by show _ = _; rw [hsl]; exact HK.out
        have h0 : Hid (0 < sg.size → Ex.iAt (sb sg) 0 ≠ 48) := fun hp e => hk0 ⟨by omega, by rw [hsl, Ex.iAt_drop] at e; simpa using e⟩
        have hgb : sg.size ≤ 9223372036854775807 := by omega
        have hgl : Hid ((sb sg).length = sg.size) := sb_len sg
        have hbg := sb_at sg
        clear hsg hsl hgz HK hk0 HD HL hbt
        by_cases h19 : 19 < sg.size
        · go_wp2_with fail
          go_ret2
          exact ⟨rfl, rfl⟩
        · have hs19 : sg.size = 19 := by
            by_cases h : sg.size ≤ 18
            · exfalso
              have h1 := Ex.dval_lt0 (sb sg) hdg.out
              have h2 : 10 ^ (sb sg).length ≤ 10 ^ 18 := Nat.pow_le_pow_right (by omega) (by have := hgl.out; omega)
              rw [hV.out] at h1
              omega
            · omega
          have d19 : decide ((19 : Int) < (sg.size : Int)) = false := by simp; omega
          have q5 : ((sg.size : Int) == 19) = true := by simp; omega
          obtain ⟨l1, l2⟩ := cmp_max sg hs19 hdg.out
          rw [hV.out] at l1 l2
          have q6 : Op.bytesLess sg.toList [57, 50, 50, 51, 51, 55, 50, 48, 51, 54, 56, 53, 52, 55, 55, 53, 56, 48, 55] = false := bool_false (by rw [l1]; omega)
          have q7 : (sg.toList == [57, 50, 50, 51, 51, 55, 50, 48, 51, 54, 56, 53, 52, 55, 55, 53, 56, 48, 55]) = false := bool_false (by rw [l2]; omega)
          clear l1 l2
          clear hs19
          go_wp2_with fail
          go_ret2
          exact ⟨rfl, rfl⟩

end Go.Proofs.Ymbrbu
