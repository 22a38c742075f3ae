import Derived.Test.YmbrbtBLitWalk
import Derived.Test.YmbrbtTrips
import Derived.Laws.Bits64b
set_option linter.unusedVariables false
set_option linter.unusedSimpArgs false
set_option linter.unnecessarySimpa false
namespace Go.Proofs.Ymbrbt
open Go.RowKit

/-! ### plain -/
def Spell (X : List Int) (T : List (Int × Int)) (af : Bool) : Prop := ∀ cs, (af = true → ∀ c, cs.head? = some c → Ex.isD c = false) → bz (X ++ cs) [] none = bz cs T none
theorem Spell.nil : Spell [] [] false := fun cs _ => rfl
theorem Spell.blank {X : List Int} {T : List (Int × Int)} {af : Bool} (h : Spell X T af) (c : Int) (hc : c = 32 ∨ c = 9) : Spell (X ++ [c]) T false := fun cs _ => by
  rw [List.append_assoc, h _ (fun _ x hx => by simp at hx; subst hx; rw [Ex.isD_not]; omega)]
  exact bz_blank _ _ hc
theorem Spell.sym {X : List Int} {T : List (Int × Int)} {af : Bool} (h : Spell X T af) (c : Int) (hc : isSym c = true) : Spell (X ++ [c]) (T ++ [(c, 0)]) false := fun cs _ => by
  rw [List.append_assoc, h _ (fun _ x hx => by simp at hx; subst hx; exact (sym_not hc).2)]
  exact bz_sym _ _ hc
theorem Spell.num {X : List Int} {T : List (Int × Int)} (h : Spell X T false) (n : Nat) (hn : n ≤ 9223372036854775807) : Spell (X ++ Ex.dg n) (T ++ [(48, (n : Int))]) true := fun cs hd => by
  rw [List.append_assoc, h _ (fun e => by cases e), bz_digits cs T (Ex.dg n) none (fun c hc => Ex.isD_iff.2 (Ex.dg_dig n c hc)) (by have := Ex.dg_pos n; intro e; rw [e] at this; simp at this)]
  show (if Ex.dval 0 (Ex.dg n) ≤ _ then bz _ _ (some (Ex.dval 0 (Ex.dg n))) else _) = _
  rw [Ex.dval_dg n (by omega), if_pos hn, bz_flush T n (hd rfl)]
theorem Spell.ok {X : List Int} {T : List (Int × Int)} {af : Bool} (h : Spell X T af) : bz X [] none = (0, T) := by
  have := h [] (fun _ c hc => by cases hc)
  rw [List.append_nil] at this
  rw [this]; simp [bz, flush]
theorem Spell.bad {X : List Int} {T : List (Int × Int)} {af : Bool} (h : Spell X T af) (c : Int) (hc : 97 ≤ c ∧ c ≤ 122) (r : List Int) : bz (X ++ c :: r) [] none = (1, []) := by
  have hd : Ex.isD c = false := by rw [Ex.isD_not]; omega
  rw [h _ (fun _ x hx => by simp at hx; subst hx; exact hd)]
  refine bz_bad _ _ _ (by omega) ?_ hd
  unfold isSym
  rcases Ex.prec_cases c with ⟨_, h'⟩ | ⟨_, h'⟩ | ⟨h0, _⟩
  · omega
  · omega
  · simp [h0]; omega
theorem Spell.over {X : List Int} {T : List (Int × Int)} {af : Bool} (h : Spell X T af) (r : List Int) : bz (X ++ [32] ++ Ex.dg 9223372036854775808 ++ r) [] none = (3, []) := by
  rw [List.append_assoc, h.blank 32 (.inl rfl) _ (fun e => by cases e), bz_digits r T _ none (fun c hc => Ex.isD_iff.2 (Ex.dg_dig _ c hc)) (by have := Ex.dg_pos 9223372036854775808; intro e; rw [e] at this; simp at this)]
  show (if Ex.dval 0 (Ex.dg 9223372036854775808) ≤ _ then _ else _) = _
  rw [Ex.dval_dg _ (by omega), if_neg (by omega)]

/-! ### the rows -/
def Ap (u v : Value) : Prop := ∀ k, u.ownBlock = some k → v.ownBlock ≠ some k
theorem Ap.symm {u v : Value} (h : Ap u v) : Ap v u := fun k h1 h2 => h k h2 h1
theorem Ap.or {u v : Value} (h : Ap u v) : u.ownBlock = none ∨ u.ownBlock ≠ v.ownBlock := by
  cases hk : u.ownBlock with
  | none => exact .inl rfl
  | some k => exact .inr fun e => h k hk e.symm
theorem Ap.grow {u v v' : Value} {w w' : World} {base e size n : Nat} {xs : List Value} (h : Ap u v) (g : Grew w w' v v') (hu : w.ownsRow base e size u n xs) : Ap u v' := by
  intro k hk hk'
  rcases g.apart hu h.or with h0 | hne
  · rw [h0] at hk; cases hk
  · exact hne (hk.trans hk'.symm)
def itV (g : Nat) : Value := .slice (some ⟨g, 0, none⟩) 1 1
/-- a row of bytes and a row of tokens, apart; and a variable's block -/
structure S3 (w0 w : World) (u : Value) (X : List Int) (v : Value) (T : List (Int × Int)) (t : TypeId) (g : Nat) (cs : List Value) : Prop where
  hX : OwnB w w0.heap.size u X
  hT : OwnT w w0.heap.size v T
  it : w.ownsRow w0.heap.size t 3 (itV g) 1 cs
  auv : Ap u v
  aiu : Ap (itV g) u
  aiv : Ap (itV g) v
  bel : Below w0.heap.size w0 w
section
variable {w0 w w' : World} {u u' v v' : Value} {X X' : List Int} {T T' : List (Int × Int)} {t : TypeId} {g : Nat} {cs : List Value}
theorem S3.growX (h : S3 w0 w u X v T t g cs) (gr : Grew w w' u u') (hX : OwnB w' w0.heap.size u' X') : S3 w0 w' u' X' v T t g cs :=
  ⟨hX, gr.keeps h.hT h.auv.symm.or, gr.keeps h.it h.aiu.or, (h.auv.symm.grow gr h.hT).symm, h.aiu.grow gr h.it, h.aiv, below_app h.bel h.bel.size h.hX.baseLe gr⟩
theorem S3.growT (h : S3 w0 w u X v T t g cs) (gr : Grew w w' v v') (hT : OwnT w' w0.heap.size v' T') : S3 w0 w' u X v' T' t g cs :=
  ⟨gr.keeps h.hX h.auv.or, hT, gr.keeps h.it h.aiv.or, h.auv.grow gr h.hX, h.aiu, h.aiv.grow gr h.it, below_app h.bel h.bel.size h.hT.base gr⟩
theorem S3.mk' {w0 w : World} {u v : Value} {X : List Int} {T : List (Int × Int)} (t : TypeId) (c0 c1 c2 : Value) (hu : OwnB w w0.heap.size u X) (hv : OwnT w w0.heap.size v T) (ha : Ap u v) (hb : Below w0.heap.size w0 w) :
    S3 w0 (w.alloc (.cells #[c0, c1, c2] t)) u X v T t w.heap.size [c0, c1, c2] := by
  refine ⟨hu.alloc _, hv.alloc _, World.ownsRow_lit w #[c0, c1, c2] 1 hb.size (by unfold maxLen; omega) rfl, ha, fun k h1 h2 => ?_, fun k h1 h2 => ?_, hb.alloc hb.size _⟩
  · have := (hu.lt k h2).2
    have h3 : some w.heap.size = some k := h1
    cases h3; omega
  · have := (hv.lt k h2).2
    have h3 : some w.heap.size = some k := h1
    cases h3; omega
theorem S3.cell (h : S3 w0 w u X v T t g cs) (j : Nat) (hj : j < 3) : w.cell? ⟨g, j, none⟩ = cs[j]? := World.ownsRow.cellAt h.it j hj
end
theorem OwnT.nil' (w : World) (base : Nat) : OwnT w base (.slice none 0 0) [] := World.ownsRow_nil _ _ _ _

set_option maxRecDepth 100000 in
set_option maxHeartbeats 4000000 in
theorem bspelling_any (a : Option Addr) (n cap : Nat) (ts : List (Int × Int × Int)) (tail bad : Int) (w : World) (ht : Trips_u8_u64_u8 w a n cap ts) (hok : TripOk_u8_u64_u8 ts) (ht0 : 0 ≤ tail) (ht1 : tail ≤ 255) (hb0 : 0 ≤ bad) (hb1 : bad ≤ 255) :
    Calls Ybtm.prog 7 #[.slice a n cap, .int .u8 tail, .int .u8 bad] w fun e w' => e = .returned (.bool true) ∧ Below w.heap.size w w' := by
  have hnc := ht.2.1
  have hcm := ht.2.2.1
  unfold maxLen at hcm
  have HT : Hid (Trips_u8_u64_u8 w a n cap ts) := ht
  have HOK : Hid (TripOk_u8_u64_u8 ts) := hok
  clear ht hok
  by_cases hbig : 1024 < n
  · go_enter Ybtm.func7, Ybtm.ntmps7
    go_wp2_with fail
    go_ret
    exact ⟨rfl, Below.refl _ _⟩
  have d0 : decide ((1024 : Int) < (n : Int)) = false := decide_eq_false (by omega)
  go_enter Ybtm.func7, Ybtm.ntmps7
  go_wp2_with fail
  go_loopw [7, 8, 9, 10, 11, 12, 13] (fun u v af i _ _ _ wr => ∃ (k : Nat) (X : List Int) (T : List (Int × Int)) (b : Bool), k ≤ n ∧ i = .int .i64 k ∧ af = .bool b ∧ Hid (Spell X T b) ∧ X.length ≤ 30 * k ∧ T.length ≤ k ∧ Hid (∀ c ∈ X, 0 ≤ c ∧ c ≤ 255) ∧ OwnB wr w.heap.size u X ∧ OwnT wr w.heap.size v T ∧ Ap u v ∧ Below w.heap.size w wr) (fun _ _ _ i _ _ _ _ => n - (intOf i).toNat)
  case atStart => exact ⟨0, [], [], false, by omega, rfl, rfl, Spell.nil, by simp, by simp, (fun c hc => by cases hc), OwnI.nil _ _, OwnT.nil' _ _, (fun k hk => by cases hk), Below.refl _ _⟩
  case round =>
    obtain ⟨k, X, T, b, hk, rfl, rfl, HS, hXl, hTl, HXB, hX, hTT, hap, hb⟩ := hrel
    have hB := hb.size
    by_cases hlt : k < n
    · obtain ⟨bk, off, rfl, hc⟩ := (HT.out.below hb).2.2.2 (by omega)
      obtain ⟨c1, c2, c3⟩ := hc k hlt
      have hq := HOK.out _ (Ex3_mem ts k (by have := HT.out.1; omega))
      obtain ⟨⟨o1, o2⟩, ⟨o3, o4⟩, ⟨o5, o6⟩⟩ := hq
      generalize Ex3 ts k = q at c1 c2 c3 o1 o2 o3 o4 o5 o6
      obtain ⟨x0, x1, x2⟩ := q
      obtain ⟨m, rfl⟩ : ∃ m : Nat, x1 = (m : Int) := ⟨x1.toNat, by simp only at o3; omega⟩
      simp only at c1 c2 c3 o1 o2 o3 o4 o5 o6
      have hS := S3.mk' 42 (.int .u8 x0) (.int .u64 (m : Int)) (.int .u8 x2) hX hTT hap hb
      clear hc hX hTT hap
      go_upto_if 34 with fail
      go_cut [7, 9] from 21 to 77 (fun u' af' wq => ∃ (X' : List Int) (b' : Bool), af' = .bool b' ∧ Hid (Spell X' T b') ∧ X'.length ≤ 30 * k + 1 ∧ Hid (∀ c ∈ X', 0 ≤ c ∧ c ≤ 255) ∧ S3 w wq u' X' u8 T 42 wr.heap.size [.int .u8 x0, .int .u64 (m : Int), .int .u8 x2])
      case first =>
        have hg : x2 % 3 = 0 ∨ x2 % 3 = 1 ∨ x2 % 3 = 2 := by omega
        rcases hg with hg | hg | hg
        · go_wp2_with fail
          go_meet
          case rel => exact ⟨X, b, rfl, HS, by omega, HXB, hS⟩
        · go_wp2_with (first
            | (at_builtin; refine app_int _ 39 5 .u8 1 Ybtm.underlying39 Ybtm.infoU8 (by omega) rfl (.tmp 35) (.tmp 36) rfl w.heap.size _ X rfl (hS.hX.alloc _) _ 32 rfl (by simp) (by omega) (by simp; omega) ?_; intro u2 w2 hu2 huo2 hgr2))
          go_meet
          case rel => exact ⟨X ++ [32], false, rfl, HS.out.blank 32 (.inl rfl), by simp; omega, (fun c hc => by
            rcases List.mem_append.1 hc with h | h
            · exact HXB.out c h
            · simp at h; omega), hS.growX hgr2.after_alloc hu2⟩
        · go_wp2_with (first
            | (at_builtin; refine app_int _ 39 5 .u8 1 Ybtm.underlying39 Ybtm.infoU8 (by omega) rfl (.tmp 42) (.tmp 43) rfl w.heap.size _ X rfl (hS.hX.alloc _) _ 9 rfl (by simp) (by omega) (by simp; omega) ?_; intro u2 w2 hu2 huo2 hgr2))
          go_meet
          case rel => exact ⟨X ++ [9], false, rfl, HS.out.blank 9 (.inr rfl), by simp; omega, (fun c hc => by
            rcases List.mem_append.1 hc with h | h
            · exact HXB.out c h
            · simp at h; omega), hS.growX hgr2.after_alloc hu2⟩
      case rest =>
        clear hS HS HXB hXl c1 c2 c3 hb
        obtain ⟨X', b', rfl, HS, hXl, HXB, hS⟩ := hcut
        have e0 := hS.cell 0 (by omega)
        have e1 := hS.cell 1 (by omega)
        simp only [List.getElem?_cons_zero, List.getElem?_cons_succ] at e0 e1
        have hb := hS.bel
        have hB2 := hb.size
        obtain ⟨p, hp⟩ : ∃ p : Nat, x0 % 12 = (p : Int) := ⟨(x0 % 12).toNat, by omega⟩
        by_cases hp6 : p < 6
        · have hp7 : p = 0 ∨ p = 1 ∨ p = 2 ∨ p = 3 ∨ p = 4 ∨ p = 5 := by omega
          rcases hp7 with rfl | rfl | rfl | rfl | rfl | rfl
          · go_wp2_with (first
              | (at_builtin; refine app_int _ 39 5 .u8 1 Ybtm.underlying39 Ybtm.infoU8 (by omega) rfl (.tmp 51) (.tmp 54) rfl w.heap.size _ X' rfl (hS.hX.alloc _) _ 43 rfl (by simp; rfl) (by omega) (by simp; omega) ?_; intro u2 w2 hu2 huo2 hgr2; have hS2 := hS.growX hgr2.after_alloc hu2; have hB3 := hS2.bel.size)
              | (at_builtin; refine app_tok _ rfl (.tmp 56) (.tmp 60) rfl w.heap.size _ T rfl (hS2.hT.alloc _) _ 43 0 rfl (by simp; rfl) (by simp) (by omega) (by simp; omega) ?_; intro v3 w3 hv3 hold3 hgr3; have hS3 := hS2.growT hgr3.after_alloc hv3))
            go_roundw
            case rel => exact ⟨k + 1, X' ++ [43], T ++ [(43, 0)], false, by omega, by go_num, rfl, HS.out.sym 43 (by decide), by simp; omega, by simp; omega, (fun c hc => by
              rcases List.mem_append.1 hc with h | h
              · exact HXB.out c h
              · simp at h; omega), hS3.hX, hS3.hT, hS3.auv, hS3.bel⟩
            case measure => simp [intOf]; omega
          · go_wp2_with (first
              | (at_builtin; refine app_int _ 39 5 .u8 1 Ybtm.underlying39 Ybtm.infoU8 (by omega) rfl (.tmp 51) (.tmp 54) rfl w.heap.size _ X' rfl (hS.hX.alloc _) _ 45 rfl (by simp; rfl) (by omega) (by simp; omega) ?_; intro u2 w2 hu2 huo2 hgr2; have hS2 := hS.growX hgr2.after_alloc hu2; have hB3 := hS2.bel.size)
              | (at_builtin; refine app_tok _ rfl (.tmp 56) (.tmp 60) rfl w.heap.size _ T rfl (hS2.hT.alloc _) _ 45 0 rfl (by simp; rfl) (by simp) (by omega) (by simp; omega) ?_; intro v3 w3 hv3 hold3 hgr3; have hS3 := hS2.growT hgr3.after_alloc hv3))
            go_roundw
            case rel => exact ⟨k + 1, X' ++ [45], T ++ [(45, 0)], false, by omega, by go_num, rfl, HS.out.sym 45 (by decide), by simp; omega, by simp; omega, (fun c hc => by
              rcases List.mem_append.1 hc with h | h
              · exact HXB.out c h
              · simp at h; omega), hS3.hX, hS3.hT, hS3.auv, hS3.bel⟩
            case measure => simp [intOf]; omega
          · go_wp2_with (first
              | (at_builtin; refine app_int _ 39 5 .u8 1 Ybtm.underlying39 Ybtm.infoU8 (by omega) rfl (.tmp 51) (.tmp 54) rfl w.heap.size _ X' rfl (hS.hX.alloc _) _ 42 rfl (by simp; rfl) (by omega) (by simp; omega) ?_; intro u2 w2 hu2 huo2 hgr2; have hS2 := hS.growX hgr2.after_alloc hu2; have hB3 := hS2.bel.size)
              | (at_builtin; refine app_tok _ rfl (.tmp 56) (.tmp 60) rfl w.heap.size _ T rfl (hS2.hT.alloc _) _ 42 0 rfl (by simp; rfl) (by simp) (by omega) (by simp; omega) ?_; intro v3 w3 hv3 hold3 hgr3; have hS3 := hS2.growT hgr3.after_alloc hv3))
            go_roundw
            case rel => exact ⟨k + 1, X' ++ [42], T ++ [(42, 0)], false, by omega, by go_num, rfl, HS.out.sym 42 (by decide), by simp; omega, by simp; omega, (fun c hc => by
              rcases List.mem_append.1 hc with h | h
              · exact HXB.out c h
              · simp at h; omega), hS3.hX, hS3.hT, hS3.auv, hS3.bel⟩
            case measure => simp [intOf]; omega
          · go_wp2_with (first
              | (at_builtin; refine app_int _ 39 5 .u8 1 Ybtm.underlying39 Ybtm.infoU8 (by omega) rfl (.tmp 51) (.tmp 54) rfl w.heap.size _ X' rfl (hS.hX.alloc _) _ 47 rfl (by simp; rfl) (by omega) (by simp; omega) ?_; intro u2 w2 hu2 huo2 hgr2; have hS2 := hS.growX hgr2.after_alloc hu2; have hB3 := hS2.bel.size)
              | (at_builtin; refine app_tok _ rfl (.tmp 56) (.tmp 60) rfl w.heap.size _ T rfl (hS2.hT.alloc _) _ 47 0 rfl (by simp; rfl) (by simp) (by omega) (by simp; omega) ?_; intro v3 w3 hv3 hold3 hgr3; have hS3 := hS2.growT hgr3.after_alloc hv3))
            go_roundw
            case rel => exact ⟨k + 1, X' ++ [47], T ++ [(47, 0)], false, by omega, by go_num, rfl, HS.out.sym 47 (by decide), by simp; omega, by simp; omega, (fun c hc => by
              rcases List.mem_append.1 hc with h | h
              · exact HXB.out c h
              · simp at h; omega), hS3.hX, hS3.hT, hS3.auv, hS3.bel⟩
            case measure => simp [intOf]; omega
          · go_wp2_with (first
              | (at_builtin; refine app_int _ 39 5 .u8 1 Ybtm.underlying39 Ybtm.infoU8 (by omega) rfl (.tmp 51) (.tmp 54) rfl w.heap.size _ X' rfl (hS.hX.alloc _) _ 40 rfl (by simp; rfl) (by omega) (by simp; omega) ?_; intro u2 w2 hu2 huo2 hgr2; have hS2 := hS.growX hgr2.after_alloc hu2; have hB3 := hS2.bel.size)
              | (at_builtin; refine app_tok _ rfl (.tmp 56) (.tmp 60) rfl w.heap.size _ T rfl (hS2.hT.alloc _) _ 40 0 rfl (by simp; rfl) (by simp) (by omega) (by simp; omega) ?_; intro v3 w3 hv3 hold3 hgr3; have hS3 := hS2.growT hgr3.after_alloc hv3))
            go_roundw
            case rel => exact ⟨k + 1, X' ++ [40], T ++ [(40, 0)], false, by omega, by go_num, rfl, HS.out.sym 40 (by decide), by simp; omega, by simp; omega, (fun c hc => by
              rcases List.mem_append.1 hc with h | h
              · exact HXB.out c h
              · simp at h; omega), hS3.hX, hS3.hT, hS3.auv, hS3.bel⟩
            case measure => simp [intOf]; omega
          · go_wp2_with (first
              | (at_builtin; refine app_int _ 39 5 .u8 1 Ybtm.underlying39 Ybtm.infoU8 (by omega) rfl (.tmp 51) (.tmp 54) rfl w.heap.size _ X' rfl (hS.hX.alloc _) _ 41 rfl (by simp; rfl) (by omega) (by simp; omega) ?_; intro u2 w2 hu2 huo2 hgr2; have hS2 := hS.growX hgr2.after_alloc hu2; have hB3 := hS2.bel.size)
              | (at_builtin; refine app_tok _ rfl (.tmp 56) (.tmp 60) rfl w.heap.size _ T rfl (hS2.hT.alloc _) _ 41 0 rfl (by simp; rfl) (by simp) (by omega) (by simp; omega) ?_; intro v3 w3 hv3 hold3 hgr3; have hS3 := hS2.growT hgr3.after_alloc hv3))
            go_roundw
            case rel => exact ⟨k + 1, X' ++ [41], T ++ [(41, 0)], false, by omega, by go_num, rfl, HS.out.sym 41 (by decide), by simp; omega, by simp; omega, (fun c hc => by
              rcases List.mem_append.1 hc with h | h
              · exact HXB.out c h
              · simp at h; omega), hS3.hX, hS3.hT, hS3.auv, hS3.bel⟩
            case measure => simp [intOf]; omega
        · have hpd : decide ((p : Int) < 6) = false := decide_eq_false (by omega)
          obtain ⟨N, hN⟩ : ∃ N : Nat, N = m &&& 9223372036854775807 := ⟨_, rfl⟩
          have hNle : N ≤ 9223372036854775807 := by rw [hN]; exact Nat.and_le_right
          have hbits : bits BinOp.and .u64 (m : Int) 9223372036854775807 = (N : Int) := by
            have := bits_and_u64_nat m 9223372036854775807 (by omega) (by omega)
            rw [hN]; exact this
          clear hN
          have HDG : Hid (∀ c ∈ Ex.dg N, 0 ≤ c ∧ c ≤ 255) := fun c hc => by have := Ex.dg_dig N c hc; omega
          have hdl := Ex.dg_len20 N
          cases b'
          · go_wp2_with fail
            refine (bdigits_any w.heap.size _ X' N _ hS.hX (by omega) (by omega) (by omega)).mono ?_
            rintro e w4 ⟨v4, rfl, hu4, hgr4⟩
            have hS4 := hS.growX hgr4 hu4
            have hB4 := hS4.bel.size
            go_wp2_with (first
              | (at_builtin; refine app_tok _ rfl (.tmp 72) (.tmp 76) rfl w.heap.size _ T rfl (hS4.hT.alloc _) _ 48 (N : Int) rfl (by simp) (by simp) (by omega) (by simp; omega) ?_; intro v5 w5 hv5 hold5 hgr5; have hS5 := hS4.growT hgr5.after_alloc hv5))
            go_roundw
            case rel => exact ⟨k + 1, X' ++ Ex.dg N, T ++ [(48, (N : Int))], true, by omega, by go_num, rfl, HS.out.num N hNle, by simp; omega, by simp; omega, (fun c hc => by
              rcases List.mem_append.1 hc with h | h
              · exact HXB.out c h
              · exact HDG.out c h), hS5.hX, hS5.hT, hS5.auv, hS5.bel⟩
            case measure => simp [intOf]; omega
          · go_wp2_with (first
              | (at_builtin; refine app_int _ 39 5 .u8 1 Ybtm.underlying39 Ybtm.infoU8 (by omega) rfl (.tmp 63) (.tmp 64) rfl w.heap.size _ X' rfl (hS.hX.alloc _) _ 32 rfl (by simp) (by omega) (by simp; omega) ?_; intro u2 w2 hu2 huo2 hgr2; have hS2 := hS.growX hgr2.after_alloc hu2; have hB3 := hS2.bel.size; have e2 := hS2.cell 1 (by omega); simp only [List.getElem?_cons_zero, List.getElem?_cons_succ] at e2))
            have HXB2 : Hid (∀ c ∈ X' ++ [32], 0 ≤ c ∧ c ≤ 255) := fun c hc => by
              rcases List.mem_append.1 hc with h | h
              · exact HXB.out c h
              · simp at h; omega
            refine (bdigits_any w.heap.size _ (X' ++ [32]) N _ hS2.hX (by omega) (by simp; omega) (by omega)).mono ?_
            rintro e w4 ⟨v4, rfl, hu4, hgr4⟩
            have hS4 := hS2.growX hgr4 hu4
            have hB4 := hS4.bel.size
            go_wp2_with (first
              | (at_builtin; refine app_tok _ rfl (.tmp 72) (.tmp 76) rfl w.heap.size _ T rfl (hS4.hT.alloc _) _ 48 (N : Int) rfl (by simp) (by simp) (by omega) (by simp; omega) ?_; intro v5 w5 hv5 hold5 hgr5; have hS5 := hS4.growT hgr5.after_alloc hv5))
            go_roundw
            case rel => exact ⟨k + 1, (X' ++ [32]) ++ Ex.dg N, T ++ [(48, (N : Int))], true, by omega, by go_num, rfl, (HS.out.blank 32 (.inl rfl)).num N hNle, by simp; omega, by simp; omega, (fun c hc => by
              rcases List.mem_append.1 hc with h | h
              · exact HXB2.out c h
              · exact HDG.out c h), hS5.hX, hS5.hT, hS5.auv, hS5.bel⟩
            case measure => simp [intOf]; omega
    · have hkd : decide ((k : Int) < (n : Int)) = false := decide_eq_false (by omega)
      obtain ⟨L, hL⟩ : ∃ L : Int, 97 + bad % 26 = L := ⟨_, rfl⟩
      have hL1 : 97 ≤ L ∧ L ≤ 122 := by omega
      have hg : tail % 3 = 0 ∨ tail % 3 = 1 ∨ tail % 3 = 2 := by omega
      have hd20 := Ex.dg_len20 9223372036854775808
      have HDG : Hid (∀ c ∈ Ex.dg 9223372036854775808, 0 ≤ c ∧ c ≤ 255) := fun c hc => by have := Ex.dg_dig _ c hc; omega
      rcases hg with hg | hg | hg
      · obtain ⟨a3, c3, rfl, _, _⟩ := hX.shape
        obtain ⟨sx, hcx, hsx, hsxz⟩ := conv_own hX HXB.out
        obtain ⟨m3, hm3⟩ : ∃ m3, X.length = m3 := ⟨_, rfl⟩
        rw [hm3] at hcx hsxz hX ⊢
        have HE : Hid (bz (sb sx) [] none = (0, T)) := by show _ = _; rw [hsx]; exact HS.out.ok
        have hsz : sx.size ≤ 100000 := by omega
        clear hsx hsxz HS HXB hX
        go_wp2_with fail
        refine (token_any sx wr (by omega)).mono ?_
        rintro e w4 ⟨v4, c4, rfl, hb4, h4⟩
        have hx : Below w.heap.size w w4 := hb.trans (hb4.mono hb.size)
        rw [HE.out] at h4
        have h5 : c4 = 0 ∧ OwnT w4 wr.heap.size v4 T := by
          rcases h4 with ⟨e1, e2, e3⟩ | ⟨o, e1, rfl, e3⟩
          · cases e1; exact absurd rfl e2
          · cases e1; exact ⟨rfl, e3⟩
        obtain ⟨rfl, h6⟩ := h5
        obtain ⟨a5, k5, rfl, m5, t5⟩ := (hTT.below hb4).toks'
        obtain ⟨a6, k6, rfl, m6, t6⟩ := h6.toks'
        clear h4 h6 hcx
        go_wp2_with fail
        refine (bsame_any a6 a5 T.length T.length k6 k5 T T w4 t6 t5).mono ?_
        rintro e w7 ⟨rfl, hb7⟩
        have d3 : decide (T = T) = true := by simp
        rw [d3]
        go_wp2_with fail
        go_ret
        exact ⟨rfl, hx.trans (hb7.mono hx.size)⟩
      · go_wp2_with (first
          | (at_builtin; refine app_int _ 39 5 .u8 1 Ybtm.underlying39 Ybtm.infoU8 (by omega) rfl (.tmp 84) (.tmp 86) rfl w.heap.size _ X rfl (hX.alloc _) _ L rfl (by first | (simp; done) | (simp; omega)) (by omega) (by simp; omega) ?_; intro u2 w2 hu2 huo2 hgr2; have hb2 := below_app hb hB hX.baseLe hgr2.after_alloc; have hB2 := hb2.size))
        refine (bdigits_any w.heap.size _ (X ++ [L]) 9223372036854775808 _ hu2 (by omega) (by simp; omega) (by omega)).mono ?_
        rintro e w4 ⟨v4, rfl, hu4, hgr4⟩
        have hbz := below_app hb2 hB2 hu2.baseLe hgr4
        have HFB : Hid (∀ c ∈ X ++ [L] ++ Ex.dg 9223372036854775808, 0 ≤ c ∧ c ≤ 255) := (fun c hc => by
          rcases List.mem_append.1 hc with h | h
          · rcases List.mem_append.1 h with h | h
            · exact HXB.out c h
            · simp at h; omega
          · exact HDG.out c h)
        clear hu2 huo2 hgr2 hgr4 hb2
        obtain ⟨a3, c3, rfl, _, _⟩ := hu4.shape
        obtain ⟨sx, hcx, hsx, hsxz⟩ := conv_own hu4 HFB.out
        have HE : Hid (bz (sb sx) [] none = (1, [])) := by show _ = _; rw [hsx]; exact (by rw [List.append_assoc]; exact HS.out.bad L hL1 _)
        have hsz : sx.size ≤ 100000 := by rw [hsxz]; simp; omega
        obtain ⟨m3, hm3⟩ : ∃ m3, (X ++ [L] ++ Ex.dg 9223372036854775808).length = m3 := ⟨_, rfl⟩
        rw [hm3] at hcx ⊢
        clear hsx hsxz HS HXB HFB hm3
        go_wp2_with fail
        refine (token_any sx w4 (by omega)).mono ?_
        rintro e w6 ⟨v6, c6, rfl, hb6, h6⟩
        have hx : Below w.heap.size w w6 := hbz.trans (hb6.mono hbz.size)
        rw [HE.out] at h6
        have h7 : c6 = 1 ∧ v6 = .slice none 0 0 := by
          rcases h6 with ⟨e1, e2, e3⟩ | ⟨o, e1, rfl, e3⟩
          · cases e1; exact ⟨rfl, e3⟩
          · cases e1
        obtain ⟨rfl, rfl⟩ := h7
        have hnil := nilEq
        clear h6 hcx
        go_wp2_with fail
        go_ret
        exact ⟨rfl, hx⟩
      · go_wp2_with (first
          | (at_builtin; refine app_int _ 39 5 .u8 1 Ybtm.underlying39 Ybtm.infoU8 (by omega) rfl (.tmp 93) (.tmp 94) rfl w.heap.size _ X rfl (hX.alloc _) _ 32 rfl (by simp) (by omega) (by simp; omega) ?_; intro u2 w2 hu2 huo2 hgr2; have hb2 := below_app hb hB hX.baseLe hgr2.after_alloc; have hB2 := hb2.size))
        refine (bdigits_any w.heap.size _ (X ++ [32]) 9223372036854775808 _ hu2 (by omega) (by simp; omega) (by omega)).mono ?_
        rintro e w4 ⟨v4, rfl, hu4, hgr4⟩
        have hb4 := below_app hb2 hB2 hu2.baseLe hgr4
        have hB4 := hb4.size
        have hl4 : (X ++ [32] ++ Ex.dg 9223372036854775808).length < 50000 := by simp; omega
        have HFB1 : Hid (∀ c ∈ X ++ [32] ++ Ex.dg 9223372036854775808, 0 ≤ c ∧ c ≤ 255) := (fun c hc => by
          rcases List.mem_append.1 hc with h | h
          · rcases List.mem_append.1 h with h | h
            · exact HXB.out c h
            · simp at h; omega
          · exact HDG.out c h)
        clear hu2 huo2 hgr2 hgr4 hb2
        have HO : Hid (bz (X ++ [32] ++ Ex.dg 9223372036854775808 ++ [L]) [] none = (3, [])) := HS.out.over [L]
        generalize X ++ [32] ++ Ex.dg 9223372036854775808 = Y at hu4 hl4 HFB1 HO
        go_wp2_with (first
          | (at_builtin; refine app_int _ 39 5 .u8 1 Ybtm.underlying39 Ybtm.infoU8 (by omega) rfl (.tmp 98) (.tmp 100) rfl w.heap.size _ Y rfl (hu4.alloc _) _ L rfl (by first | (simp; done) | (simp; omega)) (by omega) (by simp; omega) ?_; intro u5 w5 hu5 huo5 hgr5; have hbz := below_app hb4 hB4 hu4.baseLe hgr5.after_alloc; have HFB : Hid (∀ c ∈ Y ++ [L], 0 ≤ c ∧ c ≤ 255) := (fun c hc => (List.mem_append.1 hc).elim (fun h => HFB1.out c h) (fun h => by simp at h; omega)); obtain ⟨a3, c3, rfl, _, _⟩ := hu5.shape; rw [show (Y ++ [L]).length = Y.length + 1 from (by simp)] at hu5 ⊢; obtain ⟨sx, hcx, hsx, hsxz⟩ := conv_own hu5 HFB.out))
        have HE : Hid (bz (sb sx) [] none = (3, [])) := by show _ = _; rw [hsx]; exact HO.out
        have hsz : sx.size ≤ 100000 := by rw [hsxz]; omega
        clear hsx hsxz HS HXB HFB HO
        go_wp2_with fail
        refine (token_any sx w5 (by omega)).mono ?_
        rintro e w6 ⟨v6, c6, rfl, hb6, h6⟩
        have hx : Below w.heap.size w w6 := hbz.trans (hb6.mono hbz.size)
        rw [HE.out] at h6
        have h7 : c6 = 3 ∧ v6 = .slice none 0 0 := by
          rcases h6 with ⟨e1, e2, e3⟩ | ⟨o, e1, rfl, e3⟩
          · cases e1; exact ⟨rfl, e3⟩
          · cases e1
        obtain ⟨rfl, rfl⟩ := h7
        have hnil := nilEq
        clear h6 hcx
        go_wp2_with fail
        go_ret
        exact ⟨rfl, hx⟩
end Go.Proofs.Ymbrbt
