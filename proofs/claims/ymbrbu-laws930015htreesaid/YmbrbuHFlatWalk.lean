import Derived.Test.YmbrbuHFlat
import Derived.Test.YmbrbuHsameWalk
import Derived.Test.YmbrbuStepTok
import Derived.Deep.Cut
set_option linter.unusedVariables false
set_option linter.unusedSimpArgs false
set_option linter.unnecessarySimpa false
namespace Go.Proofs.Ymbrbu
open Go.RowKit

set_option maxHeartbeats 400000 in
theorem hop_any (k : Int) (w : World) (h0 : 0 ≤ k) (h1 : k ≤ 255) : Calls Ybum.prog 30 #[.int .u8 k] w fun e w' => e = .returned (.int .u8 (hopK k)) ∧ w' = w := by
  have hk : k % 4 = 0 ∨ k % 4 = 1 ∨ k % 4 = 2 ∨ k % 4 = 3 := by omega
  rcases hk with hk | hk | hk | hk
  all_goals
    have e : hopK k = hopK k := rfl
    conv at e => rhs; unfold hopK; simp [hk]
    rw [e]
    clear e
    go_enter Ybum.func30, Ybum.ntmps30
    go_wp2
    go_ret
    exact ⟨rfl, rfl⟩

def row1 (g : Nat) : Value := .slice (some ⟨g, 0, none⟩) 1 1
theorem row1_own (g : Nat) : (row1 g).ownBlock = some g := rfl
/-- two growing rows and a variable -/
structure R3 (w0 w : World) (u5 : Value) (T : List Tk) (u6 : Value) (E : List Tk) (g8 : Nat) (p : Tk) : Prop where
  h5 : OwnT w w0.heap.size u5 T
  h6 : OwnT w w0.heap.size u6 E
  h8 : OwnT w w0.heap.size (row1 g8) [p]
  n56 : u5.ownBlock ≠ u6.ownBlock
  n85 : some g8 ≠ u5.ownBlock
  n86 : some g8 ≠ u6.ownBlock
  bel : Below w0.heap.size w0 w
structure R5 (w0 w : World) (u5 : Value) (T : List Tk) (u6 : Value) (E : List Tk) (g8 : Nat) (p : Tk) (g11 : Nat) (a : Tk) (g12 : Nat) (c : Tk) : Prop where
  r : R3 w0 w u5 T u6 E g8 p
  h11 : OwnT w w0.heap.size (row1 g11) [a]
  h12 : OwnT w w0.heap.size (row1 g12) [c]
  n115 : some g11 ≠ u5.ownBlock
  n116 : some g11 ≠ u6.ownBlock
  n125 : some g12 ≠ u5.ownBlock
  n126 : some g12 ≠ u6.ownBlock
  n118 : some g11 ≠ some g8
  n128 : some g12 ≠ some g8
theorem R3.grow5 {w0 w w' : World} {u5 u5' u6 : Value} {T T' E : List Tk} {g8 : Nat} {p : Tk} {o : Obj} (h : R3 w0 w u5 T u6 E g8 p) (g : Grew (w.alloc o) w' u5 u5') (hT : OwnT w' w0.heap.size u5' T') : R3 w0 w' u5' T' u6 E g8 p :=
  ⟨hT, (h.h6.alloc o).keeps g (.inr fun e => h.n56 e.symm), (h.h8.alloc o).keeps g (.inr h.n85), fun e => ne_grew g (h.h6.alloc o) (fun e => h.n56 e.symm) e.symm, ne_grew g (h.h8.alloc o) h.n85, h.n86, below_app h.bel h.bel.size h.h5.base g.after_alloc⟩
theorem R3.grow6 {w0 w w' : World} {u5 u6 u6' : Value} {T E E' : List Tk} {g8 : Nat} {p : Tk} {o : Obj} (h : R3 w0 w u5 T u6 E g8 p) (g : Grew (w.alloc o) w' u6 u6') (hE : OwnT w' w0.heap.size u6' E') : R3 w0 w' u5 T u6' E' g8 p :=
  ⟨(h.h5.alloc o).keeps g (.inr h.n56), hE, (h.h8.alloc o).keeps g (.inr h.n86), ne_grew g (h.h5.alloc o) h.n56, h.n85, ne_grew g (h.h8.alloc o) h.n86, below_app h.bel h.bel.size h.h6.base g.after_alloc⟩
theorem R5.grow5 {w0 w w' : World} {u5 u5' u6 : Value} {T T' E : List Tk} {g8 g11 g12 : Nat} {p a c : Tk} {o : Obj} (h : R5 w0 w u5 T u6 E g8 p g11 a g12 c) (g : Grew (w.alloc o) w' u5 u5') (hT : OwnT w' w0.heap.size u5' T') : R5 w0 w' u5' T' u6 E g8 p g11 a g12 c :=
  ⟨h.r.grow5 g hT, (h.h11.alloc o).keeps g (.inr h.n115), (h.h12.alloc o).keeps g (.inr h.n125), ne_grew g (h.h11.alloc o) h.n115, h.n116, ne_grew g (h.h12.alloc o) h.n125, h.n126, h.n118, h.n128⟩
theorem R5.grow6 {w0 w w' : World} {u5 u6 u6' : Value} {T E E' : List Tk} {g8 g11 g12 : Nat} {p a c : Tk} {o : Obj} (h : R5 w0 w u5 T u6 E g8 p g11 a g12 c) (g : Grew (w.alloc o) w' u6 u6') (hE : OwnT w' w0.heap.size u6' E') : R5 w0 w' u5 T u6' E' g8 p g11 a g12 c :=
  ⟨h.r.grow6 g hE, (h.h11.alloc o).keeps g (.inr h.n116), (h.h12.alloc o).keeps g (.inr h.n126), h.n115, ne_grew g (h.h11.alloc o) h.n116, h.n125, ne_grew g (h.h12.alloc o) h.n126, h.n118, h.n128⟩
theorem row1_cells {w : World} {B g : Nat} {p : Tk} (h : OwnT w B (row1 g) [p]) : w.cell? ⟨g, 0, none⟩ = some (.int .u8 p.1) ∧ w.cell? ⟨g, 1, none⟩ = some (.int .i64 p.2) := by
  have := OwnT.cells h 0 (by simp)
  simpa [Ex.kAt, Ex.vAt] using this
theorem keeps_grown {w w' : World} {B g : Nat} {u : Value} {ts : List Tk} (h : OwnT w B u ts) (hg : w.grownBy w' (some g)) (hne : some g ≠ u.ownBlock) : OwnT w' B u ts :=
  World.ownsRow.kept h hg (.inr (fun e => hne e.symm))
theorem R5.set8 {w0 w : World} {u5 u6 : Value} {T E : List Tk} {g8 g11 g12 : Nat} {p a c : Tk} (k v : Int) (h : R5 w0 w u5 T u6 E g8 p g11 a g12 c) :
    R5 w0 ((w.setCell ⟨g8, 0, none⟩ (.int .u8 k)).setCell ⟨g8, 1, none⟩ (.int .i64 v)) u5 T u6 E g8 (k, v) g11 a g12 c := by
  obtain ⟨h1, h2⟩ := OwnT.setTok h.r.h8 rfl 0 (by simp) k v
  have hb : w0.heap.size ≤ g8 := (h.r.h8.lt g8 rfl).1
  exact ⟨⟨keeps_grown h.r.h5 h2 h.r.n85, keeps_grown h.r.h6 h2 h.r.n86, h1, h.r.n56, h.r.n85, h.r.n86, below_setTok h.r.bel h2 h.r.bel.size hb⟩, keeps_grown h.h11 h2 (fun e => h.n118 e.symm), keeps_grown h.h12 h2 (fun e => h.n128 e.symm), h.n115, h.n116, h.n125, h.n126, h.n118, h.n128⟩

theorem hide_wp {P : Program} {c : Code} {Q : Exit → Act → World → Prop} {a : Act} {w : World} {R : World → Prop} (h : R w) (k : ∀ wq, R wq → Code.wp P c Q a wq) : Code.wp P c Q a w := k w h
set_option maxRecDepth 100000 in
set_option maxHeartbeats 10000000 in
theorem hflat_any (x : Int) (a : Option Addr) (n cap : Nat) (rs : List (Int × Int)) (w : World) (ht : Toks w a n cap rs) (hok : TokOk rs) :
    Calls Ybum.prog 11 #[.int .i64 x, .slice a n cap] w fun e w' => e = .returned (.bool true) ∧ Below w.heap.size w w' := by
  have hnc := ht.2.1
  have hcm := ht.2.2.1
  unfold maxLen at hcm
  have HL : Hid (rs.length = n) := ht.1
  have HT : Hid (Toks w a n cap rs) := ht
  have HO : Hid (TokOk rs) := hok
  clear ht hok
  by_cases hn : 1024 < n
  · go_enter Ybum.func11, Ybum.ntmps11
    go_wp2_with fail
    go_ret
    exact ⟨rfl, Below.refl _ _⟩
  have dn : decide ((1024 : Int) < (n : Int)) = false := decide_eq_false (by omega)
  go_enter Ybum.func11, Ybum.ntmps11
  go_wp2_with (first
    | (at_make; refine make_tok _ rfl _ (.tmp 21) rfl w.heap.size _ _ _ (2 * n + 1) rfl rfl (by omega) (by omega) (by omega) ?_; intro w1 hown1 hb1 hlt1)
    | (at_make; refine make_tok _ rfl _ (.tmp 26) rfl w.heap.size _ _ _ (2 * n + 1) rfl rfl (by omega) (by omega) (by omega) ?_; intro w2 hown2 hb2 hlt2; have h12 := hown1.below hb2)
    | (at_builtin; refine app_tok _ rfl (.tmp 28) (.tmp 31) rfl w.heap.size (.slice (some ⟨w.heap.size, 0, none⟩) 0 (2 * n + 1)) [] rfl (h12.alloc _) _ 48 x rfl (by simp) (by simp) (by simp) (by simp; omega) ?_; intro v5 w3 hown3 hold3 hgr3; have h23 := (hown2.alloc _).keeps hgr3 (.inr (by simp [Value.ownBlock]; omega)); have hap3 := ne_grew hgr3 (hown2.alloc _) (by simp [Value.ownBlock]; omega); have hb3 := below_app (hb1.trans (hb2.mono hb1.size)) (by omega) hown1.base hgr3.after_alloc; have hs3 := hb3.size)
    | (at_builtin; refine app_tok _ rfl (.tmp 33) (.tmp 36) rfl w.heap.size (.slice (some ⟨w1.heap.size, 0, none⟩) 0 (2 * n + 1)) [] rfl (h23.alloc _) _ 48 x rfl (by simp) (by simp) (by simp) (by simp; omega) ?_; intro v6 w4 hown4 hold4 hgr4; have h34 := (hown3.alloc _).keeps hgr4 (.inr (fun e => hap3 e.symm)); have hap4 := ne_grew hgr4 (hown3.alloc _) (fun e => hap3 e.symm); have hb4 := below_app hb3 hb3.size h23.base hgr4.after_alloc))
  simp only [List.nil_append] at hown4 h34
  have hone := OwnT.one w4 w.heap.size 0 0 hb4.size
  have hb5 := hb4.alloc hb4.size (.cells #[.int .u8 0, .int .i64 0] 58)
  have hn5 : some w4.heap.size ≠ v5.ownBlock := fun e => by have := (h34.lt _ e.symm).2; omega
  have hn6 : some w4.heap.size ≠ v6.ownBlock := fun e => by have := (hown4.lt _ e.symm).2; omega
  have h5 := h34.alloc (.cells #[.int .u8 0, .int .i64 0] 58)
  have h6 := hown4.alloc (.cells #[.int .u8 0, .int .i64 0] 58)
  have hg8 : w.heap.size ≤ w4.heap.size := hb4.size
  clear hown1 hown2 hown3 hown4 hb1 hb2 hb3 hb4 hlt1 hlt2 h12 h23 h34 hold3 hold4 hgr3 hgr4 hap3 hs3
  generalize hg : w4.heap.size = g8 at hone hn5 hn6 hg8 ⊢
  generalize hW : w4.alloc (.cells #[.int .u8 0, .int .i64 0] 58) = W0 at hone hb5 h5 h6 ⊢
  clear hg hW
  go_loopw [5, 6, 7, 10, 11, 12, 40] (fun v u d _ _ _ i wr => ∃ (k : Nat) (T E P : List Tk) (wt : Bool) (pk pv : Int), k ≤ n ∧ i = .int .i64 k ∧ d = .bool wt ∧ T.length = 2 * k + 1 ∧ E.length ≤ 2 * k + 1 ∧ Hid (FlatI T E P) ∧ Hid (P = if wt then [(pk, pv)] else []) ∧ R3 w wr v T u E g8 (pk, pv)) (fun _ _ _ _ _ _ i _ => n - (intOf i).toNat)
  case atStart => exact ⟨0, _, _, [], false, 0, 0, by omega, rfl, rfl, by simp, by simp, flat_init x, rfl, ⟨h5, h6, hone, hap4, hn5, hn6, hb5⟩⟩
  case round =>
    clear h5 h6 hone hap4 hn5 hn6 hb5
    obtain ⟨k, T, E, P, wt, pk, pv, hk, rfl, rfl, hT, hE, HF, HP, hr⟩ := hrel
    have hB := hr.bel.size
    by_cases hlt : k < n
    · obtain ⟨b, off, rfl, hc⟩ := (HT.out.below hr.bel).2.2.2 (by omega)
      obtain ⟨c1, c2⟩ := hc k hlt
      obtain ⟨o1, o2, o3⟩ := HO.out.at k (by have := HL.out; omega)
      clear hc
      have hki : (k : Int) < (n : Int) := by omega
      go_upto_region 12 with fail
      go_region_held3 (fun w' => w'.cell? ⟨wr.heap.size, 0, none⟩ = some (.int .u8 (Ex.kAt rs k)) ∧ w'.cell? ⟨wr.heap.size, 1, none⟩ = some (.int .i64 (Ex.vAt rs k)))
        (first | go_keep)
        (first
          | (go_at_call 30; refine (hop_any _ _ (by omega) (by omega)).mono ?_; rintro e w' ⟨rfl, rfl⟩))
      go_upto_region 14 with fail
      all_goals
        have hK := hopK_cases (Ex.kAt rs k)
        have hq : R5 w (((wr.alloc (.cells #[.int .u8 (Ex.kAt rs k), .int .i64 (Ex.vAt rs k)] 61)).alloc (.cells #[.int .u8 (hopK (Ex.kAt rs k)), .int .i64 (Ex.kAt rs k)] 58)).alloc (.cells #[.int .u8 48, .int .i64 (Ex.vAt rs k)] 58)).drew
            u5 T u6 E g8 (pk, pv) (wr.heap.size + 1) (hopK (Ex.kAt rs k), Ex.kAt rs k) (wr.heap.size + 1 + 1) (48, Ex.vAt rs k) := by
          have l5 : ∀ q, u5.ownBlock = some q → q < wr.heap.size := fun q e => (hr.h5.lt q e).2
          have l6 : ∀ q, u6.ownBlock = some q → q < wr.heap.size := fun q e => (hr.h6.lt q e).2
          have l8 : g8 < wr.heap.size := (hr.h8.lt g8 rfl).2
          have s1 : (wr.alloc (.cells #[.int .u8 (Ex.kAt rs k), .int .i64 (Ex.vAt rs k)] 61)).heap.size = wr.heap.size + 1 := by simp
          have a11 := OwnT.one (wr.alloc (.cells #[.int .u8 (Ex.kAt rs k), .int .i64 (Ex.vAt rs k)] 61)) w.heap.size (hopK (Ex.kAt rs k)) (Ex.kAt rs k) (by omega)
          have s2 : ((wr.alloc (.cells #[.int .u8 (Ex.kAt rs k), .int .i64 (Ex.vAt rs k)] 61)).alloc (.cells #[.int .u8 (hopK (Ex.kAt rs k)), .int .i64 (Ex.kAt rs k)] 58)).heap.size = wr.heap.size + 1 + 1 := by simp
          have a12 := OwnT.one ((wr.alloc (.cells #[.int .u8 (Ex.kAt rs k), .int .i64 (Ex.vAt rs k)] 61)).alloc (.cells #[.int .u8 (hopK (Ex.kAt rs k)), .int .i64 (Ex.kAt rs k)] 58)) w.heap.size 48 (Ex.vAt rs k) (by omega)
          rw [s1] at a11
          rw [s2] at a12
          refine ⟨⟨(((hr.h5.alloc _).alloc _).alloc _).drew, (((hr.h6.alloc _).alloc _).alloc _).drew, (((hr.h8.alloc _).alloc _).alloc _).drew, hr.n56, hr.n85, hr.n86, (((hr.bel.alloc (by omega) _).alloc (by omega) _).alloc (by omega) _).drew⟩, (a11.alloc _).drew, a12.drew, ?_, ?_, ?_, ?_, ?_, ?_⟩
          · intro e; have := l5 _ e.symm; omega
          · intro e; have := l6 _ e.symm; omega
          · intro e; have := l5 _ e.symm; omega
          · intro e; have := l6 _ e.symm; omega
          · intro e; cases e; omega
          · intro e; cases e; omega
        refine hide_wp (R := fun wz => R5 w wz u5 T u6 E g8 (pk, pv) (wr.heap.size + 1) (hopK (Ex.kAt rs k), Ex.kAt rs k) (wr.heap.size + 1 + 1) (48, Ex.vAt rs k)) hq ?_
        clear hq
        intro wq hq
        clear c1 c2 hr
        obtain ⟨d1, d2⟩ := row1_cells hq.h11
        obtain ⟨d3, d4⟩ := row1_cells hq.h12
        have hB2 := hq.r.bel.size
        go_upto_region 16 with (first
          | (at_builtin; refine app_tok _ rfl (.tmp 54) (.tmp 56) rfl w.heap.size u5 T rfl (hq.r.h5.alloc _) _ (hopK (Ex.kAt rs k)) (Ex.kAt rs k) rfl (by simp) (by simp) (by omega) (by simp; omega) ?_; intro v1 w1q hown1 hold1 hgr1; have hq1 := hq.grow5 hgr1 hown1; obtain ⟨e1, e2⟩ := row1_cells hq1.h11; obtain ⟨e3, e4⟩ := row1_cells hq1.h12; have hB3 := hq1.r.bel.size)
          | (at_builtin; refine app_tok _ rfl (.tmp 58) (.tmp 60) rfl w.heap.size v1 (T ++ [(hopK (Ex.kAt rs k), Ex.kAt rs k)]) rfl (hq1.r.h5.alloc _) _ 48 (Ex.vAt rs k) rfl (by simp) (by simp) (by simp; omega) (by simp; omega) ?_; intro v2 w2q hown2 hold2 hgr2; have hq2 := hq1.grow5 hgr2 hown2))
        have hB4 := hq2.r.bel.size
        clear hq hq1 hold1 hold2 hgr1 hgr2 hown1 hown2 d1 d2 d3 d4 e1 e2 e3 e4
        obtain ⟨d1, d2⟩ := row1_cells hq2.h11
        obtain ⟨d3, d4⟩ := row1_cells hq2.h12
        obtain ⟨d5, d6⟩ := row1_cells hq2.r.h8
        have HTL : Hid ((T ++ [(hopK (Ex.kAt rs k), Ex.kAt rs k)] ++ [(48, Ex.vAt rs k)]).length = 2 * (k + 1) + 1) := by show _ = _; simp; omega
        generalize hKK : hopK (Ex.kAt rs k) = K at *
        clear hKK
        generalize hTT : T ++ [(K, Ex.kAt rs k)] ++ [(48, Ex.vAt rs k)] = T2 at *
        by_cases hm : K = 42 ∨ K = 47
        · have HF2 : Hid (FlatI T2 (E ++ [(48, Ex.vAt rs k)] ++ [(K, Ex.kAt rs k)]) P) := by
            show FlatI _ _ _
            rw [← hTT]; exact flat_mul _ _ HF.out (Ex.prec_2 hm)
          clear hTT hK
          have hor : ((K == 42) = true) ∨ ((K == 42) = false ∧ (K == 47) = true) := by
            rcases hm with rfl | rfl <;> simp
          clear hm
          rcases hor with hor | ⟨hor, hor2⟩
          all_goals
            go_wp2_with (first
              | (at_builtin; refine app_tok _ rfl (.tmp 70) (.tmp 72) rfl w.heap.size u6 E rfl (hq2.r.h6.alloc _) _ 48 (Ex.vAt rs k) rfl (by simp) (by simp) (by omega) (by simp; omega) ?_; intro v3 w3q hown3 hold3 hgr3; have hq3 := hq2.grow6 hgr3 hown3; obtain ⟨e1, e2⟩ := row1_cells hq3.h11; have hB5 := hq3.r.bel.size)
              | (at_builtin; refine app_tok _ rfl (.tmp 74) (.tmp 76) rfl w.heap.size v3 (E ++ [(48, Ex.vAt rs k)]) rfl (hq3.r.h6.alloc _) _ K (Ex.kAt rs k) rfl (by simp) (by simp) (by simp; omega) (by simp; omega) ?_; intro v4 w4q hown4 hold4 hgr4; have hq4 := hq3.grow6 hgr4 hown4))
            go_roundw
            case rel => exact ⟨k + 1, T2, _, P, wt, pk, pv, by omega, by go_num, rfl, HTL.out, by simp; omega, HF2, HP, hq4.r⟩
            case measure => simp [intOf]; omega
        · have hm1 : Ex.prec K = 1 := Ex.prec_1 (by omega)
          have HF2 : Hid (FlatI T2 (E ++ P ++ [(48, Ex.vAt rs k)]) [(K, Ex.kAt rs k)]) := by
            show FlatI _ _ _
            rw [← hTT]; exact flat_add _ _ HF.out hm1
          have n1 : (K == 42) = false := by simp; omega
          have n2 : (K == 47) = false := by simp; omega
          have HP2 : Hid ([(K, Ex.kAt rs k)] = if true then [(K, Ex.kAt rs k)] else []) := rfl
          clear hTT hK hm hm1
          have f1 := OwnT.frozenAt hq2.r.h8 0
          have f2 := OwnT.frozenAt hq2.r.h8 1
          cases wt with
          | true =>
            have eP : P = [(pk, pv)] := HP.out.trans rfl
            subst eP
            go_upto_region 23 with (first
              | (at_builtin; refine app_tok _ rfl (.tmp 79) (.tmp 81) rfl w.heap.size u6 E rfl (hq2.r.h6.alloc _) _ pk pv rfl (by simp) (by simp) (by omega) (by simp; omega) ?_; intro v3 w3q hown3 hold3 hgr3; have hq3 := hq2.grow6 hgr3 hown3; obtain ⟨e1, e2⟩ := row1_cells hq3.h11; obtain ⟨e5, e6⟩ := row1_cells hq3.r.h8; have f3 := OwnT.frozenAt hq3.r.h8 0; have f4 := OwnT.frozenAt hq3.r.h8 1))
            refine hide_wp (R := fun wz => R5 w wz v2 T2 v3 (E ++ [(pk, pv)]) g8 (K, Ex.kAt rs k) (wr.heap.size + 1) (K, Ex.kAt rs k) (wr.heap.size + 1 + 1) (48, Ex.vAt rs k)) (hq3.set8 K (Ex.kAt rs k)) ?_
            clear hq3 hown3 hold3 hgr3 e1 e2 e5 e6 f3 f4 hq2 d1 d2 d3 d4 d5 d6 f1 f2
            intro wz hz
            obtain ⟨d3, d4⟩ := row1_cells hz.h12
            have hB6 := hz.r.bel.size
            go_wp2_with (first
              | (at_builtin; refine app_tok _ rfl (.tmp 84) (.tmp 86) rfl w.heap.size v3 (E ++ [(pk, pv)]) rfl (hz.r.h6.alloc _) _ 48 (Ex.vAt rs k) rfl (by simp) (by simp) (by simp; omega) (by simp; omega) ?_; intro v4 w4q hown4 hold4 hgr4; have hq4 := hz.grow6 hgr4 hown4))
            go_roundw
            case rel => exact ⟨k + 1, T2, _, _, true, K, Ex.kAt rs k, by omega, by go_num, rfl, HTL.out, by simp; omega, HF2, HP2, hq4.r⟩
            case measure => simp [intOf]; omega
          | false =>
            have eP : P = [] := HP.out.trans rfl
            subst eP
            rw [List.append_nil] at HF2
            go_upto_region 23 with fail
            refine hide_wp (R := fun wz => R5 w wz v2 T2 u6 E g8 (K, Ex.kAt rs k) (wr.heap.size + 1) (K, Ex.kAt rs k) (wr.heap.size + 1 + 1) (48, Ex.vAt rs k)) (hq2.set8 K (Ex.kAt rs k)) ?_
            clear hq2 d1 d2 d3 d4 d5 d6 f1 f2
            intro wz hz
            obtain ⟨d3, d4⟩ := row1_cells hz.h12
            have hB6 := hz.r.bel.size
            go_wp2_with (first
              | (at_builtin; refine app_tok _ rfl (.tmp 84) (.tmp 86) rfl w.heap.size u6 E rfl (hz.r.h6.alloc _) _ 48 (Ex.vAt rs k) rfl (by simp) (by simp) (by omega) (by simp; omega) ?_; intro v4 w4q hown4 hold4 hgr4; have hq4 := hz.grow6 hgr4 hown4))
            go_roundw
            case rel => exact ⟨k + 1, T2, _, _, true, K, Ex.kAt rs k, by omega, by go_num, rfl, HTL.out, by simp; omega, HF2, HP2, hq4.r⟩
            case measure => simp [intOf]; omega
    · have hkn : decide ((k : Int) < (n : Int)) = false := decide_eq_false (by omega)
      have HE : Hid (tp T = some (E ++ P)) := flat_end HF.out
      have hT3 : T.length ≤ 3000 := by omega
      clear HF hT
      cases wt with
      | true =>
        have eP : P = [(pk, pv)] := HP.out.trans rfl
        subst eP
        obtain ⟨d5, d6⟩ := row1_cells hr.h8
        go_wp2_with (first
          | (at_builtin; refine app_tok _ rfl (.tmp 90) (.tmp 92) rfl w.heap.size u6 E rfl (hr.h6.alloc _) _ pk pv rfl (by simp) (by simp) (by omega) (by simp; omega) ?_; intro v3 w3q hown3 hold3 hgr3; have hq3 := hr.grow6 hgr3 hown3; generalize E ++ [(pk, pv)] = E2 at hq3 HE hown3; clear hown3 hold3 hgr3; obtain ⟨aT, cT, rfl, hnT, hTT⟩ := hq3.h5.toks'; obtain ⟨aE, cE, rfl, hnE, hTE⟩ := hq3.h6.toks'))
        refine (topost_any aT T.length cT T _ hTT (by omega)).mono ?_
        rintro e w5 ⟨v, c, rfl, hb5, hor⟩
        rcases hor with ⟨h0, _, _⟩ | ⟨out, h0, rfl, hown5⟩
        · rw [HE.out] at h0; cases h0
        rw [HE.out] at h0
        cases h0
        obtain ⟨aO, cO, rfl, hnO, hTO⟩ := hown5.toks'
        have hx5 := hq3.bel.trans (hb5.mono hq3.bel.size)
        go_wp2_with fail
        refine (hsame_any _ _ _ _ _ _ E2 E2 _ hTO (hTE.below hb5)).mono ?_
        rintro e w6 ⟨rfl, hb6⟩
        have dt : decide (E2 = E2) = true := by simp
        rw [dt]
        go_wp2_with fail
        go_ret
        exact ⟨rfl, hx5.trans (hb6.mono hx5.size)⟩
      | false =>
        have eP : P = [] := HP.out.trans rfl
        subst eP
        rw [List.append_nil] at HE
        obtain ⟨aT, cT, rfl, hnT, hTT⟩ := hr.h5.toks'
        obtain ⟨aE, cE, rfl, hnE, hTE⟩ := hr.h6.toks'
        go_wp2_with fail
        refine (topost_any aT T.length cT T _ hTT (by omega)).mono ?_
        rintro e w5 ⟨v, c, rfl, hb5, hor⟩
        rcases hor with ⟨h0, _, _⟩ | ⟨out, h0, rfl, hown5⟩
        · rw [HE.out] at h0; cases h0
        rw [HE.out] at h0
        cases h0
        obtain ⟨aO, cO, rfl, hnO, hTO⟩ := hown5.toks'
        have hx5 := hr.bel.trans (hb5.mono hr.bel.size)
        go_wp2_with fail
        refine (hsame_any _ _ _ _ _ _ E E _ hTO (hTE.below hb5)).mono ?_
        rintro e w6 ⟨rfl, hb6⟩
        have dt : decide (E = E) = true := by simp
        rw [dt]
        go_wp2_with fail
        go_ret
        exact ⟨rfl, hx5.trans (hb6.mono hx5.size)⟩
end Go.Proofs.Ymbrbu
