import Derived.Test.YmbrbuHPutWalk
import Derived.BigQuiet
import Derived.Deep.Cut
import Derived.Deep.CutRange
set_option linter.unusedVariables false
set_option linter.unusedSimpArgs false
set_option linter.unnecessarySimpa false
namespace Go.Proofs.Ymbrbu
open Go.RowKit

abbrev Nd := 66
/-- a variable of three cells, as a row of one element -/
abbrev Var3 (w : World) (base g : Nat) (x y z : Value) : Prop := OwnR Nd 3 w base (.slice (some ⟨g, 0, none⟩) 1 1) [[x, y, z]]
theorem Var3.lit (w : World) (base : Nat) (x y z : Value) (hb : base ≤ w.heap.size) : Var3 (w.alloc (.cells #[x, y, z] Nd)) base w.heap.size x y z :=
  ⟨World.ownsRow_lit w #[x, y, z] 1 hb (by unfold maxLen; omega) rfl, fun l hl => by simp at hl; subst hl; rfl⟩
theorem Var3.cells {w : World} {base g : Nat} {x y z : Value} (h : Var3 w base g x y z) : w.cell? ⟨g, 0, none⟩ = some x ∧ w.cell? ⟨g, 1, none⟩ = some y ∧ w.cell? ⟨g, 2, none⟩ = some z ∧ w.frozen? ⟨g, 0, none⟩ = false ∧ w.frozen? ⟨g, 1, none⟩ = false ∧ w.frozen? ⟨g, 2, none⟩ = false := by
  have a := h.cellAt 0 0 (by simp) (by omega)
  have b := h.cellAt 0 1 (by simp) (by omega)
  have c := h.cellAt 0 2 (by simp) (by omega)
  exact ⟨by simpa using a, by simpa using b, by simpa using c, h.frozenAt _, h.frozenAt _, h.frozenAt _⟩
theorem Var3.set {w : World} {base g : Nat} {x y z : Value} (h : Var3 w base g x y z) (a b c : Value) :
    Var3 (((w.setCell ⟨g, 0, none⟩ a).setCell ⟨g, 1, none⟩ b).setCell ⟨g, 2, none⟩ c) base g a b c ∧ w.grownBy (((w.setCell ⟨g, 0, none⟩ a).setCell ⟨g, 1, none⟩ b).setCell ⟨g, 2, none⟩ c) (some g) := by
  obtain ⟨h1, h2⟩ := World.ownsRow.stored h.1 0 a
  obtain ⟨h3, h4⟩ := World.ownsRow.stored h1 1 b
  obtain ⟨h5, h6⟩ := World.ownsRow.stored h3 2 c
  refine ⟨⟨h5, fun l hl => by simp at hl; subst hl; rfl⟩, ⟨?_, ?_, ?_, ?_, fun k hk hne => ?_⟩⟩
  · exact h6.os.trans (h4.os.trans h2.os)
  · exact h6.tape.trans (h4.tape.trans h2.tape)
  · exact h6.output.trans (h4.output.trans h2.output)
  · exact Nat.le_trans h2.size (Nat.le_trans h4.size h6.size)
  · rw [h6.block k (Nat.lt_of_lt_of_le hk (Nat.le_trans h2.size h4.size)) hne, h4.block k (Nat.lt_of_lt_of_le hk h2.size) hne, h2.block k hk hne]
theorem OwnT.one2 (w : World) (base : Nat) (k v : Int) (hb : base ≤ w.heap.size) : OwnT (w.alloc (.cells #[.int .u8 k, .int .i64 v] 58)) base (.slice (some ⟨w.heap.size, 0, none⟩) 1 1) [(k, v)] :=
  World.ownsRow_lit w _ 1 hb (by unfold maxLen; omega) (by simp)

set_option maxHeartbeats 2000000 in
theorem hnum_any (v : Int) (w : World) : Calls Ybum.prog 31 #[.int .i64 v] w fun e w' => ∃ vi vp, e = .returned (.agg #[vi, vp, .int .i64 3]) ∧ OwnT w' w.heap.size vi [(48, v)] ∧ OwnT w' w.heap.size vp [(48, v)] ∧ Below w.heap.size w w' := by
  go_enter Ybum.func31, Ybum.ntmps31
  go_wp2_with fail
  have X0 : ∀ X : Obj, (w.alloc X).heap.size = w.heap.size + 1 := fun X => by simp
  have X1 : ∀ X Y : Obj, ((w.alloc X).alloc Y).heap.size = w.heap.size + 1 + 1 := fun X Y => by simp
  refine bodyPost_ret (v := .agg #[.slice (some ⟨w.heap.size + 1, 0, none⟩) 1 1, .slice (some ⟨w.heap.size + 1 + 1, 0, none⟩) 1 1, .int .i64 3]) (by simp [results, Ybum.results31, go_sem]) rfl ⟨_, _, rfl, ?_, ?_, ?_⟩
  · have t1 := OwnT.one2 (w.alloc (.cells #[.slice (some ⟨w.heap.size + 1, 0, none⟩) 1 1, .slice (some ⟨w.heap.size + 1 + 1, 0, none⟩) 1 1, .int .i64 3] Nd)) w.heap.size 48 v (by simp)
    rw [X0] at t1
    exact t1.alloc _
  · have t1 := OwnT.one2 ((w.alloc (.cells #[.slice (some ⟨w.heap.size + 1, 0, none⟩) 1 1, .slice (some ⟨w.heap.size + 1 + 1, 0, none⟩) 1 1, .int .i64 3] Nd)).alloc (.cells #[.int .u8 48, .int .i64 v] 58)) w.heap.size 48 v (by simp; omega)
    rw [X1] at t1
    exact t1
  · exact (((Below.refl _ _).alloc (Nat.le_refl _) _).alloc (by simp) _).alloc (by simp; omega) _

/-- a node: its two rows and its strength, read -/
structure Node (w : World) (base : Nat) (vi vp : Value) (q : Int) (I P : List Tk) : Prop where
  hi : OwnT w base vi I
  hp : OwnT w base vp P
  he : Expr q I P
  q1 : 1 ≤ q
  q3 : q ≤ 3
theorem Node.below {w w' : World} {base : Nat} {vi vp : Value} {q : Int} {I P : List Tk} (h : Node w base vi vp q I P) (hb : Below w.heap.size w w') : Node w' base vi vp q I P := ⟨h.hi.below hb, h.hp.below hb, h.he, h.q1, h.q3⟩
theorem Node.alloc {w : World} {base : Nat} {vi vp : Value} {q : Int} {I P : List Tk} (h : Node w base vi vp q I P) (o : Obj) : Node (w.alloc o) base vi vp q I P := ⟨h.hi.alloc o, h.hp.alloc o, h.he, h.q1, h.q3⟩
theorem prn_expr {p q : Int} {I P : List Tk} (par : Bool) (h : Expr q I P) (hq : 1 ≤ q) (hp : par = false → p ≤ q) (hp3 : p ≤ 3) : Expr p (prn par I) P := by
  cases par
  · exact h.mono (hp rfl)
  · exact (h.paren 0 0 3 hq).mono hp3
theorem join_expr {ql qr p : Int} {li lp ri rp : List Tk} {k x : Int} (b1 b2 : Bool) (hl : Expr ql li lp) (hr : Expr qr ri rp) (h1 : 1 ≤ ql) (h2 : 1 ≤ qr) (hk : Ex.prec k = p) (hp : 1 ≤ p) (g1 : b1 = false → p ≤ ql) (g2 : b2 = false → p < qr) :
    Expr p (prn b1 li ++ (k, x) :: prn b2 ri) (lp ++ rp ++ [(k, x)]) := by
  have hp2 : p ≤ 2 := by rw [← hk]; rcases Ex.prec_cases k with h | h | h <;> omega
  exact Expr.join (prn_expr (p := p) b1 hl h1 g1 (by omega)) (prn_expr (p := p + 1) b2 hr h2 (fun h => by have := g2 h; omega) (by omega)) hk hp (Int.le_refl _) (by omega)

theorem OwnT.blk {w : World} {base : Nat} {a : Option Addr} {n c : Nat} {ts : List Tk} (h : OwnT w base (.slice a n c) ts) : ∀ x, a = some x → x.block < w.heap.size := by
  intro x hx
  rcases h.2 with ⟨h0, _⟩ | ⟨g, cap, cur, hv, _⟩
  · cases h0; cases hx
  · simp at hv
    obtain ⟨rfl, _, _⟩ := hv
    cases hx
    exact (h.lt g rfl).2
theorem OwnT.slice' {w : World} {base : Nat} {v : Value} {ts : List Tk} (h : OwnT w base v ts) : ∃ a L c, v = .slice a L c := by
  obtain ⟨a, c, e, _⟩ := h.toks
  exact ⟨a, _, c, e⟩
/-- what hjoin's boxes hold -/
structure JB (w wq : World) (b0 : Nat) (a1 a2 a3 a4 : Option Addr) (c1 c2 c3 c4 : Nat) (ql qr k x : Int) (li lp ri rp : List Tk) : Prop where
  L : Var3 wq w.heap.size w.heap.size (.slice a1 li.length c1) (.slice a2 lp.length c2) (.int .i64 ql)
  R : Var3 wq w.heap.size (w.heap.size + 1) (.slice a3 ri.length c3) (.slice a4 rp.length c4) (.int .i64 qr)
  O : OwnT wq w.heap.size (.slice (some ⟨w.heap.size + 1 + 1, 0, none⟩) 1 1) [(k, x)]
  Z : Var3 wq w.heap.size (w.heap.size + 1 + 1 + 1) (.slice none 0 0) (.slice none 0 0) (.int .i64 0)
  nl : Node wq b0 (.slice a1 li.length c1) (.slice a2 lp.length c2) ql li lp
  nr : Node wq b0 (.slice a3 ri.length c3) (.slice a4 rp.length c4) qr ri rp
  bel : Below w.heap.size w wq
section
variable {w wq wz : World} {b0 : Nat} {a1 a2 a3 a4 : Option Addr} {c1 c2 c3 c4 : Nat} {ql qr k x : Int} {li lp ri rp : List Tk}
theorem JB.below (h : JB w wq b0 a1 a2 a3 a4 c1 c2 c3 c4 ql qr k x li lp ri rp) (hb : Below wq.heap.size wq wz) : JB w wz b0 a1 a2 a3 a4 c1 c2 c3 c4 ql qr k x li lp ri rp :=
  ⟨OwnR.below h.L hb, OwnR.below h.R hb, h.O.below hb, OwnR.below h.Z hb, h.nl.below hb, h.nr.below hb, h.bel.trans (hb.mono h.bel.size)⟩
theorem JB.cl (h : JB w wq b0 a1 a2 a3 a4 c1 c2 c3 c4 ql qr k x li lp ri rp) : wq.cell? ⟨w.heap.size, 0, none⟩ = some (.slice a1 li.length c1) ∧ wq.cell? ⟨w.heap.size, 1, none⟩ = some (.slice a2 lp.length c2) ∧ wq.cell? ⟨w.heap.size, 2, none⟩ = some (.int .i64 ql) := by
  obtain ⟨a, b, c, _⟩ := Var3.cells h.L
  exact ⟨a, b, c⟩
theorem JB.cr (h : JB w wq b0 a1 a2 a3 a4 c1 c2 c3 c4 ql qr k x li lp ri rp) : wq.cell? ⟨w.heap.size + 1, 0, none⟩ = some (.slice a3 ri.length c3) ∧ wq.cell? ⟨w.heap.size + 1, 1, none⟩ = some (.slice a4 rp.length c4) ∧ wq.cell? ⟨w.heap.size + 1, 2, none⟩ = some (.int .i64 qr) := by
  obtain ⟨a, b, c, _⟩ := Var3.cells h.R
  exact ⟨a, b, c⟩
theorem JB.co (h : JB w wq b0 a1 a2 a3 a4 c1 c2 c3 c4 ql qr k x li lp ri rp) : wq.cell? ⟨w.heap.size + 1 + 1, 0, none⟩ = some (.int .u8 k) ∧ wq.cell? ⟨w.heap.size + 1 + 1, 1, none⟩ = some (.int .i64 x) := by
  obtain ⟨a, b⟩ := h.O.cells 0 (by simp)
  exact ⟨by simpa [Ex.kAt] using a, by simpa [Ex.vAt] using b⟩
end
theorem JB.init {w : World} {b0 : Nat} {a1 a2 a3 a4 : Option Addr} {c1 c2 c3 c4 : Nat} {ql qr k x : Int} {li lp ri rp : List Tk} (hl : Node w b0 (.slice a1 li.length c1) (.slice a2 lp.length c2) ql li lp) (hr : Node w b0 (.slice a3 ri.length c3) (.slice a4 rp.length c4) qr ri rp) :
    JB w ((((w.alloc (.cells #[.slice a1 li.length c1, .slice a2 lp.length c2, .int .i64 ql] Nd)).alloc (.cells #[.slice a3 ri.length c3, .slice a4 rp.length c4, .int .i64 qr] Nd)).alloc (.cells #[.int .u8 k, .int .i64 x] 58)).alloc (.cells #[.slice none 0 0, .slice none 0 0, .int .i64 0] Nd)) b0 a1 a2 a3 a4 c1 c2 c3 c4 ql qr k x li lp ri rp := by
  have X0 : ∀ X : Obj, (w.alloc X).heap.size = w.heap.size + 1 := fun X => by simp
  have X1 : ∀ X Y : Obj, ((w.alloc X).alloc Y).heap.size = w.heap.size + 1 + 1 := fun X Y => by simp
  have X2 : ∀ X Y Z : Obj, (((w.alloc X).alloc Y).alloc Z).heap.size = w.heap.size + 1 + 1 + 1 := fun X Y Z => by simp
  refine ⟨?_, ?_, ?_, ?_, (((hl.alloc _).alloc _).alloc _).alloc _, (((hr.alloc _).alloc _).alloc _).alloc _, ((((Below.refl _ _).alloc (Nat.le_refl _) _).alloc (by simp) _).alloc (by simp; omega) _).alloc (by simp; omega) _⟩
  · exact OwnR.alloc (OwnR.alloc (OwnR.alloc (Var3.lit w w.heap.size _ _ _ (Nat.le_refl _)) _) _) _
  · have h := Var3.lit (w.alloc (.cells #[.slice a1 li.length c1, .slice a2 lp.length c2, .int .i64 ql] Nd)) w.heap.size (.slice a3 ri.length c3) (.slice a4 rp.length c4) (.int .i64 qr) (by simp)
    rw [X0] at h
    exact OwnR.alloc (OwnR.alloc h _) _
  · have h := OwnT.one2 ((w.alloc (.cells #[.slice a1 li.length c1, .slice a2 lp.length c2, .int .i64 ql] Nd)).alloc (.cells #[.slice a3 ri.length c3, .slice a4 rp.length c4, .int .i64 qr] Nd)) w.heap.size k x (by simp; omega)
    rw [X1] at h
    exact h.alloc _
  · have h := Var3.lit (((w.alloc (.cells #[.slice a1 li.length c1, .slice a2 lp.length c2, .int .i64 ql] Nd)).alloc (.cells #[.slice a3 ri.length c3, .slice a4 rp.length c4, .int .i64 qr] Nd)).alloc (.cells #[.int .u8 k, .int .i64 x] 58)) w.heap.size (.slice none 0 0) (.slice none 0 0) (.int .i64 0) (by simp; omega)
    rw [X2] at h
    exact h

set_option maxRecDepth 100000 in
set_option maxHeartbeats 8000000 in
theorem hjoin_any (b0 : Nat) (li' lp' ri' rp' : Value) (ql qr k x : Int) (li lp ri rp : List Tk) (w : World) (hl : Node w b0 li' lp' ql li lp) (hr : Node w b0 ri' rp' qr ri rp) (hk : 0 < Ex.prec k) (n1 : li.length + ri.length < 1000000) (n2 : lp.length + rp.length < 1000000) :
    Calls Ybum.prog 32 #[.agg #[li', lp', .int .i64 ql], .agg #[ri', rp', .int .i64 qr], .agg #[.int .u8 k, .int .i64 x]] w fun e w' => ∃ vi vp q I, e = .returned (.agg #[vi, vp, .int .i64 q]) ∧ Node w' w.heap.size vi vp q I (lp ++ rp ++ [(k, x)]) ∧ I.length ≤ li.length + ri.length + 5 ∧ Below w.heap.size w w' := by
  obtain ⟨p, hp⟩ : ∃ p, Ex.prec k = p := ⟨_, rfl⟩
  obtain ⟨a1, c1, rfl, e1, -⟩ := hl.hi.toks'
  obtain ⟨a2, c2, rfl, e2, -⟩ := hl.hp.toks'
  obtain ⟨a3, c3, rfl, e3, -⟩ := hr.hi.toks'
  obtain ⟨a4, c4, rfl, e4, -⟩ := hr.hp.toks'
  have hway : (p = 1 ∧ ((k == 43) = true ∨ ((k == 43) = false ∧ (k == 45) = true))) ∨ (p = 2 ∧ (k == 43) = false ∧ (k == 45) = false) := by
    rcases Ex.prec_cases k with ⟨h, rfl | rfl⟩ | ⟨h, rfl | rfl⟩ | ⟨h, _⟩
    · exact .inl ⟨by omega, .inl rfl⟩
    · exact .inl ⟨by omega, .inr ⟨rfl, rfl⟩⟩
    · exact .inr ⟨by omega, rfl, rfl⟩
    · exact .inr ⟨by omega, rfl, rfl⟩
    · omega
  have HJ0 := JB.init (k := k) (x := x) hl hr
  have HP : Hid (Ex.prec k = p) := hp
  have hp1 : 1 ≤ p := by omega
  have hp2 : p ≤ 2 := by rcases hway with h | h <;> omega
  obtain ⟨hql1, hql3⟩ := And.intro hl.q1 hl.q3
  obtain ⟨hqr1, hqr3⟩ := And.intro hr.q1 hr.q3
  have HEL : Hid (Expr ql li lp) := hl.he
  have HER : Hid (Expr qr ri rp) := hr.he
  clear hl hr hp hk
  go_enter Ybum.func32, Ybum.ntmps32
  go_upto_region 2 with fail
  go_cut [17] from 10 to 17 (fun b wq => b = .bool (decide (p = 1)) ∧ JB w wq b0 a1 a2 a3 a4 c1 c2 c3 c4 ql qr k x li lp ri rp)
  case first =>
    rcases hway with ⟨hp', y1 | ⟨y1, y2⟩⟩ | ⟨hp', y1, y2⟩
    all_goals
      have dp : decide (p = 1) = decide (p = 1) := rfl
      conv at dp => rhs; rw [hp']
      go_wp2_with fail
      go_meet
      case rel => exact ⟨by rw [dp]; rfl, HJ0⟩
  case rest =>
    obtain ⟨rfl, hJ⟩ := hcut
    clear HJ0 hway
    go_upto_if 17 with fail
    go_cut [7] from 18 to 18 (fun q wq => q = .int .i64 p ∧ wc = wq)
    case first =>
      have hp12 : p = 1 ∨ p = 2 := by omega
      rcases hp12 with rfl | rfl
      all_goals
        go_wp2_with fail
        go_meet
        case rel => exact ⟨rfl, rfl⟩
    case rest =>
      obtain ⟨rfl, hw⟩ := hcut
      subst hw
      obtain ⟨wd, rfl⟩ : ∃ wd, wd = wc := ⟨wc, rfl⟩
      have hbw := hJ.bel
      have hbws := hbw.size
      obtain ⟨l0, l1, l2⟩ := hJ.cl
      obtain ⟨r0, r1, r2⟩ := hJ.cr
      go_upto_region 5 with (first
        | (at_make; refine make_tok _ rfl _ _ rfl wd.heap.size _ _ _ (li.length + ri.length + 5) rfl rfl (by omega) (by omega) (by omega) ?_; intro w1 hown1 hb1 hlt1))
      clear l0 l1 l2 r0 r1 r2
      go_cut [8] from 18 to 40 (fun v wq => ∃ b1 : Bool, (b1 = false → p ≤ ql) ∧ OwnT wq wd.heap.size v (prn b1 li) ∧ Below wd.heap.size wd wq)
      case first =>
        have hJ1 := hJ.below hb1
        obtain ⟨l0, l1, l2⟩ := hJ1.cl
        obtain ⟨o0, o1⟩ := hJ1.co
        have tl := hJ1.nl.hi.toksAt
        by_cases hq : ql < p
        · go_wp2_with fail
          refine (hput_loop wd.heap.size li true _ [] (prn true li) a1 li.length c1 w1 rfl hown1 tl hJ.nl.hi.blk hb1.size (by simp; omega)).mono ?_
          rintro e w2 ⟨v2, rfl, hown2, hgr2⟩
          go_wp2_with fail
          go_meet
          case rel => exact ⟨true, (fun h => by cases h), hown2, below_app hb1 hb1.size hown1.base hgr2⟩
        · have dq : decide (ql < p) = false := decide_eq_false hq
          obtain ⟨b1, hbb⟩ : ∃ b1, (bits BinOp.and .i64 x 3 == 3) = b1 := ⟨_, rfl⟩
          go_wp2_with fail
          refine (hput_loop wd.heap.size li b1 _ [] (prn b1 li) a1 li.length c1 w1 rfl hown1 tl hJ.nl.hi.blk hb1.size (by simp; omega)).mono ?_
          rintro e w2 ⟨v2, rfl, hown2, hgr2⟩
          go_wp2_with fail
          go_meet
          case rel => exact ⟨b1, (fun _ => by omega), hown2, below_app hb1 hb1.size hown1.base hgr2⟩
      case rest =>
        obtain ⟨b1, hb1f, hown2, hb2⟩ := hcut
        clear hown1 hb1 hlt1
        obtain ⟨w2, rfl⟩ : ∃ w2, w2 = wc := ⟨wc, rfl⟩
        have hJ2 := hJ.below hb2
        obtain ⟨o0, o1⟩ := hJ2.co
        have hB2 := hb2.size
        have hpl := prn_len b1 li
        obtain ⟨X1, hX1⟩ : ∃ X1, prn b1 li = X1 := ⟨_, rfl⟩
        have HX1 : Hid (prn b1 li = X1) := hX1
        rw [hX1] at hown2 hpl
        clear hX1
        go_upto_region 7 with (first
          | (at_builtin; refine app_tok _ rfl (.tmp 41) (.tmp 43) rfl wd.heap.size _ X1 rfl (hown2.alloc _) _ k x rfl (by simp) (by simp) (by omega) (by simp; omega) ?_; intro v3 w3 hown3 hold3 hgr3; have hb3 := below_app hb2 hB2 hown2.base hgr3.after_alloc))
        go_cut [8] from 45 to 58 (fun v wq => ∃ b2 : Bool, (b2 = false → p < qr) ∧ OwnT wq wd.heap.size v (X1 ++ [(k, x)] ++ prn b2 ri) ∧ Below wd.heap.size wd wq)
        case first =>
          have hJ3 := hJ.below hb3
          obtain ⟨l0, l1, l2⟩ := hJ3.cr
          obtain ⟨o0, o1⟩ := hJ3.co
          have tl := hJ3.nr.hi.toksAt
          by_cases hq : qr ≤ p
          · go_wp2_with fail
            refine (hput_loop wd.heap.size ri true _ (X1 ++ [(k, x)]) _ a3 ri.length c3 w3 rfl hown3 tl hJ.nr.hi.blk hb3.size (by simp; omega)).mono ?_
            rintro e w4 ⟨v4, rfl, hown4, hgr4⟩
            go_wp2_with fail
            go_meet
            case rel => exact ⟨true, (fun h => by cases h), hown4, below_app hb3 hb3.size hown3.base hgr4⟩
          · have dq : decide (qr ≤ p) = false := decide_eq_false hq
            obtain ⟨b2, hbb⟩ : ∃ b2, (bits BinOp.and .i64 x 3 == 2) = b2 := ⟨_, rfl⟩
            go_wp2_with fail
            refine (hput_loop wd.heap.size ri b2 _ (X1 ++ [(k, x)]) _ a3 ri.length c3 w3 rfl hown3 tl hJ.nr.hi.blk hb3.size (by simp; omega)).mono ?_
            rintro e w4 ⟨v4, rfl, hown4, hgr4⟩
            go_wp2_with fail
            go_meet
            case rel => exact ⟨b2, (fun _ => by omega), hown4, below_app hb3 hb3.size hown3.base hgr4⟩
        case rest =>
          obtain ⟨b2, hb2f, hown4, hb4⟩ := hcut
          clear hown3 hold3 hgr3 hb3 hown2 hb2 hJ2 o0 o1 hB2
          obtain ⟨w4, rfl⟩ : ∃ w4, w4 = wc := ⟨wc, rfl⟩
          have hJ4 := hJ.below hb4
          obtain ⟨l0, l1, l2⟩ := hJ4.cl
          obtain ⟨r0, r1, r2⟩ := hJ4.cr
          have hpl2 := prn_len b2 ri
          have HEX : Hid (Expr p (X1 ++ [(k, x)] ++ prn b2 ri) (lp ++ rp ++ [(k, x)])) := by
            have := join_expr (k := k) (x := x) b1 b2 HEL.out HER.out hql1 hqr1 HP.out hp1 hb1f hb2f
            rw [HX1.out] at this
            show Expr _ _ _
            simpa using this
          have hlen : (X1 ++ [(k, x)] ++ prn b2 ri).length ≤ li.length + ri.length + 5 := by simp; omega
          obtain ⟨X2, hX2⟩ : ∃ X2, X1 ++ [(k, x)] ++ prn b2 ri = X2 := ⟨_, rfl⟩
          rw [hX2] at HEX hlen hown4
          have hb4s := hb4.size
          have HI : Hid (OwnT w4 wd.heap.size u8 X2) := hown4
          clear hX2 hpl2 hpl hown4 hb1f hb2f
          go_wp2_with (first
            | (at_make; refine make_tok _ rfl _ _ rfl w4.heap.size _ _ _ (lp.length + rp.length + 1) rfl rfl (by omega) (by omega) (by omega) ?_; intro w5 hown5 hb5 hlt5; have hJ5 := hJ4.below hb5; obtain ⟨l0, l1, l2⟩ := hJ5.cl))
          refine (hput_loop w4.heap.size lp false _ [] lp a2 lp.length c2 w5 (by simp [prn]) hown5 hJ5.nl.hp.toksAt hJ4.nl.hp.blk hb5.size (by simp; omega)).mono ?_
          rintro e w6 ⟨v6, rfl, hown6, hgr6⟩
          have hb6 := below_app hb5 hb5.size hown5.base hgr6
          have hJ6 := hJ4.below hb6
          obtain ⟨r0, r1, r2⟩ := hJ6.cr
          clear hown5 hb5 hlt5 hgr6 hJ5
          go_wp2_with fail
          refine (hput_loop w4.heap.size rp false _ lp (lp ++ rp) a4 rp.length c4 w6 (by simp [prn]) hown6 hJ6.nr.hp.toksAt hJ4.nr.hp.blk hb6.size (by omega)).mono ?_
          rintro e w7 ⟨v7, rfl, hown7, hgr7⟩
          have hb7 := below_app hb6 hb6.size hown6.base hgr7
          have hJ7 := hJ4.below hb7
          obtain ⟨o0, o1⟩ := hJ7.co
          have hb7s := hb7.size
          have hl7 : (lp ++ rp).length < 10000000 := by simp; omega
          obtain ⟨X3, hX3⟩ : ∃ X3, lp ++ rp = X3 := ⟨_, rfl⟩
          rw [hX3] at hown7 hl7 HEX
          have HX3 : Hid (lp ++ rp = X3) := hX3
          clear hX3 hown6 hgr7 hb6 hJ6 r0 r1 r2 l0 l1 l2
          go_wp2_with (first
            | (at_builtin; refine app_tok _ rfl (.tmp 76) (.tmp 78) rfl w4.heap.size _ X3 rfl (hown7.alloc _) _ k x rfl (by simp) (by simp) (by omega) (by simp; omega) ?_; intro v8 w8 hown8 hold8 hgr8; have hb8 := below_app hb7 hb7s hown7.base hgr8.after_alloc; have hJ8 := hJ4.below hb8; obtain ⟨z0, z1, z2, f0, f1, f2⟩ := Var3.cells hJ8.Z; obtain ⟨A8, L8, C8, hv8⟩ := OwnT.slice' hown8; subst hv8; obtain ⟨A9, L9, C9, hv9⟩ := OwnT.slice' HI.out; subst hv9))
          obtain ⟨s1, s2⟩ := Var3.set hJ8.Z (.slice A9 L9 C9) (.slice A8 L8 C8) (.int .i64 p)
          obtain ⟨y0, y1, y2, -⟩ := Var3.cells s1
          have hzl := (OwnR.lt hJ.Z (w.heap.size + 1 + 1 + 1) rfl).2
          refine bodyPost_ret (v := .agg #[.slice A9 L9 C9, .slice A8 L8 C8, .int .i64 p]) (by simp [results, Ybum.results32, go_sem, y0, y1, y2]) rfl ⟨_, _, p, X2, rfl, ⟨?_, ?_, ?_, hp1, by omega⟩, hlen, below_setTok hJ8.bel s2 hJ8.bel.size (by omega)⟩
          · have h9 := HI.out.below hb8
            refine OwnT.mono (World.ownsRow.kept h9 s2 ?_) (show w.heap.size ≤ wd.heap.size by omega)
            cases hk : (Value.slice A9 L9 C9).ownBlock with
            | none => exact .inl rfl
            | some q =>
              have := h9.base q hk
              right; intro e; cases e; omega
          · rw [HX3.out]
            refine OwnT.mono (World.ownsRow.kept hown8 s2 ?_) (show w.heap.size ≤ w4.heap.size by omega)
            cases hk : (Value.slice A8 L8 C8).ownBlock with
            | none => exact .inl rfl
            | some q =>
              have := hown8.base q hk
              right; intro e; cases e; omega
          · rw [HX3.out]; exact HEX.out
end Go.Proofs.Ymbrbu
