import Derived.Test.YmbrbuHJoinWalk
import Derived.Test.YmbrbuHFlatWalk
import Derived.Test.YmbrbuHsameWalk
import Derived.Deep.RegionWith
set_option linter.unusedVariables false
set_option linter.unusedSimpArgs false
set_option linter.unnecessarySimpa false
namespace Go.Proofs.Ymbrbu
open Go.RowKit

theorem Ybum.infoNode : (Ybum.prog.info? Nd).map (fun i => (i.zero, i.size, i.bytes)) = some (some (.agg #[.slice none 0 0, .slice none 0 0, .int .i64 0]), 3, 56) := by kernel_rfl
theorem new3 (w : World) (t : TypeId) (x y z : Value) : ∀ j u, [x, y, z][j]? = some u → (w.alloc (.cells #[x, y, z] t)).cell? ⟨w.heap.size, j, none⟩ = some u := by
  intro j u h
  match j, h with
  | 0, h => simp at h; subst h; simp
  | 1, h => simp at h; subst h; simp
  | 2, h => simp at h; subst h; simp
  | j + 3, h => simp at h
theorem hopK_pos (k : Int) : 0 < Ex.prec (hopK k) := by
  unfold hopK
  repeat' split
  all_goals decide
structure E3 where
  vi : Value
  vp : Value
  q : Int
  I : List Tk
  P : List Tk
def vals3 (E : List E3) : List (List Value) := E.reverse.map fun e => [e.vi, e.vp, .int .i64 e.q]
theorem vals3_len (E : List E3) : (vals3 E).length = E.length := by simp [vals3]
theorem vals3_cons (e : E3) (E : List E3) : vals3 (e :: E) = vals3 E ++ [[e.vi, e.vp, .int .i64 e.q]] := by simp [vals3]
theorem vals3_two (a b : E3) (S : List E3) : vals3 (b :: a :: S) = vals3 S ++ [[a.vi, a.vp, .int .i64 a.q], [b.vi, b.vp, .int .i64 b.q]] := by simp [vals3]
theorem vals3_at (a b : E3) (S : List E3) : (vals3 (b :: a :: S))[S.length]? = some [a.vi, a.vp, .int .i64 a.q] ∧ (vals3 (b :: a :: S))[S.length + 1]? = some [b.vi, b.vp, .int .i64 b.q] := by
  rw [vals3_two, ← vals3_len S]
  constructor
  · rw [List.getElem?_append_right (Nat.le_refl _), Nat.sub_self]; rfl
  · rw [List.getElem?_append_right (by omega), show (vals3 S).length + 1 - (vals3 S).length = 1 by omega]; rfl
theorem vals3_take (a b : E3) (S : List E3) : (vals3 (b :: a :: S)).take S.length = vals3 S := by
  rw [vals3_two, ← vals3_len S, List.take_left]
def isz (E : List E3) : Nat := (E.map fun e => e.I.length + 5).sum
def psz (E : List E3) : Nat := (E.map fun e => e.P.length + 1).sum
theorem isz_cons (e : E3) (E : List E3) : isz (e :: E) = e.I.length + 5 + isz E := by simp [isz]
theorem psz_cons (e : E3) (E : List E3) : psz (e :: E) = e.P.length + 1 + psz E := by simp [psz]

theorem Node.mono {w : World} {base base' : Nat} {vi vp : Value} {q : Int} {I P : List Tk} (h : Node w base vi vp q I P) (hb : base' ≤ base) : Node w base' vi vp q I P := ⟨h.hi.mono hb, h.hp.mono hb, h.he, h.q1, h.q3⟩
theorem Node.kept {w w' : World} {base g : Nat} {vi vp : Value} {q : Int} {I P : List Tk} (h : Node w base vi vp q I P) (hg : w.grownBy w' (some g)) (hlt : g < base) : Node w' base vi vp q I P := by
  have key : ∀ {v : Value} {ts : List Tk}, OwnT w base v ts → OwnT w' base v ts := fun {v} {ts} ho => by
    refine World.ownsRow.kept ho hg ?_
    cases hk : v.ownBlock with
    | none => exact .inl rfl
    | some q => have := ho.base q hk; right; intro e; cases e; omega
  exact ⟨key h.hi, key h.hp, h.he, h.q1, h.q3⟩
def slen : Value → Nat
  | .slice _ n _ => n
  | _ => 0
/-- the stack of nodes -/
structure TS (w0 wq : World) (u : Value) (E : List E3) : Prop where
  st : OwnR Nd 3 wq w0.heap.size u (vals3 E)
  en : ∀ e ∈ E, Node wq w0.heap.size e.vi e.vp e.q e.I e.P ∧ Apt e.vi u ∧ Apt e.vp u
  bel : Below w0.heap.size w0 wq
section
variable {w0 wq wz : World} {u u' : Value} {E : List E3}
theorem TS.below (h : TS w0 wq u E) (hb : Below wq.heap.size wq wz) : TS w0 wz u E :=
  ⟨h.st.below hb, fun e he => ⟨(h.en e he).1.below hb, (h.en e he).2⟩, h.bel.trans (hb.mono h.bel.size)⟩
theorem TS.drew (h : TS w0 wq u E) : TS w0 wq.drew u E := h.below (Below.refl _ _).drew
theorem TS.push (h : TS w0 wq u E) (e : E3) (hn : Node wq w0.heap.size e.vi e.vp e.q e.I e.P) (a1 : Apt e.vi u) (a2 : Apt e.vp u) (g : Grew wq wz u u') (hst : OwnR Nd 3 wz w0.heap.size u' (vals3 E ++ [[e.vi, e.vp, .int .i64 e.q]])) : TS w0 wz u' (e :: E) := by
  refine ⟨by rw [vals3_cons]; exact hst, fun x hx => ?_, below_app h.bel h.bel.size h.st.baseLe g⟩
  have key : ∀ y : E3, Node wq w0.heap.size y.vi y.vp y.q y.I y.P → Apt y.vi u → Apt y.vp u → Node wz w0.heap.size y.vi y.vp y.q y.I y.P ∧ Apt y.vi u' ∧ Apt y.vp u' := fun y n b1 b2 =>
    ⟨⟨n.hi.keeps g b1.or, n.hp.keeps g b2.or, n.he, n.q1, n.q3⟩, b1.grow g n.hi, b2.grow g n.hp⟩
  rcases List.mem_cons.1 hx with rfl | hx
  · exact key _ hn a1 a2
  · obtain ⟨n, b1, b2⟩ := h.en x hx
    exact key x n b1 b2
theorem TS.pop2 {a b : E3} {S : List E3} {g N cp : Nat} (h : TS w0 wq (.slice (some ⟨g, 0, none⟩) N cp) (b :: a :: S)) (hN : N = S.length + 2) : TS w0 wq (.slice (some ⟨g, 0, none⟩) S.length cp) S := by
  have := h.st.take S.length (by omega)
  rw [vals3_take] at this
  exact ⟨this, fun e he => by
    obtain ⟨n, b1, b2⟩ := h.en e (by simp [he])
    exact ⟨n, fun k h1 h2 => b1 k h1 h2, fun k h1 h2 => b2 k h1 h2⟩, h.bel⟩
theorem TS.fresh {vi : Value} {I : List Tk} {B : Nat} (h : TS w0 wq u E) (hv : OwnT wz B vi I) (hB : wq.heap.size ≤ B) : Apt vi u := fun k h1 h2 => by
  have := hv.base k h1
  have := (h.st.lt k h2).2
  omega
end

set_option maxRecDepth 100000 in
set_option maxHeartbeats 8000000 in
theorem htree_any (first : Int) (a : Option Addr) (n cap : Nat) (rs : List Tk) (w : World) (ht : Toks w a n cap rs) (hok : TokOk rs) :
    Calls Ybum.prog 12 #[.int .i64 first, .slice a n cap] w fun e w' => e = .returned (.bool true) ∧ Below w.heap.size w w' := by
  have hnc := ht.2.1
  have hcm := ht.2.2.1
  unfold maxLen at hcm
  have HT : Hid (Toks w a n cap rs) := ht
  have HOK : Hid (TokOk rs) := hok
  have HLN : Hid (rs.length = n) := ht.1
  clear ht hok
  by_cases hbig : 512 < n
  · go_enter Ybum.func12, Ybum.ntmps12
    go_wp2_with fail
    go_ret
    exact ⟨rfl, Below.refl _ _⟩
  have d0 : decide ((512 : Int) < (n : Int)) = false := decide_eq_false (by omega)
  go_enter Ybum.func12, Ybum.ntmps12
  go_wp2_with (first
    | (at_make; refine make_row _ 64 Nd (.agg #[.slice none 0 0, .slice none 0 0, .int .i64 0]) 3 56 Ybum.underlying64 Ybum.infoNode (by omega) rfl _ (.tmp 21) rfl w.heap.size _ _ _ (n + 1) rfl rfl (by omega) (by omega) (by omega) ?_; intro w1 hown1 hb1 hlt1))
  have hT1 : TS w w1 (.slice (some ⟨w.heap.size, 0, none⟩) 0 (n + 1)) [] := ⟨hown1, (fun e he => by cases he), hb1⟩
  clear hown1 hb1 hlt1
  refine (hnum_any first w1).mono ?_
  rintro e w2 ⟨vi, vp, rfl, hvi, hvp, hb2⟩
  have hT2 := hT1.below hb2
  have nd : Node w2 w.heap.size vi vp 3 [(48, first)] [(48, first)] := ⟨hvi.mono hT1.bel.size, hvp.mono hT1.bel.size, Expr.num _ _, by omega, by omega⟩
  have ap1 := hT1.fresh hvi (Nat.le_refl _)
  have ap2 := hT1.fresh hvp (Nat.le_refl _)
  obtain ⟨A1, L1, C1, hv1⟩ := OwnT.slice' hvi
  obtain ⟨A2, L2, C2, hv2⟩ := OwnT.slice' hvp
  subst hv1 hv2
  have hB2 := hT2.bel.size
  have hc0 := new3 w2 Nd (.slice A1 L1 C1) (.slice A2 L2 C2) (.int .i64 3)
  clear hvi hvp hT1
  go_wp2_with (first
    | (at_builtin; refine app_row _ 64 Nd (.agg #[.slice none 0 0, .slice none 0 0, .int .i64 0]) 3 56 Ybum.underlying64 Ybum.infoNode rfl (by omega) (by omega) rfl (.tmp 23) (.tmp 26) rfl w.heap.size _ [] rfl (hT2.st.alloc _) _ [.slice A1 L1 C1, .slice A2 L2 C2, .int .i64 3] rfl rfl hc0 (fun u hu => by simp at hu; rcases hu with rfl | rfl | rfl <;> rfl) (by simp) (by simp; omega) ?_; intro u3 w3 hst3 hold3 hgr3))
  have hT3 : TS w w3 u3 [⟨.slice A1 L1 C1, .slice A2 L2 C2, 3, [(48, first)], [(48, first)]⟩] := hT2.push ⟨.slice A1 L1 C1, .slice A2 L2 C2, 3, [(48, first)], [(48, first)]⟩ nd ap1 ap2 hgr3.after_alloc hst3
  clear hst3 hold3 hgr3 hc0 hB2 hT2 nd ap1 ap2 hb2
  go_loopw [5, 7, 8, 9, 10, 30] (fun u _ _ _ _ i wr => ∃ (k : Nat) (E : List E3), k ≤ n ∧ i = .int .i64 k ∧ TS w wr u E ∧ 1 ≤ E.length ∧ E.length ≤ k + 1 ∧ isz E ≤ 6 * (k + 1) ∧ psz E ≤ 2 * (k + 1)) (fun _ _ _ _ _ i _ => n - (intOf i).toNat)
  case atStart => exact ⟨0, _, by omega, rfl, hT3, by simp, by simp, by simp [isz], by simp [psz]⟩
  case round =>
    obtain ⟨k, E, hk, rfl, hT, hE1, hEk, hI, hP⟩ := hrel
    clear hT3
    have hB := hT.bel.size
    obtain ⟨g, cp, hu, hg1, hg2⟩ := hT.st.at (by rw [vals3_len]; omega)
    rw [vals3_len] at hu hg1
    subst hu
    unfold maxLen at hg2
    obtain ⟨N, hN⟩ : ∃ N, E.length = N := ⟨_, rfl⟩
    rw [hN] at hT hE1 hEk hg1 ⊢
    by_cases hlt : k < n
    · obtain ⟨b, off, rfl, hc⟩ := (HT.out.below hT.bel).2.2.2 (by omega)
      obtain ⟨c1, c2⟩ := hc k hlt
      obtain ⟨o1, o2, o3⟩ := HOK.out.at k (by have := HLN.out; omega)
      generalize Ex.kAt rs k = K at c1 o1 o2
      generalize Ex.vAt rs k = V at c2 o3
      have hTa : TS w (wr.alloc (.cells #[.int .u8 K, .int .i64 V] 61)) (.slice (some ⟨g, 0, none⟩) N cp) E := hT.below ((Below.refl _ _).alloc (Nat.le_refl _) _)
      have hBa := hTa.bel.size
      clear hc
      by_cases hodd : K % 2 = 1 ∧ 2 ≤ N
      · obtain ⟨hod, hN2⟩ := hodd
        have dod : (K % 2 == 1) = true := by simpa using hod
        have hN2i : (2 : Int) ≤ (N : Int) := by omega
        obtain ⟨Q, hQ⟩ : ∃ Q, IntKind.u8.wrap (K.tdiv 2) = Q := ⟨_, rfl⟩
        have hQ0 : 0 ≤ Q ∧ Q ≤ 255 := by rw [IntKind.wrap_u8] at hQ; omega
        obtain ⟨hq1, hq2⟩ := hQ0
        go_upto_region 10 with fail
        go_cut [9, 30] from 30 to 77 (fun o i wq => i = .int .i64 k ∧ ∃ go : Nat, o = .pointer (some ⟨go, 0, none⟩) ∧ OwnT wq w.heap.size (.slice (some ⟨go, 0, none⟩) 1 1) [(hopK Q, V)] ∧ TS w wq (.slice (some ⟨g, 0, none⟩) N cp) E)
        case first =>
          have a11 := OwnT.one2 (wr.alloc (.cells #[.int .u8 K, .int .i64 V] 61)) w.heap.size (hopK Q) V (by simp; omega)
          rw [show (wr.alloc (.cells #[.int .u8 K, .int .i64 V] 61)).heap.size = wr.heap.size + 1 by simp] at a11
          have hTb := hTa.below ((Below.refl _ _).alloc (Nat.le_refl _) (.cells #[.int .u8 (hopK Q), .int .i64 V] 58))
          go_region_held3 (fun w' => w'.cell? ⟨wr.heap.size, 0, none⟩ = some (.int .u8 K) ∧ w'.cell? ⟨wr.heap.size, 1, none⟩ = some (.int .i64 V))
            (first | go_keep)
            (first
              | (go_at_call 30; refine (hop_any _ _ (by omega) (by omega)).mono ?_; rintro e w' ⟨rfl, rfl⟩))
          all_goals
            go_wp2_with fail
            go_meet
            case rel => exact ⟨rfl, wr.heap.size + 1, rfl, a11.drew, hTb.drew⟩
        case rest =>
          obtain ⟨rfl, go, rfl, hop, hT2⟩ := hcut
          obtain ⟨w2, rfl⟩ : ∃ w2, w2 = wc := ⟨wc, rfl⟩
          obtain ⟨er, el, S, rfl⟩ : ∃ er el S, E = er :: el :: S := by
            match E, hN, hN2 with
            | er :: el :: S, _, _ => exact ⟨er, el, S, rfl⟩
            | [], h, h2 => simp at h; omega
            | [_], h, h2 => simp at h; omega
          obtain ⟨rvi, rvp, rq, rI, rP⟩ := er
          obtain ⟨lvi, lvp, lq, lI, lP⟩ := el
          obtain ⟨m, hm⟩ : ∃ m, S.length = m := ⟨_, rfl⟩
          obtain ⟨M1, hM1⟩ : ∃ M1, m + 1 = M1 := ⟨_, rfl⟩
          have hNm : N = m + 2 := by rw [← hN, ← hm]; simp
          have va := vals3_at ⟨lvi, lvp, lq, lI, lP⟩ ⟨rvi, rvp, rq, rI, rP⟩ S
          rw [hm, hM1] at va
          have HTB : Hid (∀ W, Below w2.heap.size w2 W → TS w W (.slice (some ⟨g, 0, none⟩) N cp) (⟨rvi, rvp, rq, rI, rP⟩ :: ⟨lvi, lvp, lq, lI, lP⟩ :: S) ∧ OwnT W w.heap.size (.slice (some ⟨go, 0, none⟩) 1 1) [(hopK Q, V)]) := fun W h => ⟨hT2.below h, hop.below h⟩
          rw [isz_cons, isz_cons] at hI
          rw [psz_cons, psz_cons] at hP
          simp only at hI hP
          have HCL : Hid (∀ W, Below w2.heap.size w2 W → (W.cell? ⟨g, m * 3, none⟩ = some lvi ∧ W.cell? ⟨g, m * 3 + 1, none⟩ = some lvp ∧ W.cell? ⟨g, m * 3 + 2, none⟩ = some (.int .i64 lq)) ∧ (W.cell? ⟨g, M1 * 3, none⟩ = some rvi ∧ W.cell? ⟨g, M1 * 3 + 1, none⟩ = some rvp ∧ W.cell? ⟨g, M1 * 3 + 2, none⟩ = some (.int .i64 rq)) ∧ W.cell? ⟨go, 0, none⟩ = some (.int .u8 (hopK Q)) ∧ W.cell? ⟨go, 1, none⟩ = some (.int .i64 V)) := fun W h => by
            obtain ⟨t1, t2⟩ := HTB.out W h
            have hl3 : (vals3 ((⟨rvi, rvp, rq, rI, rP⟩ : E3) :: ⟨lvi, lvp, lq, lI, lP⟩ :: S)).length = m + 2 := by rw [vals3_len]; simp [hm]
            have q0 := t1.st.cellAt m 0 (by omega) (by omega)
            have q1 := t1.st.cellAt m 1 (by omega) (by omega)
            have q2 := t1.st.cellAt m 2 (by omega) (by omega)
            have q3 := t1.st.cellAt M1 0 (by omega) (by omega)
            have q4 := t1.st.cellAt M1 1 (by omega) (by omega)
            have q5 := t1.st.cellAt M1 2 (by omega) (by omega)
            rw [va.1] at q0 q1 q2
            rw [va.2] at q3 q4 q5
            obtain ⟨x1, x2⟩ := t2.cells 0 (by simp)
            exact ⟨⟨by simpa using q0, by simpa using q1, by simpa using q2⟩, ⟨by simpa using q3, by simpa using q4, by simpa using q5⟩, by simpa [Ex.kAt] using x1, by simpa [Ex.vAt] using x2⟩
          have hi2 : (N : Int) - 2 = (m : Int) := by omega
          have hi1 : (N : Int) - 1 = (M1 : Int) := by omega
          have hwm : IntKind.i64.wrap (m : Int) = (m : Int) := by rw [IntKind.wrap_i64]; omega
          have hwM : IntKind.i64.wrap (M1 : Int) = (M1 : Int) := by rw [IntKind.wrap_i64]; omega
          have hmc : m < N := by omega
          have hMc : M1 < N := by omega
          have hw2 : IntKind.i64.wrap ((N : Int) - 2) = (m : Int) := by rw [IntKind.wrap_i64]; omega
          have hw1 : IntKind.i64.wrap ((N : Int) - 1) = (M1 : Int) := by rw [IntKind.wrap_i64]; omega
          have hmN : (m : Int) < (N : Int) := by omega
          have hM1N : (M1 : Int) < (N : Int) := by omega
          have hm0 : (0 : Int) ≤ (m : Int) := by omega
          have hM0 : (0 : Int) ≤ (M1 : Int) := by omega
          have HMM : Hid (m + 1 = M1 ∧ N = m + 2 ∧ S.length = m) := ⟨hM1, hNm, hm⟩
          obtain ⟨⟨a0, a1, a2⟩, ⟨b0, b1, b2⟩, x0, x1⟩ := HCL.out w2 (Below.refl _ _)
          obtain ⟨⟨a0', a1', a2'⟩, ⟨b0', b1', b2'⟩, x0', x1'⟩ := HCL.out (w2.drew.alloc (.cells #[.slice none 0 0, .slice none 0 0, .int .i64 0] Nd)) ((Below.refl _ _).drew.alloc (Nat.le_refl _) _)
          clear hTa hBa va hm hM1 hNm hop hN c1 c2
          go_upto_region 11 with fail
          go_cut [10, 30] from 30 to 77 (fun e i wq => i = .int .i64 k ∧ ∃ (ge : Nat) (vi vp : Value) (q : Int) (I : List Tk), e = .pointer (some ⟨ge, 0, none⟩) ∧ Var3 wq w.heap.size ge vi vp (.int .i64 q) ∧ Node wq w.heap.size vi vp q I (lP ++ rP ++ [(hopK Q, V)]) ∧ I.length ≤ lI.length + rI.length + 5 ∧ Apt vi (.slice (some ⟨g, 0, none⟩) N cp) ∧ Apt vp (.slice (some ⟨g, 0, none⟩) N cp) ∧ TS w wq (.slice (some ⟨g, 0, none⟩) N cp) (⟨rvi, rvp, rq, rI, rP⟩ :: ⟨lvi, lvp, lq, lI, lP⟩ :: S))
          case first =>
            have HND : Hid (∀ W, Below w2.heap.size w2 W → Node W w.heap.size lvi lvp lq lI lP ∧ Node W w.heap.size rvi rvp rq rI rP) := fun W h => by
              obtain ⟨t1, _⟩ := HTB.out W h
              exact ⟨(t1.en ⟨lvi, lvp, lq, lI, lP⟩ (by simp)).1, (t1.en ⟨rvi, rvp, rq, rI, rP⟩ (by simp)).1⟩
            have hpr : 0 < Ex.prec (hopK Q) := hopK_pos Q
            have hn1 : lI.length + rI.length < 1000000 := by omega
            have hn2 : lP.length + rP.length < 1000000 := by omega
            have B1 : Below w2.heap.size w2 w2.drew := (Below.refl _ _).drew
            have B2 : Below w2.heap.size w2 (w2.drew.alloc (.cells #[.slice none 0 0, .slice none 0 0, .int .i64 0] Nd)) := (Below.refl _ _).drew.alloc (Nat.le_refl _) _
            have VZ : Var3 (w2.drew.alloc (.cells #[.slice none 0 0, .slice none 0 0, .int .i64 0] Nd)) w.heap.size w2.heap.size (.slice none 0 0) (.slice none 0 0) (.int .i64 0) := Var3.lit w2.drew w.heap.size (.slice none 0 0) (.slice none 0 0) (.int .i64 0) hT2.bel.size
            go_region_held3 (fun W => (W.cell? ⟨g, m * 3, none⟩ = some lvi ∧ W.cell? ⟨g, m * 3 + 1, none⟩ = some lvp ∧ W.cell? ⟨g, m * 3 + 2, none⟩ = some (.int .i64 lq)) ∧ (W.cell? ⟨g, M1 * 3, none⟩ = some rvi ∧ W.cell? ⟨g, M1 * 3 + 1, none⟩ = some rvp ∧ W.cell? ⟨g, M1 * 3 + 2, none⟩ = some (.int .i64 rq)) ∧ W.cell? ⟨go, 0, none⟩ = some (.int .u8 (hopK Q)) ∧ W.cell? ⟨go, 1, none⟩ = some (.int .i64 V))
              (first | (exact HCL.out _ B1) | (exact HCL.out _ B2) | (exact HCL.out _ (B1.trans hbj)) | (exact HCL.out _ (B2.trans (hbj.mono (by simp)))) | (exact HCL.out _ ((B1.trans hbj).alloc (B1.trans hbj).size _)) | (exact HCL.out _ (below_setTok (B2.trans (hbj.mono (by simp))) (Var3.set vz _ _ _).2 (B2.trans (hbj.mono (by simp))).size (Nat.le_refl _))) | go_keep)
              (first
                | (go_at_call 32; refine (hjoin_any w.heap.size lvi lvp rvi rvp lq rq (hopK Q) V lI lP rI rP _ (HND.out _ B1).1 (HND.out _ B1).2 hpr hn1 hn2).mono ?_; rintro e w' ⟨vi, vp, q, I, rfl, hnd, hIl, hbj⟩; obtain ⟨A5, L5, C5, rfl⟩ := OwnT.slice' hnd.hi; obtain ⟨A6, L6, C6, rfl⟩ := OwnT.slice' hnd.hp)
                | (go_at_call 32; refine (hjoin_any w.heap.size lvi lvp rvi rvp lq rq (hopK Q) V lI lP rI rP _ (HND.out _ B2).1 (HND.out _ B2).2 hpr hn1 hn2).mono ?_; rintro e w' ⟨vi, vp, q, I, rfl, hnd, hIl, hbj⟩; obtain ⟨A5, L5, C5, rfl⟩ := OwnT.slice' hnd.hi; obtain ⟨A6, L6, C6, rfl⟩ := OwnT.slice' hnd.hp; have vz := OwnR.below VZ hbj; obtain ⟨z0, z1, z2, f0, f1, f2⟩ := Var3.cells vz))
            · have BZ := (B1.trans hbj).alloc (B1.trans hbj).size (.cells #[.slice A5 L5 C5, .slice A6 L6 C6, .int .i64 q] Nd)
              have hw0 : w.heap.size ≤ w'.heap.size := Nat.le_trans hT2.bel.size (B1.trans hbj).size
              go_wp2_with fail
              go_meet
              case rel => exact ⟨rfl, w'.heap.size, _, _, q, I, rfl, Var3.lit w' w.heap.size _ _ _ hw0, (hnd.mono hT2.bel.size).alloc _, hIl, hT2.fresh hnd.hi (Nat.le_refl _), hT2.fresh hnd.hp (Nat.le_refl _), (HTB.out _ BZ).1⟩
            · have hsz : (w2.drew.alloc (.cells #[.slice none 0 0, .slice none 0 0, .int .i64 0] Nd)).heap.size = w2.heap.size + 1 := by simp
              have BZ := below_setTok (B2.trans (hbj.mono (by simp))) (Var3.set vz (.slice A5 L5 C5) (.slice A6 L6 C6) (.int .i64 q)).2 (B2.trans (hbj.mono (by simp))).size (Nat.le_refl _)
              have hnk := (hnd.kept (Var3.set vz (.slice A5 L5 C5) (.slice A6 L6 C6) (.int .i64 q)).2 (by rw [hsz]; omega)).mono (show w.heap.size ≤ _ by rw [hsz]; have := hT2.bel.size; omega)
              go_wp2_with fail
              go_meet
              case rel => exact ⟨rfl, w2.heap.size, _, _, q, I, rfl, (Var3.set vz _ _ _).1, hnk, hIl, hT2.fresh hnd.hi (by rw [hsz]; omega), hT2.fresh hnd.hp (by rw [hsz]; omega), (HTB.out _ BZ).1⟩
          case rest =>
            obtain ⟨rfl, ge, vi, vp, q, I, rfl, hv3, hnd, hIl, ap1, ap2, hT5⟩ := hcut
            obtain ⟨w5, rfl⟩ : ∃ w5, w5 = wc := ⟨wc, rfl⟩
            obtain ⟨mm1, mm2, mm3⟩ := HMM.out
            have hTp := hT5.pop2 (by rw [mm3]; exact mm2)
            rw [mm3] at hTp
            obtain ⟨A5, L5, C5, hv5⟩ := OwnT.slice' hnd.hi
            obtain ⟨A6, L6, C6, hv6⟩ := OwnT.slice' hnd.hp
            subst hv5 hv6
            obtain ⟨y0, y1, y2, -⟩ := Var3.cells hv3
            have hc0 := new3 w5 Nd (.slice A5 L5 C5) (.slice A6 L6 C6) (.int .i64 q)
            have hB5 := hTp.bel.size
            have HSL : Hid ((vals3 S).length < 1000000000000) := by show _ < _; rw [vals3_len]; omega
            have hmc2 : m ≤ cp := by omega
            clear HTB HCL a0 a1 a2 b0 b1 b2 x0 x1 a0' a1' a2' b0' b1' b2' x0' x1' hT2 hT5 mm1 mm2 mm3 hwm hwM hw1 hw2
            go_wp2_with (first
              | (at_builtin; refine app_row _ 64 Nd (.agg #[.slice none 0 0, .slice none 0 0, .int .i64 0]) 3 56 Ybum.underlying64 Ybum.infoNode rfl (by omega) (by omega) rfl (.tmp 67) (.tmp 69) rfl w.heap.size _ (vals3 S) rfl (hTp.st.alloc _) _ [.slice A5 L5 C5, .slice A6 L6 C6, .int .i64 q] rfl rfl hc0 (fun u hu => by simp at hu; rcases hu with rfl | rfl | rfl <;> rfl) HSL.out (by simp; omega) ?_; intro u7 w7 hst7 hold7 hgr7))
            go_roundw
            case rel => exact ⟨k + 1, _, by omega, by go_num, hTp.push ⟨.slice A5 L5 C5, .slice A6 L6 C6, q, I, lP ++ rP ++ [(hopK Q, V)]⟩ hnd (fun k h1 h2 => ap1 k h1 h2) (fun k h1 h2 => ap2 k h1 h2) hgr7.after_alloc hst7, by simp, by have := HMM.out; rw [List.length_cons]; omega, by rw [isz_cons]; simp only; omega, by rw [psz_cons]; simp; omega⟩
            case measure => simp [intOf]; omega
      · have hway : (K % 2 == 1) = false ∨ ((K % 2 == 1) = true ∧ decide ((2 : Int) ≤ (N : Int)) = false) := by
          by_cases h1 : K % 2 = 1
          · exact .inr ⟨by simpa using h1, decide_eq_false (by omega)⟩
          · exact .inl (by simpa using h1)
        clear hodd
        have HEN : Hid (E.length = N) := hN
        clear hN
        rcases hway with hy | ⟨hy, hy2⟩
        all_goals
          go_wp2_with fail
          refine (hnum_any V _).mono ?_
          rintro e w2 ⟨vi, vp, rfl, hvi, hvp, hb2⟩
          have hT2 := hTa.below hb2
          have nd : Node w2 w.heap.size vi vp 3 [(48, V)] [(48, V)] := ⟨hvi.mono hBa, hvp.mono hBa, Expr.num _ _, by omega, by omega⟩
          have ap1 := hTa.fresh hvi (Nat.le_refl _)
          have ap2 := hTa.fresh hvp (Nat.le_refl _)
          obtain ⟨A1, L1, C1, hv1⟩ := OwnT.slice' hvi
          obtain ⟨A2, L2, C2, hv2⟩ := OwnT.slice' hvp
          subst hv1 hv2
          have hB2 := hT2.bel.size
          have hc0 := new3 w2 Nd (.slice A1 L1 C1) (.slice A2 L2 C2) (.int .i64 3)
          clear hvi hvp
          go_wp2_with (first
            | (at_builtin; refine app_row _ 64 Nd (.agg #[.slice none 0 0, .slice none 0 0, .int .i64 0]) 3 56 Ybum.underlying64 Ybum.infoNode rfl (by omega) (by omega) rfl (.tmp 71) (.tmp 75) rfl w.heap.size _ (vals3 E) rfl (hT2.st.alloc _) _ [.slice A1 L1 C1, .slice A2 L2 C2, .int .i64 3] rfl rfl hc0 (fun u hu => by simp at hu; rcases hu with rfl | rfl | rfl <;> rfl) (by rw [vals3_len]; have := HEN.out; omega) (by simp; omega) ?_; intro u3 w3 hst3 hold3 hgr3))
          go_roundw
          case rel => exact ⟨k + 1, _, by omega, by go_num, hT2.push ⟨.slice A1 L1 C1, .slice A2 L2 C2, 3, [(48, V)], [(48, V)]⟩ nd ap1 ap2 hgr3.after_alloc hst3, by simp, by have := HEN.out; rw [List.length_cons]; omega, by rw [isz_cons]; simp; omega, by rw [psz_cons]; simp; omega⟩
          case measure => simp [intOf]; omega
    · have hkd : decide ((k : Int) < (n : Int)) = false := decide_eq_false (by omega)
      have hE513 : N ≤ 513 := by omega
      have hI2 : isz E ≤ 3078 := by omega
      have hP2 : psz E ≤ 1026 := by omega
      have HTS : Hid (TS w wr (.slice (some ⟨g, 0, none⟩) N cp) E) := hT
      have HN1 : Hid (E.length = N) := hN
      clear hT hN hEk hI hP hk
      go_wp2_with fail
      go_loopw [5, 11, 12, 13] (fun u _ _ _ wq => ∃ (E : List E3), TS w wq u E ∧ 1 ≤ E.length ∧ E.length ≤ 513 ∧ isz E ≤ 3078 ∧ psz E ≤ 1026) (fun u _ _ _ _ => slen u)
      case atStart => exact ⟨E, HTS.out, by have := HN1.out; omega, by have := HN1.out; omega, hI2, hP2⟩
      case round =>
        clear HTS HN1 hI2 hP2 hE513 hE1 hg1 hg2 hB
        obtain ⟨E, hT, hE1, hEk, hI, hP⟩ := hrel
        have hB := hT.bel.size
        obtain ⟨g, cp, hu, hg1, hg2⟩ := hT.st.at (by rw [vals3_len]; omega)
        rw [vals3_len] at hu hg1
        subst hu
        unfold maxLen at hg2
        obtain ⟨N, hN⟩ : ∃ N, E.length = N := ⟨_, rfl⟩
        rw [hN] at hT hE1 hEk hg1 ⊢
        by_cases hN2 : 2 ≤ N
        · have hN1i : (1 : Int) < (N : Int) := by omega
          obtain ⟨R, hR⟩ : ∃ R : Nat, N % 4 = R := ⟨_, rfl⟩
          have hR4 : R < 4 := by omega
          have hRi : (N : Int) % 4 = (R : Int) := by omega
          obtain ⟨r, hr⟩ : ∃ r : Int, (R : Int) = r := ⟨_, rfl⟩
          have hr0 : 0 ≤ r := by omega
          have hr1 : r ≤ 255 := by omega
          rw [hr] at hRi
          clear hR hr
          go_upto_region 18 with fail
          go_cut [12] from 78 to 107 (fun o wq => ∃ go : Nat, o = .pointer (some ⟨go, 0, none⟩) ∧ OwnT wq w.heap.size (.slice (some ⟨go, 0, none⟩) 1 1) [(hopK r, 0)] ∧ TS w wq (.slice (some ⟨g, 0, none⟩) N cp) E)
          case first =>
            have a11 := OwnT.one2 wr w.heap.size (hopK r) 0 hB
            have hTb := hT.below ((Below.refl _ _).alloc (Nat.le_refl _) (.cells #[.int .u8 (hopK r), .int .i64 0] 58))
            go_wp2_with fail
            refine (hop_any r _ hr0 hr1).mono ?_
            rintro e w' ⟨rfl, hw⟩
            subst hw
            go_wp2_with fail
            go_meet
            case rel => exact ⟨_, rfl, a11, hTb⟩
          case rest =>
            clear hRi
            obtain ⟨go, rfl, hop, hT2⟩ := hcut
            obtain ⟨w2, rfl⟩ : ∃ w2, w2 = wc := ⟨wc, rfl⟩
            obtain ⟨er, el, S, rfl⟩ : ∃ er el S, E = er :: el :: S := by
              match E, hN, hN2 with
              | er :: el :: S, _, _ => exact ⟨er, el, S, rfl⟩
              | [], h, h2 => simp at h; omega
              | [_], h, h2 => simp at h; omega
            obtain ⟨rvi, rvp, rq, rI, rP⟩ := er
            obtain ⟨lvi, lvp, lq, lI, lP⟩ := el
            obtain ⟨m, hm⟩ : ∃ m, S.length = m := ⟨_, rfl⟩
            obtain ⟨M1, hM1⟩ : ∃ M1, m + 1 = M1 := ⟨_, rfl⟩
            have hNm : N = m + 2 := by rw [← hN, ← hm]; simp
            have va := vals3_at ⟨lvi, lvp, lq, lI, lP⟩ ⟨rvi, rvp, rq, rI, rP⟩ S
            rw [hm, hM1] at va
            have HTB : Hid (∀ W, Below w2.heap.size w2 W → TS w W (.slice (some ⟨g, 0, none⟩) N cp) (⟨rvi, rvp, rq, rI, rP⟩ :: ⟨lvi, lvp, lq, lI, lP⟩ :: S) ∧ OwnT W w.heap.size (.slice (some ⟨go, 0, none⟩) 1 1) [(hopK r, 0)]) := fun W h => ⟨hT2.below h, hop.below h⟩
            rw [isz_cons, isz_cons] at hI
            rw [psz_cons, psz_cons] at hP
            simp only at hI hP
            have HCL : Hid (∀ W, Below w2.heap.size w2 W → (W.cell? ⟨g, m * 3, none⟩ = some lvi ∧ W.cell? ⟨g, m * 3 + 1, none⟩ = some lvp ∧ W.cell? ⟨g, m * 3 + 2, none⟩ = some (.int .i64 lq)) ∧ (W.cell? ⟨g, M1 * 3, none⟩ = some rvi ∧ W.cell? ⟨g, M1 * 3 + 1, none⟩ = some rvp ∧ W.cell? ⟨g, M1 * 3 + 2, none⟩ = some (.int .i64 rq)) ∧ W.cell? ⟨go, 0, none⟩ = some (.int .u8 (hopK r)) ∧ W.cell? ⟨go, 1, none⟩ = some (.int .i64 0)) := fun W h => by
              obtain ⟨t1, t2⟩ := HTB.out W h
              have hl3 : (vals3 ((⟨rvi, rvp, rq, rI, rP⟩ : E3) :: ⟨lvi, lvp, lq, lI, lP⟩ :: S)).length = m + 2 := by rw [vals3_len]; simp [hm]
              have q0 := t1.st.cellAt m 0 (by omega) (by omega)
              have q1 := t1.st.cellAt m 1 (by omega) (by omega)
              have q2 := t1.st.cellAt m 2 (by omega) (by omega)
              have q3 := t1.st.cellAt M1 0 (by omega) (by omega)
              have q4 := t1.st.cellAt M1 1 (by omega) (by omega)
              have q5 := t1.st.cellAt M1 2 (by omega) (by omega)
              rw [va.1] at q0 q1 q2
              rw [va.2] at q3 q4 q5
              obtain ⟨x1, x2⟩ := t2.cells 0 (by simp)
              exact ⟨⟨by simpa using q0, by simpa using q1, by simpa using q2⟩, ⟨by simpa using q3, by simpa using q4, by simpa using q5⟩, by simpa [Ex.kAt] using x1, by simpa [Ex.vAt] using x2⟩
            have hi2 : (N : Int) - 2 = (m : Int) := by omega
            have hi1 : (N : Int) - 1 = (M1 : Int) := by omega
            have hwm : IntKind.i64.wrap (m : Int) = (m : Int) := by rw [IntKind.wrap_i64]; omega
            have hwM : IntKind.i64.wrap (M1 : Int) = (M1 : Int) := by rw [IntKind.wrap_i64]; omega
            have hmc : m < N := by omega
            have hMc : M1 < N := by omega
            have hw2 : IntKind.i64.wrap ((N : Int) - 2) = (m : Int) := by rw [IntKind.wrap_i64]; omega
            have hw1 : IntKind.i64.wrap ((N : Int) - 1) = (M1 : Int) := by rw [IntKind.wrap_i64]; omega
            have hmN : (m : Int) < (N : Int) := by omega
            have hM1N : (M1 : Int) < (N : Int) := by omega
            have hm0 : (0 : Int) ≤ (m : Int) := by omega
            have hM0 : (0 : Int) ≤ (M1 : Int) := by omega
            have HMM : Hid (m + 1 = M1 ∧ N = m + 2 ∧ S.length = m) := ⟨hM1, hNm, hm⟩
            obtain ⟨⟨a0, a1, a2⟩, ⟨b0, b1, b2⟩, x0, x1⟩ := HCL.out w2 (Below.refl _ _)
            obtain ⟨⟨a0', a1', a2'⟩, ⟨b0', b1', b2'⟩, x0', x1'⟩ := HCL.out (w2.drew.alloc (.cells #[.slice none 0 0, .slice none 0 0, .int .i64 0] Nd)) ((Below.refl _ _).drew.alloc (Nat.le_refl _) _)
            clear va hm hM1 hNm hop hN
            go_upto_region 19 with fail
            go_cut [13] from 78 to 107 (fun e wq => ∃ (ge : Nat) (vi vp : Value) (q : Int) (I : List Tk), e = .pointer (some ⟨ge, 0, none⟩) ∧ Var3 wq w.heap.size ge vi vp (.int .i64 q) ∧ Node wq w.heap.size vi vp q I (lP ++ rP ++ [(hopK r, 0)]) ∧ I.length ≤ lI.length + rI.length + 5 ∧ Apt vi (.slice (some ⟨g, 0, none⟩) N cp) ∧ Apt vp (.slice (some ⟨g, 0, none⟩) N cp) ∧ TS w wq (.slice (some ⟨g, 0, none⟩) N cp) (⟨rvi, rvp, rq, rI, rP⟩ :: ⟨lvi, lvp, lq, lI, lP⟩ :: S))
            case first =>
              have HND : Hid (∀ W, Below w2.heap.size w2 W → Node W w.heap.size lvi lvp lq lI lP ∧ Node W w.heap.size rvi rvp rq rI rP) := fun W h => by
                obtain ⟨t1, _⟩ := HTB.out W h
                exact ⟨(t1.en ⟨lvi, lvp, lq, lI, lP⟩ (by simp)).1, (t1.en ⟨rvi, rvp, rq, rI, rP⟩ (by simp)).1⟩
              have hpr : 0 < Ex.prec (hopK r) := hopK_pos r
              have hn1 : lI.length + rI.length < 1000000 := by omega
              have hn2 : lP.length + rP.length < 1000000 := by omega
              have B1 : Below w2.heap.size w2 w2.drew := (Below.refl _ _).drew
              have B2 : Below w2.heap.size w2 (w2.drew.alloc (.cells #[.slice none 0 0, .slice none 0 0, .int .i64 0] Nd)) := (Below.refl _ _).drew.alloc (Nat.le_refl _) _
              have VZ : Var3 (w2.drew.alloc (.cells #[.slice none 0 0, .slice none 0 0, .int .i64 0] Nd)) w.heap.size w2.heap.size (.slice none 0 0) (.slice none 0 0) (.int .i64 0) := Var3.lit w2.drew w.heap.size (.slice none 0 0) (.slice none 0 0) (.int .i64 0) hT2.bel.size
              go_region_held3 (fun W => (W.cell? ⟨g, m * 3, none⟩ = some lvi ∧ W.cell? ⟨g, m * 3 + 1, none⟩ = some lvp ∧ W.cell? ⟨g, m * 3 + 2, none⟩ = some (.int .i64 lq)) ∧ (W.cell? ⟨g, M1 * 3, none⟩ = some rvi ∧ W.cell? ⟨g, M1 * 3 + 1, none⟩ = some rvp ∧ W.cell? ⟨g, M1 * 3 + 2, none⟩ = some (.int .i64 rq)) ∧ W.cell? ⟨go, 0, none⟩ = some (.int .u8 (hopK r)) ∧ W.cell? ⟨go, 1, none⟩ = some (.int .i64 0))
                (first | (exact HCL.out _ B1) | (exact HCL.out _ B2) | (exact HCL.out _ (B1.trans hbj)) | (exact HCL.out _ (B2.trans (hbj.mono (by simp)))) | (exact HCL.out _ ((B1.trans hbj).alloc (B1.trans hbj).size _)) | (exact HCL.out _ (below_setTok (B2.trans (hbj.mono (by simp))) (Var3.set vz _ _ _).2 (B2.trans (hbj.mono (by simp))).size (Nat.le_refl _))) | go_keep)
                (first
                  | (go_at_call 32; refine (hjoin_any w.heap.size lvi lvp rvi rvp lq rq (hopK r) 0 lI lP rI rP _ (HND.out _ B1).1 (HND.out _ B1).2 hpr hn1 hn2).mono ?_; rintro e w' ⟨vi, vp, q, I, rfl, hnd, hIl, hbj⟩; obtain ⟨A5, L5, C5, rfl⟩ := OwnT.slice' hnd.hi; obtain ⟨A6, L6, C6, rfl⟩ := OwnT.slice' hnd.hp)
                  | (go_at_call 32; refine (hjoin_any w.heap.size lvi lvp rvi rvp lq rq (hopK r) 0 lI lP rI rP _ (HND.out _ B2).1 (HND.out _ B2).2 hpr hn1 hn2).mono ?_; rintro e w' ⟨vi, vp, q, I, rfl, hnd, hIl, hbj⟩; obtain ⟨A5, L5, C5, rfl⟩ := OwnT.slice' hnd.hi; obtain ⟨A6, L6, C6, rfl⟩ := OwnT.slice' hnd.hp; have vz := OwnR.below VZ hbj; obtain ⟨z0, z1, z2, f0, f1, f2⟩ := Var3.cells vz))
              · have BZ := (B1.trans hbj).alloc (B1.trans hbj).size (.cells #[.slice A5 L5 C5, .slice A6 L6 C6, .int .i64 q] Nd)
                have hw0 : w.heap.size ≤ w'.heap.size := Nat.le_trans hT2.bel.size (B1.trans hbj).size
                go_wp2_with fail
                go_meet
                case rel => exact ⟨w'.heap.size, _, _, q, I, rfl, Var3.lit w' w.heap.size _ _ _ hw0, (hnd.mono hT2.bel.size).alloc _, hIl, hT2.fresh hnd.hi (Nat.le_refl _), hT2.fresh hnd.hp (Nat.le_refl _), (HTB.out _ BZ).1⟩
              · have hsz : (w2.drew.alloc (.cells #[.slice none 0 0, .slice none 0 0, .int .i64 0] Nd)).heap.size = w2.heap.size + 1 := by simp
                have BZ := below_setTok (B2.trans (hbj.mono (by simp))) (Var3.set vz (.slice A5 L5 C5) (.slice A6 L6 C6) (.int .i64 q)).2 (B2.trans (hbj.mono (by simp))).size (Nat.le_refl _)
                have hnk := (hnd.kept (Var3.set vz (.slice A5 L5 C5) (.slice A6 L6 C6) (.int .i64 q)).2 (by rw [hsz]; omega)).mono (show w.heap.size ≤ _ by rw [hsz]; have := hT2.bel.size; omega)
                go_wp2_with fail
                go_meet
                case rel => exact ⟨w2.heap.size, _, _, q, I, rfl, (Var3.set vz _ _ _).1, hnk, hIl, hT2.fresh hnd.hi (by rw [hsz]; omega), hT2.fresh hnd.hp (by rw [hsz]; omega), (HTB.out _ BZ).1⟩
            case rest =>
              obtain ⟨ge, vi, vp, q, I, rfl, hv3, hnd, hIl, ap1, ap2, hT5⟩ := hcut
              obtain ⟨w5, rfl⟩ : ∃ w5, w5 = wc := ⟨wc, rfl⟩
              obtain ⟨mm1, mm2, mm3⟩ := HMM.out
              have hTp := hT5.pop2 (by rw [mm3]; exact mm2)
              rw [mm3] at hTp
              obtain ⟨A5, L5, C5, hv5⟩ := OwnT.slice' hnd.hi
              obtain ⟨A6, L6, C6, hv6⟩ := OwnT.slice' hnd.hp
              subst hv5 hv6
              obtain ⟨y0, y1, y2, -⟩ := Var3.cells hv3
              have hc0 := new3 w5 Nd (.slice A5 L5 C5) (.slice A6 L6 C6) (.int .i64 q)
              have hB5 := hTp.bel.size
              have HSL : Hid ((vals3 S).length < 1000000000000) := by show _ < _; rw [vals3_len]; omega
              have hmc2 : m ≤ cp := by omega
              clear HTB HCL a0 a1 a2 b0 b1 b2 x0 x1 a0' a1' a2' b0' b1' b2' x0' x1' hT2 hT5 mm1 mm2 mm3 hwm hwM hw1 hw2
              go_wp2_with (first
                | (at_builtin; refine app_row _ 64 Nd (.agg #[.slice none 0 0, .slice none 0 0, .int .i64 0]) 3 56 Ybum.underlying64 Ybum.infoNode rfl (by omega) (by omega) rfl (.tmp 104) (.tmp 106) rfl w.heap.size _ (vals3 S) rfl (hTp.st.alloc _) _ [.slice A5 L5 C5, .slice A6 L6 C6, .int .i64 q] rfl rfl hc0 (fun u hu => by simp at hu; rcases hu with rfl | rfl | rfl <;> rfl) HSL.out (by simp; omega) ?_; intro u7 w7 hst7 hold7 hgr7))
              have hTn := hTp.push ⟨.slice A5 L5 C5, .slice A6 L6 C6, q, I, lP ++ rP ++ [(hopK r, 0)]⟩ hnd (fun k h1 h2 => ap1 k h1 h2) (fun k h1 h2 => ap2 k h1 h2) hgr7.after_alloc hst7
              obtain ⟨g7, c7, hu7, -, -⟩ := hTn.st.at (by rw [vals3_len]; simp)
              rw [vals3_len, List.length_cons, HMM.out.2.2] at hu7
              subst hu7
              go_roundw
              case rel => exact ⟨_, hTn, by simp, by have := HMM.out; rw [List.length_cons]; omega, by rw [isz_cons]; simp only; omega, by rw [psz_cons]; simp; omega⟩
              case measure => have := HMM.out; simp [slen]; omega
        · obtain rfl : N = 1 := by omega
          obtain ⟨e, rfl⟩ : ∃ e, E = [e] := by
            match E, hN with
            | [e], _ => exact ⟨e, rfl⟩
          obtain ⟨vi, vp, q, I, P⟩ := e
          obtain ⟨nd, -, -⟩ := hT.en ⟨vi, vp, q, I, P⟩ (by simp)
          simp only at nd
          have HTP : Hid (tp I = some P) := nd.he.tp nd.q1
          rw [isz_cons] at hI
          rw [psz_cons] at hP
          simp only at hI hP
          have HCL : Hid (∀ W, Below wr.heap.size wr W → W.cell? ⟨g, 0, none⟩ = some vi ∧ W.cell? ⟨g, 1, none⟩ = some vp ∧ Node W w.heap.size vi vp q I P) := fun W h => by
            have t1 := hT.below h
            have q0 := t1.st.cellAt 0 0 (by simp [vals3]) (by omega)
            have q1 := t1.st.cellAt 0 1 (by simp [vals3]) (by omega)
            exact ⟨by simpa [vals3] using q0, by simpa [vals3] using q1, nd.below h⟩
          obtain ⟨ai, ci, hvi, hni, -⟩ := nd.hi.toks'
          obtain ⟨ap, cp', hvp, hnp, -⟩ := nd.hp.toks'
          subst hvi hvp
          obtain ⟨q0, -, nd1⟩ := HCL.out wr (Below.refl _ _)
          have hbw := hT.bel
          obtain ⟨Li, hLi⟩ : ∃ Li, I.length = Li := ⟨_, rfl⟩
          obtain ⟨Lp, hLp⟩ : ∃ Lp, P.length = Lp := ⟨_, rfl⟩
          have hti := nd1.hi.toksAt
          rw [hLi] at hti hI q0
          have HLP : Hid (P.length = Lp) := hLp
          clear hT hN nd nd1 hN2 hLi hLp
          go_wp2_with fail
          refine (topost_any ai Li ci I wr hti (by omega)).mono ?_
          rintro e w3 ⟨v3, k3, rfl, hb3, hr3⟩
          have hx3 := hbw.trans (hb3.mono hbw.size)
          have hz : k3 = 0 ∧ OwnT w3 wr.heap.size v3 P := by
            rcases hr3 with ⟨h1, _⟩ | ⟨out, h1, h2, h3⟩
            · rw [HTP.out] at h1; cases h1
            · rw [HTP.out] at h1; cases h1; exact ⟨h2, h3⟩
          obtain ⟨rfl, hown3⟩ := hz
          obtain ⟨a3, c3, hv3, hn3, -⟩ := hown3.toks'
          subst hv3
          obtain ⟨-, q1, nd3⟩ := HCL.out w3 hb3
          have ht3 := hown3.toksAt
          have htp := nd3.hp.toksAt
          rw [HLP.out] at ht3 htp q1 ⊢
          clear hr3 hown3 nd3 HCL q0
          go_wp2_with fail
          refine (hsame_any a3 ap Lp Lp c3 cp' P P w3 ht3 htp).mono ?_
          rintro e w4 ⟨rfl, hb4⟩
          have d3 : decide (P = P) = true := by simp
          rw [d3]
          go_wp2_with fail
          go_ret
          exact ⟨rfl, hx3.trans (hb4.mono hx3.size)⟩
end Go.Proofs.Ymbrbu
