import Derived.Test.YmbrbtDPlain
import Derived.Test.YmbrbtOwnRow
import Derived.Test.YmbrbtVpWalk
import Derived.Deep.Cut
import Derived.Deep.CutRange
set_option linter.unusedVariables false
set_option linter.unusedSimpArgs false
set_option linter.unnecessarySimpa false
namespace Go.Proofs.Ymbrbt
open Go.RowKit

theorem Ybtm.infoToks : (Ybtm.prog.info? 22).map (fun i => (i.zero, i.size, i.bytes)) = some (some (.slice none 0 0), 1, 24) := by kernel_rfl
theorem OwnT.one1 (w : World) (base : Nat) (k v : Int) (hb : base ≤ w.heap.size) : OwnT (w.alloc (.cells #[.int .u8 k, .int .i64 v] 30)) base (.slice (some ⟨w.heap.size, 0, none⟩) 1 1) [(k, v)] :=
  World.ownsRow_lit w _ 1 hb (by unfold maxLen; omega) (by simp)
/-- every entry's slice is a row of its own, apart from the stack -/
def Ents (w : World) (base : Nat) (u : Value) (E : List Ent) : Prop := ∀ p ∈ E, OwnT w base p.1 p.2.2 ∧ Apt p.1 u ∧ PX p.2.1 p.2.2

theorem new_one (w : World) (t : TypeId) (x : Value) : ∀ j u, [x][j]? = some u → (w.alloc (.cells #[x] t)).cell? ⟨w.heap.size, j, none⟩ = some u := by
  intro j u h
  cases j with
  | zero => simp at h; subst h; simp
  | succ j => simp at h
theorem OwnT.slice {w : World} {base : Nat} {v : Value} {ts : List Tk} (h : OwnT w base v ts) : ∃ a L c, v = .slice a L c := by
  obtain ⟨a, c, e, _⟩ := h.toks
  exact ⟨a, _, c, e⟩
/-- what ToInfix answers -/
def TiR (ts : List Tk) (w' : World) (base : Nat) (v : Value) (b : Bool) : Prop := (Ex.vpB ts = false ∧ b = false ∧ v = .slice none 0 0) ∨ (Ex.vpB ts = true ∧ b = true ∧ ∃ I, PX ts I ∧ OwnT w' base v I)

set_option maxRecDepth 100000 in
set_option maxHeartbeats 8000000 in
theorem toinfix_any (a : Option Addr) (n cap : Nat) (ts : List Tk) (w : World) (ht : Toks w a n cap ts) (hn : n ≤ 100000) :
    Calls Ybtm.prog 29 #[.slice a n cap] w fun e w' => ∃ v b, e = .returned (.tuple #[v, .bool b]) ∧ Below w.heap.size w w' ∧ TiR ts w' w.heap.size v b := by
  have hnc := ht.2.1
  have hcm := ht.2.2.1
  unfold maxLen at hcm
  have HT : Hid (Toks w a n cap ts) := ht
  have HLN : Hid (ts.length = n) := ht.1
  clear ht
  go_enter Ybtm.func29, Ybtm.ntmps29
  go_wp2_with fail
  refine (vp_any a n cap ts w HT.out).mono ?_
  rintro e w1 ⟨rfl, hb1⟩
  have hB1 := hb1.size
  cases hvp : Ex.vpB ts with
  | false =>
    have HR : Hid (TiR ts w1 w.heap.size (.slice none 0 0) false) := .inl ⟨hvp, rfl, rfl⟩
    clear hvp
    go_wp2_with fail
    go_ret2
    first
    | exact ⟨_, _, rfl, hb1, HR.out⟩
    | exact ⟨_, .inl ⟨rfl, hb1, HR.out⟩⟩
  | true =>
    have HVP : Hid (Ex.vpB ts = true) := hvp
    have HV : Hid (Ex.vrun 0 ts = some 1) := by
      have := hvp
      unfold Ex.vpB at this
      show _ = _
      simpa using this
    clear hvp
    go_wp2_with (first
      | (at_make; refine make_row _ 75 22 (.slice none 0 0) 1 24 Ybtm.underlying75 Ybtm.infoToks (by omega) rfl _ (.tmp 13) rfl w.heap.size _ _ _ n rfl rfl (by omega) (by omega) (by omega) ?_; intro w2 hown2 hb2 hlt2))
    go_loopw [4, 6, 7, 8, 17] (fun u _ _ _ i wr => ∃ (k : Nat) (E : List Ent), k ≤ n ∧ i = .int .i64 k ∧ OwnR 22 1 wr w.heap.size u (vals E) ∧ Ents wr w.heap.size u E ∧ Hid (posts E = ts.take k) ∧ Hid (Ex.vrun E.length (ts.drop k) = some 1) ∧ E.length ≤ k ∧ Below w.heap.size w wr) (fun _ _ _ _ i _ => n - (intOf i).toNat)
    case atStart => exact ⟨0, [], by omega, rfl, hown2, (fun p hp => by cases hp), rfl, HV, by simp, hb1.trans (hb2.mono hB1)⟩
    case round =>
      obtain ⟨k, E, hk, rfl, hst, hen, HP, HR, hEk, hb⟩ := hrel
      clear hown2 hb2 hlt2 hb1 hB1
      have hB := hb.size
      by_cases hlt : k < n
      · obtain ⟨b, off, rfl, hc⟩ := (HT.out.below hb).2.2.2 (by omega)
        obtain ⟨c1, c2⟩ := hc k hlt
        have HD : Hid (ts.drop k = (Ex.kAt ts k, Ex.vAt ts k) :: ts.drop (k + 1)) := Ex.drop_at ts k (by have := HLN.out; omega)
        have HTK : Hid (ts.take (k + 1) = ts.take k ++ [(Ex.kAt ts k, Ex.vAt ts k)]) := Ex.take_at ts k (by have := HLN.out; omega)
        have hnx := HR.out
        rw [HD.out] at hnx
        have hnx := vrun_next hnx
        generalize Ex.kAt ts k = K at c1 hnx HTK
        generalize Ex.vAt ts k = V at c2 hnx HTK
        have hst1 := hst.alloc (.cells #[.int .u8 K, .int .i64 V] 30)
        have one1 := OwnT.one1 wr w.heap.size K V hB
        have hb1 := hb.alloc hB (.cells #[.int .u8 K, .int .i64 V] 30)
        have es : (wr.alloc (.cells #[.int .u8 K, .int .i64 V] 30)).heap.size = wr.heap.size + 1 := by simp
        have hulen := vals_len E
        clear hc HD HR
        rcases hnx with ⟨rfl, hr⟩ | ⟨h48, hpK, hd2, hr⟩
        · have HR2 : Hid (Ex.vrun (E.length + 1) (ts.drop (k + 1)) = some 1) := hr
          clear hr
          have tok := OwnT.one1 (wr.alloc (.cells #[.int .u8 48, .int .i64 V] 30)) w.heap.size 48 V (by rw [es]; omega)
          rw [es] at tok
          have tok2 := tok.alloc (.cells #[.slice (some ⟨wr.heap.size + 1, 0, none⟩) 1 1] 22)
          have hst3 := (hst1.alloc (.cells #[.int .u8 48, .int .i64 V] 30)).alloc (.cells #[.slice (some ⟨wr.heap.size + 1, 0, none⟩) 1 1] 22)
          have hb3 := (hb1.alloc (by rw [es]; omega) (.cells #[.int .u8 48, .int .i64 V] 30)).alloc (by simp; omega) (.cells #[.slice (some ⟨wr.heap.size + 1, 0, none⟩) 1 1] 22)
          have hen3 : Ents (((wr.alloc (.cells #[.int .u8 48, .int .i64 V] 30)).alloc (.cells #[.int .u8 48, .int .i64 V] 30)).alloc (.cells #[.slice (some ⟨wr.heap.size + 1, 0, none⟩) 1 1] 22)) w.heap.size u4 E := fun p hp => by
            obtain ⟨x1, x2, x3⟩ := hen p hp
            exact ⟨((x1.alloc _).alloc _).alloc _, x2, x3⟩
          have hnw : Apt (.slice (some ⟨wr.heap.size + 1, 0, none⟩) 1 1) u4 := fun q h1 h2 => by
            have := (hst.lt q h2).2
            have h3 : some (wr.heap.size + 1) = some q := h1
            cases h3; omega
          have hc0 := new_one ((wr.alloc (.cells #[.int .u8 48, .int .i64 V] 30)).alloc (.cells #[.int .u8 48, .int .i64 V] 30)) 22 (.slice (some ⟨wr.heap.size + 1, 0, none⟩) 1 1)
          rw [show ((wr.alloc (.cells #[.int .u8 48, .int .i64 V] 30)).alloc (.cells #[.int .u8 48, .int .i64 V] 30)).heap.size = wr.heap.size + 1 + 1 by simp] at hc0
          go_wp2_with (first
            | (at_builtin; refine app_row _ 75 22 (.slice none 0 0) 1 24 Ybtm.underlying75 Ybtm.infoToks rfl (by omega) (by omega) rfl (.tmp 24) (.tmp 27) rfl w.heap.size _ (vals E) rfl hst3 _ [.slice (some ⟨wr.heap.size + 1, 0, none⟩) 1 1] rfl rfl hc0 (fun u hu => by simp at hu; subst hu; rfl) (by omega) (by simp; omega) ?_; intro v4 w4 hst4 hold4 hgr4))
          go_roundw
          case rel =>
            refine ⟨k + 1, (.slice (some ⟨wr.heap.size + 1, 0, none⟩) 1 1, [(48, V)], [(48, V)]) :: E, by omega, by go_num, by rw [vals_cons]; exact hst4, ?_, by show _ = _; rw [posts_cons, HP.out, HTK.out], by rw [List.length_cons]; exact HR2, by rw [List.length_cons]; omega, below_app hb3 hb3.size hst3.baseLe hgr4⟩
            intro p hp
            rcases List.mem_cons.1 hp with rfl | hp
            · exact ⟨tok2.keeps hgr4 hnw.or, hnw.grow hgr4 tok2, PX.num V⟩
            · obtain ⟨x1, x2, x3⟩ := hen3 p hp
              exact ⟨x1.keeps hgr4 x2.or, x2.grow hgr4 x1, x3⟩
          case measure => simp [intOf]; omega
        · have HR2 : Hid (Ex.vrun (E.length - 1) (ts.drop (k + 1)) = some 1) := hr
          clear hr
          have m48 : (K == 48) = false := by simpa using h48
          obtain ⟨pr, pl, S, rfl⟩ : ∃ pr pl S, E = pr :: pl :: S := by
            match E, hd2 with
            | pr :: pl :: S, _ => exact ⟨pr, pl, S, rfl⟩
          obtain ⟨vr, ppr, ir⟩ := pr
          obtain ⟨vl, ppl, il⟩ := pl
          have hpl1 := posts_le (show (vl, ppl, il) ∈ ((vr, ppr, ir) : Ent) :: (vl, ppl, il) :: S by simp)
          have hpl2 := posts_le (show (vr, ppr, ir) ∈ ((vr, ppr, ir) : Ent) :: (vl, ppl, il) :: S by simp)
          rw [HP.out, List.length_take] at hpl1 hpl2
          simp only at hpl1 hpl2
          obtain ⟨xl, al, pxl⟩ := hen (vl, ppl, il) (by simp)
          obtain ⟨xr, ar, pxr⟩ := hen (vr, ppr, ir) (by simp)
          simp only at xl al pxl xr ar pxr
          have hll : il.length ≤ 3 * k := by have := pxl.len_le; omega
          have hlr : ir.length ≤ 3 * k := by have := pxr.len_le; omega
          have HEN : Hid (Ents wr w.heap.size u4 S) := fun p hp => hen p (by simp [hp])
          have HPX : Hid (PX ppl il ∧ PX ppr ir) := ⟨pxl, pxr⟩
          clear hen hpl1 hpl2 pxl pxr
          obtain ⟨g, cp, rfl, hg1, hg2⟩ := hst.at (by rw [vals_len]; simp)
          obtain ⟨m, hm⟩ : ∃ m, S.length = m := ⟨_, rfl⟩
          obtain ⟨M1, hM1⟩ : ∃ M1, m + 1 = M1 := ⟨_, rfl⟩
          obtain ⟨N, hN⟩ : ∃ N, m + 2 = N := ⟨_, rfl⟩
          have hulen2 : (vals (((vr, ppr, ir) : Ent) :: (vl, ppl, il) :: S)).length = N := by rw [vals_len, List.length_cons, List.length_cons, hm, ← hN]
          rw [hulen2] at hg1 hst1 hst ⊢
          unfold maxLen at hg2
          simp only [List.length_cons, hm] at hEk HR2
          have HM : Hid (S.length = m) := hm
          have HVA : Hid ((vals (((vr, ppr, ir) : Ent) :: (vl, ppl, il) :: S))[m]? = some [vl] ∧ (vals (((vr, ppr, ir) : Ent) :: (vl, ppl, il) :: S))[M1]? = some [vr]) := by
            have := vals_at (vl, ppl, il) (vr, ppr, ir) S
            rw [hm, hM1] at this; exact this
          have HUL : Hid ((vals (((vr, ppr, ir) : Ent) :: (vl, ppl, il) :: S)).length = N) := hulen2
          have HST1 : Hid (OwnR 22 1 (wr.alloc (.cells #[.int .u8 K, .int .i64 V] 30)) w.heap.size (.slice (some ⟨g, 0, none⟩) N cp) (vals (((vr, ppr, ir) : Ent) :: (vl, ppl, il) :: S))) := hst1
          have hgb := hst.lt g rfl
          have hi2 : (N : Int) - 2 = (m : Int) := by omega
          have hi1 : (N : Int) - 1 = (M1 : Int) := by omega
          have hmN : (m : Int) < (N : Int) := by omega
          have hM1N : (M1 : Int) < (N : Int) := by omega
          have hM0 : (0 : Int) ≤ (M1 : Int) := by omega
          have HMN : Hid (m + 1 = M1 ∧ m + 2 = N) := ⟨hM1, hN⟩
          clear hulen hulen2 hm hst hst1 hM1 hN
          have xl1 := xl.alloc (.cells #[.int .u8 K, .int .i64 V] 30)
          have xr1 := xr.alloc (.cells #[.int .u8 K, .int .i64 V] 30)
          obtain ⟨a_l, c_l, rfl, hnl, -⟩ := xl1.toks'
          obtain ⟨a_r, c_r, rfl, hnr, -⟩ := xr1.toks'
          have e2 := OwnT.one1 (wr.alloc (.cells #[.int .u8 K, .int .i64 V] 30)) (wr.heap.size + 1) 40 0 (by rw [es]; omega)
          rw [es] at e2
          have hb2 : Below (wr.heap.size + 1) (wr.alloc (.cells #[.int .u8 K, .int .i64 V] 30)) ((wr.alloc (.cells #[.int .u8 K, .int .i64 V] 30)).alloc (.cells #[.int .u8 40, .int .i64 0] 30)) := (Below.refl (wr.heap.size + 1) (wr.alloc (.cells #[.int .u8 K, .int .i64 V] 30))).alloc (by rw [es]; omega) (.cells #[.int .u8 40, .int .i64 0] 30)
          have HBB : Hid (∀ wz, Below (wr.heap.size + 1) (wr.alloc (.cells #[.int .u8 K, .int .i64 V] 30)) wz → Below (wr.alloc (.cells #[.int .u8 K, .int .i64 V] 30)).heap.size (wr.alloc (.cells #[.int .u8 K, .int .i64 V] 30)) wz) := fun wz h => by rw [es]; exact h
          have HL : Hid (∀ wz, Below (wr.heap.size + 1) (wr.alloc (.cells #[.int .u8 K, .int .i64 V] 30)) wz → wz.cell? ⟨g, m, none⟩ = some (.slice a_l il.length c_l) ∧ wz.cell? ⟨g, M1, none⟩ = some (.slice a_r ir.length c_r) ∧ wz.frozen? ⟨g, m, none⟩ = false ∧ wz.cell? ⟨wr.heap.size, 0, none⟩ = some (.int .u8 K) ∧ wz.cell? ⟨wr.heap.size, 1, none⟩ = some (.int .i64 V) ∧ Toks wz a_l il.length c_l il ∧ Toks wz a_r ir.length c_r ir) := fun wz h => by
            have hz := HBB.out wz h
            have q := HST1.out.below hz
            have q1 := q.cellAt m 0 (by rw [HUL.out]; have := HMN.out; omega) (by omega)
            have q2 := q.cellAt M1 0 (by rw [HUL.out]; have := HMN.out; omega) (by omega)
            rw [HVA.out.1] at q1
            rw [HVA.out.2] at q2
            obtain ⟨t1, t2⟩ := (one1.below hz).cells 0 (by simp)
            refine ⟨by simpa using q1, by simpa using q2, q.frozenAt _, by simpa [Ex.kAt] using t1, by simpa [Ex.vAt] using t2, (xl1.below hz).toksAt, (xr1.below hz).toksAt⟩
          obtain ⟨q1, -, -, -, -, tl2, -⟩ := HL.out _ hb2
          have hmI : (0 : Int) ≤ (m : Int) := by omega
          have hB2 := hb2.size
          rw [es] at hB2
          have HES : Hid ((wr.alloc (.cells #[.int .u8 K, .int .i64 V] 30)).heap.size = wr.heap.size + 1) := es
          clear xl1 xr1 one1 xl xr es
          have HLA : Hid ([((40 : Int), (0 : Int))].length + il.length < 1000000000000) := by show _ < _; simp; omega
          have HLB : Hid (([((40 : Int), (0 : Int))] ++ il).length < 1000000000000) := by show _ < _; simp; omega
          have HLC : Hid (([((40 : Int), (0 : Int))] ++ il ++ [(K, V)]).length + ir.length < 1000000000000) := by show _ < _; simp; omega
          have HLD : Hid (([((40 : Int), (0 : Int))] ++ il ++ [(K, V)] ++ ir).length < 1000000000000) := by show _ < _; simp; omega
          go_upto_region 11 with fail
          go_wp2_with (first
            | (at_builtin; refine app_toks _ rfl (.tmp 33) (.tmp 38) rfl (wr.heap.size + 1) (.slice (some ⟨wr.heap.size + 1, 0, none⟩) 1 1) [(40, 0)] rfl e2 a_l il.length c_l il rfl hnl tl2 HLA.out hB2 ?_; intro e3 w3 hown3 hold3 hgr3; have hb3 := below_app hb2 hB2 e2.base hgr3; have hB3 := hb3.size; rw [HES.out] at hB3; obtain ⟨-, -, -, t1, t2, -, -⟩ := HL.out _ hb3)
            | (at_builtin; refine app_tok _ rfl (.tmp 40) (.tmp 42) rfl (wr.heap.size + 1) _ ([(40, 0)] ++ il) rfl (hown3.alloc _) _ K V rfl (by simp) (by simp) HLB.out (by simp; omega) ?_; intro e4 w4 hown4 hold4 hgr4; have hb4 := below_app hb3 hB3 hown3.base hgr4.after_alloc; have hB4 := hb4.size; rw [HES.out] at hB4; obtain ⟨-, q4, -, -, -, -, tr4⟩ := HL.out _ hb4)
            | (at_builtin; refine app_toks _ rfl (.tmp 44) (.tmp 49) rfl (wr.heap.size + 1) _ ([(40, 0)] ++ il ++ [(K, V)]) rfl hown4 a_r ir.length c_r ir rfl hnr tr4 HLC.out hB4 ?_; intro e5 w5 hown5 hold5 hgr5; have hb5 := below_app hb4 hB4 hown4.base hgr5; have hB5 := hb5.size; rw [HES.out] at hB5)
            | (at_builtin; refine app_tok _ rfl (.tmp 51) (.tmp 53) rfl (wr.heap.size + 1) _ ([(40, 0)] ++ il ++ [(K, V)] ++ ir) rfl (hown5.alloc _) _ 41 0 rfl (by simp) (by simp) HLD.out (by simp; omega) ?_; intro e6 w6 hown6 hold6 hgr6; have hb6 := below_app hb5 hB5 hown5.base hgr6.after_alloc; have hB6 := hb6.size; rw [HES.out] at hB6; obtain ⟨q6, -, f6, -, -, -, -⟩ := HL.out _ hb6; obtain ⟨a6, L6, c6, rfl⟩ := hown6.slice))
          go_roundw
          case rel =>
            have hM := HM.out
            have hMN := HMN.out
            have hz6 := HBB.out _ hb6
            obtain ⟨g1, g2⟩ := (HST1.out.below hz6).set1 m (by rw [HUL.out]; omega) (.slice a6 L6 c6)
            have g3 := g1.take M1 (by omega)
            rw [← hMN.1, ← hM, vals_set (.slice a_l il.length c_l, ppl, il) (.slice a_r ir.length c_r, ppr, ir) (.slice a6 L6 c6, ppl ++ ppr ++ [(K, V)], (40, 0) :: il ++ [(K, V)] ++ ir ++ [(41, 0)]) S, hM, hMN.1] at g3
            have hbx : Below w.heap.size w w6 := hb1.trans (hb6.mono (by omega))
            have hnew : OwnT w6 w.heap.size (.slice a6 L6 c6) ((40, 0) :: il ++ [(K, V)] ++ ir ++ [(41, 0)]) := by
              have := hown6.mono (show w.heap.size ≤ wr.heap.size + 1 by omega)
              simpa using this
            refine ⟨k + 1, (.slice a6 L6 c6, ppl ++ ppr ++ [(K, V)], (40, 0) :: il ++ [(K, V)] ++ ir ++ [(41, 0)]) :: S, by omega, by go_num, g3, ?_, ?_, ?_, ?_, below_setTok hbx g2 hbx.size hgb.1⟩
            · intro p hp
              rcases List.mem_cons.1 hp with rfl | hp
              · refine ⟨World.ownsRow.kept hnew g2 ?_, ?_, PX.op HPX.out.1 HPX.out.2 hpK⟩
                · cases hk : (Value.slice a6 L6 c6).ownBlock with
                  | none => exact .inl rfl
                  | some q =>
                    have := hown6.base q hk
                    right; intro e; cases e; omega
                · intro q h1 h2
                  have := hown6.base q h1
                  have h3 : some g = some q := h2
                  cases h3; omega
              · obtain ⟨x1, x2, x3⟩ := HEN.out p hp
                refine ⟨World.ownsRow.kept ((x1.alloc _).below hz6) g2 ?_, fun q h1 h2 => x2 q h1 h2, x3⟩
                exact x2.or
            · show _ = _
              have := HP.out
              rw [posts_cons, posts_cons] at this
              rw [posts_cons, HTK.out, ← this]
              simp
            · rw [List.length_cons, hM]; exact HR2
            · rw [List.length_cons, hM]; omega
          case measure => simp [intOf]; omega
      · have hkd : decide ((k : Int) < (n : Int)) = false := decide_eq_false (by omega)
        have hE1 : E.length = 1 := by
          have := HR.out
          rw [List.drop_eq_nil_of_le (by have := HLN.out; omega)] at this
          simpa [Ex.vrun] using this
        obtain ⟨p, rfl⟩ : ∃ p, E = [p] := by
          match E, hE1 with
          | [p], _ => exact ⟨p, rfl⟩
        obtain ⟨v, pp, ii⟩ := p
        obtain ⟨x1, x2, x3⟩ := hen (v, pp, ii) (by simp)
        simp only at x1 x2 x3
        have epp : pp = ts := by
          have := HP.out
          rw [posts_cons, List.take_of_length_le (by have := HLN.out; omega)] at this
          simpa [posts] using this
        subst epp
        have HRES : Hid (TiR pp wr w.heap.size v true) := .inr ⟨HVP.out, rfl, ii, x3, x1⟩
        obtain ⟨g, cp, rfl, hg1, hg2⟩ := hst.at (by rw [vals_len]; simp)
        have q1 := hst.cellAt 0 0 (by rw [vals_len]; simp) (by omega)
        have el : (vals [(v, pp, ii)]).length = 1 := by rw [vals_len]; rfl
        simp [vals] at q1
        rw [el] at hg1 ⊢
        unfold maxLen at hg2
        obtain ⟨av, Lv, cv, rfl⟩ := x1.slice
        clear el x1 x2 x3 hst hen hE1
        go_wp2_with fail
        go_ret2
        first
        | exact ⟨_, _, rfl, hb, HRES.out⟩
        | exact ⟨_, .inr ⟨rfl, hb, HRES.out⟩⟩
end Go.Proofs.Ymbrbt
