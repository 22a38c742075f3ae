import Derived.Test.YmbrbtTokenWalk
import Derived.Deep.Cut
import Derived.Deep.CutRange
set_option linter.unusedVariables false
set_option linter.unusedSimpArgs false
set_option linter.unnecessarySimpa false
namespace Go.Proofs.Ymbrbt
open Go.RowKit

/-- 'xs[p].Val = v' -/
theorem OwnT.setVal {w : World} {base g cap : Nat} {ts : List (Int × Int)} (h : OwnT w base (.slice (some ⟨g, 0, none⟩) ts.length cap) ts) (p : Nat) (hp : p < ts.length) (v : Int) :
    OwnT (w.setCell ⟨g, p * 2 + 1, none⟩ (.int .i64 v)) base (.slice (some ⟨g, 0, none⟩) ts.length cap) (ts.set p (Ex.kAt ts p, v)) ∧ w.grownBy (w.setCell ⟨g, p * 2 + 1, none⟩ (.int .i64 v)) (some g) := by
  obtain ⟨h1, h2⟩ := World.ownsRow.stored h (p * 2 + 1) (.int .i64 v)
  refine ⟨?_, h2⟩
  unfold OwnT
  rw [List.length_set, flat_set0 ts p _ v hp]
  have e : (flat ts).set (p * 2) (.int .u8 (Ex.kAt ts p)) = flat ts := by
    have f := (flat_at ts p hp).1
    obtain ⟨hl, he⟩ := List.getElem?_eq_some_iff.1 f
    rw [← he]; exact List.set_getElem_self hl
  rw [e]; exact h1
/-- the last token's value read and stored -/
theorem OwnT.last {w : World} {base g cap : Nat} {T : List (Int × Int)} {k v : Int} (h : OwnT w base (.slice (some ⟨g, 0, none⟩) (T.length + 1) cap) (T ++ [(k, v)])) :
    w.cell? ⟨g, T.length * 2 + 1, none⟩ = some (.int .i64 v) ∧ w.frozen? ⟨g, T.length * 2 + 1, none⟩ = false ∧
    ∀ x, OwnT (w.setCell ⟨g, T.length * 2 + 1, none⟩ (.int .i64 x)) base (.slice (some ⟨g, 0, none⟩) (T.length + 1) cap) (T ++ [(k, x)]) ∧ w.grownBy (w.setCell ⟨g, T.length * 2 + 1, none⟩ (.int .i64 x)) (some g) := by
  have hl : (T ++ [(k, v)]).length = T.length + 1 := by simp
  have e : Ex.kAt (T ++ [(k, v)]) T.length = k ∧ Ex.vAt (T ++ [(k, v)]) T.length = v := by
    simp [Ex.kAt, Ex.vAt, List.getD_eq_getElem?_getD]
  refine ⟨?_, h.frozenAt _, fun x => ?_⟩
  · have := (h.cells T.length (by omega)).2
    rw [e.2] at this; exact this
  · have h' : OwnT w base (.slice (some ⟨g, 0, none⟩) (T ++ [(k, v)]).length cap) (T ++ [(k, v)]) := by rw [hl]; exact h
    have := OwnT.setVal h' T.length (by omega) x
    rw [hl, e.1] at this
    have es : (T ++ [(k, v)]).set T.length (k, x) = T ++ [(k, x)] := by
      rw [List.set_append_right _ _ (Nat.le_refl _), Nat.sub_self]; rfl
    rw [es] at this
    exact this

set_option maxRecDepth 100000 in
set_option maxHeartbeats 10000000 in
theorem bmodel_any (s : ByteArray) (w : World) (hs : s.size ≤ 100000000) :
    Calls Ybtm.prog 20 #[.string s] w fun e w' => ∃ v c, e = .returned (.tuple #[v, .int .i64 c]) ∧ Below w.heap.size w w' ∧ ((bz (sb s) [] none = (c, []) ∧ c ≠ 0) ∨ ∃ out, bz (sb s) [] none = (0, out) ∧ c = 0 ∧ OwnT w' w.heap.size v out) := by
  have HS : Hid ((sb s).length = s.size) := sb_len s
  have hsb := sb_at s
  go_enter Ybtm.func20, Ybtm.ntmps20
  go_wp2_with fail
  go_loopw [4, 5, 6, 7, 8, 9] (fun v o i _ _ _ wr => ∃ (k : Nat) (T : List (Int × Int)) (cur : Option Nat), k ≤ s.size ∧ i = .int .i64 k ∧ o = .bool cur.isSome ∧ T.length + (flush cur).length ≤ k ∧ Hid (∀ x, cur = some x → x ≤ 9223372036854775807) ∧ Hid (bz ((sb s).drop k) T cur = bz (sb s) [] none) ∧ OwnT wr w.heap.size v (T ++ flush cur) ∧ Below w.heap.size w wr) (fun _ _ i _ _ _ _ => s.size - (intOf i).toNat)
  case atStart => exact ⟨0, [], none, by omega, rfl, rfl, by simp [flush], (fun x hx => by cases hx), rfl, OwnT.nil _ _, Below.refl _ _⟩
  case round =>
    obtain ⟨k, T, cur, hk, rfl, rfl, hTk, HX, HB, hown, hb⟩ := hrel
    have hB := hb.size
    by_cases hlt : k < s.size
    · have hkl : k < (sb s).length := by have := HS.out; omega
      have HD : Hid ((sb s).drop k = Ex.iAt (sb s) k :: (sb s).drop (k + 1)) := Ex.idrop_at (sb s) k hkl
      have hki : (k : Int) < (s.size : Int) := by omega
      have hki0 : (0 : Int) ≤ (k : Int) := by omega
      have hTl : (T ++ flush cur).length ≤ k := by simp; omega
      by_cases h32 : Ex.iAt (sb s) k = 32 ∨ Ex.iAt (sb s) k = 9
      · have HN : Hid (bz ((sb s).drop (k + 1)) (T ++ flush cur) none = bz (sb s) [] none) := by
          show _ = _
          rw [← HB.out, HD.out, bz, if_pos h32]
        rcases h32 with h32 | h32
        all_goals
          go_wp2_with fail
          go_roundw
          case rel => exact ⟨k + 1, T ++ flush cur, none, by omega, by go_num, rfl, by simp [flush] at hTl ⊢; omega, (fun x hx => by cases hx), HN, by simpa [flush] using hown, hb⟩
          case measure => simp [intOf]; omega
      · cases hsy : isSym (Ex.iAt (sb s) k) with
        | true =>
          have HN : Hid (bz ((sb s).drop (k + 1)) (T ++ flush cur ++ [(Ex.iAt (sb s) k, 0)]) none = bz (sb s) [] none) := by
            show _ = _
            rw [← HB.out, HD.out, bz, if_neg h32, if_pos hsy]
          have hc : Ex.iAt (sb s) k = 43 ∨ Ex.iAt (sb s) k = 45 ∨ Ex.iAt (sb s) k = 42 ∨ Ex.iAt (sb s) k = 47 ∨ Ex.iAt (sb s) k = 40 ∨ Ex.iAt (sb s) k = 41 := by
            unfold isSym at hsy
            simp at hsy
            rcases hsy with (h | h) | h
            · rcases Ex.prec_cases (Ex.iAt (sb s) k) with ⟨_, h'⟩ | ⟨_, h'⟩ | ⟨h0, _⟩ <;> omega
            · omega
            · omega
          generalize T ++ flush cur = L at hown hTl HN
          clear h32 hsy HB HX hTk
          rcases hc with hc | hc | hc | hc | hc | hc
          all_goals
            rw [hc] at HN
            go_wp2_with (first | (at_builtin; refine app_tok _ rfl (.tmp 30) (.tmp 33) rfl w.heap.size _ L rfl (hown.alloc _) _ _ 0 rfl (by simp; rfl) (by simp) (by omega) (by simp; omega) ?_; intro v' w2 hown2 hold2 hgr))
            go_roundw
            case rel => exact ⟨k + 1, _, none, by omega, by go_num, rfl, by simp [flush]; omega, (fun x hx => by cases hx), HN, by simpa [flush] using hown2, below_app hb hB hown.base hgr.after_alloc⟩
            case measure => simp [intOf]; omega
        | false =>
          cases hdg : Ex.isD (Ex.iAt (sb s) k) with
          | false =>
            have HE : Hid (bz (sb s) [] none = (1, [])) := by
              show _ = _
              rw [← HB.out, HD.out, bz_bad _ _ _ h32 hsy hdg]
            rw [Ex.isD_not] at hdg
            have hns : ¬ (Ex.iAt (sb s) k = 43 ∨ Ex.iAt (sb s) k = 45 ∨ Ex.iAt (sb s) k = 42 ∨ Ex.iAt (sb s) k = 47 ∨ Ex.iAt (sb s) k = 40 ∨ Ex.iAt (sb s) k = 41) := by
              intro h
              rcases h with h | h | h | h | h | h <;> (rw [h] at hsy; simp [isSym, Ex.prec] at hsy)
            have q32 : (Ex.iAt (sb s) k == 32) = false := by simp; omega
            have q9 : (Ex.iAt (sb s) k == 9) = false := by simp; omega
            have q43 : (Ex.iAt (sb s) k == 43) = false := by simp; omega
            have q45 : (Ex.iAt (sb s) k == 45) = false := by simp; omega
            have q42 : (Ex.iAt (sb s) k == 42) = false := by simp; omega
            have q47 : (Ex.iAt (sb s) k == 47) = false := by simp; omega
            have q40 : (Ex.iAt (sb s) k == 40) = false := by simp; omega
            have q41 : (Ex.iAt (sb s) k == 41) = false := by simp; omega
            have q48 : (Ex.iAt (sb s) k == 48) = false := by simp; omega
            have q49 : (Ex.iAt (sb s) k == 49) = false := by simp; omega
            have q50 : (Ex.iAt (sb s) k == 50) = false := by simp; omega
            have q51 : (Ex.iAt (sb s) k == 51) = false := by simp; omega
            have q52 : (Ex.iAt (sb s) k == 52) = false := by simp; omega
            have q53 : (Ex.iAt (sb s) k == 53) = false := by simp; omega
            have q54 : (Ex.iAt (sb s) k == 54) = false := by simp; omega
            have q55 : (Ex.iAt (sb s) k == 55) = false := by simp; omega
            have q56 : (Ex.iAt (sb s) k == 56) = false := by simp; omega
            have q57 : (Ex.iAt (sb s) k == 57) = false := by simp; omega
            clear h32 hsy hdg hns HB HX hTk hTl
            go_wp2_with fail
            go_ret2
            exact ⟨_, _, rfl, hb, .inl ⟨HE.out, by decide⟩⟩
          | true =>
            have HZ : Hid (bz (sb s) [] none = if cur.getD 0 * 10 + (Ex.iAt (sb s) k - 48).toNat ≤ 9223372036854775807 then bz ((sb s).drop (k + 1)) T (some (cur.getD 0 * 10 + (Ex.iAt (sb s) k - 48).toNat)) else (3, [])) := by
              show _ = _
              rw [← HB.out, HD.out, bz_dig _ _ _ hdg]
            rw [Ex.isD_iff] at hdg
            have q32 : (Ex.iAt (sb s) k == 32) = false := by simp; omega
            have q9 : (Ex.iAt (sb s) k == 9) = false := by simp; omega
            have q43 : (Ex.iAt (sb s) k == 43) = false := by simp; omega
            have q45 : (Ex.iAt (sb s) k == 45) = false := by simp; omega
            have q42 : (Ex.iAt (sb s) k == 42) = false := by simp; omega
            have q47 : (Ex.iAt (sb s) k == 47) = false := by simp; omega
            have q40 : (Ex.iAt (sb s) k == 40) = false := by simp; omega
            have q41 : (Ex.iAt (sb s) k == 41) = false := by simp; omega
            clear h32 hsy HB
            go_upto_if 35 with fail
            go_cut [35] from 10 to 81 (fun b wq => b = .bool true ∧ wr = wq)
            case rest =>
              obtain ⟨rfl, rfl⟩ := hcut
              clear q32 q9 q43 q45 q42 q47 q40 q41
              generalize Ex.iAt (sb s) k = c at HZ hdg ⊢
              obtain ⟨D, hD⟩ : ∃ D : Nat, c - 48 = (D : Int) := ⟨(c - 48).toNat, by omega⟩
              have hD9 : D ≤ 9 := by omega
              rw [hD, Int.toNat_natCast] at HZ
              cases cur with
              | none =>
                simp only [flush, List.append_nil] at hown hTl
                have HN : Hid (bz ((sb s).drop (k + 1)) T (some D) = bz (sb s) [] none) := by
                  show _ = _
                  rw [HZ.out, if_pos (by simp; omega)]; simp
                clear HZ HX
                go_wp2_with (first | (at_builtin; refine app_tok _ rfl (.tmp 51) (.tmp 53) rfl w.heap.size _ T rfl (hown.alloc _) _ 48 0 rfl (by simp) (by simp) (by omega) (by simp; omega) ?_; intro v' w2 hown2 hold2 hgr; obtain ⟨g, cp, rfl, hg1, hg2, -⟩ := hown2.at (by simp); have eL : (T ++ [((48 : Int), (0 : Int))]).length = T.length + 1 := (by simp); rw [eL] at hown2 hg1 ⊢; obtain ⟨c5, f5, hset⟩ := hown2.last; unfold maxLen at hg2; have hgb := (hown2.lt g rfl).1; have hb2 := below_app hb hB hown.base hgr.after_alloc; clear eL hown2))
                go_roundw
                case rel => exact ⟨k + 1, T, some D, by omega, by go_num, rfl, by simp [flush]; omega, (fun x hx => by cases hx; omega), HN, (hset D).1, below_setTok hb2 (hset D).2 hb2.size hgb⟩
                case measure => simp [intOf]; omega
              | some V =>
                have hV := HX.out V rfl
                simp only [flush] at hown hTl
                obtain ⟨g, cp, rfl, hg1, hg2, -⟩ := hown.at (by simp)
                have eL : (T ++ [((48 : Int), (V : Int))]).length = T.length + 1 := by simp
                rw [eL] at hown hg1 hTl ⊢
                obtain ⟨c5, f5, hset⟩ := hown.last
                unfold maxLen at hg2
                have hgb := (hown.lt g rfl).1
                simp only [Option.getD_some] at HZ
                clear eL hown HX hTk
                by_cases y1 : 922337203685477580 < V
                · have HE : Hid (bz (sb s) [] none = (3, [])) := by
                    show _ = _
                    rw [HZ.out, if_neg (by omega)]
                  have d1 : (922337203685477580 : Int) < (V : Int) := by omega
                  clear HZ
                  go_wp2_with fail
                  go_ret2
                  exact ⟨_, _, rfl, hb, .inl ⟨HE.out, by decide⟩⟩
                have d1 : decide ((922337203685477580 : Int) < (V : Int)) = false := decide_eq_false (by omega)
                by_cases y2 : V = 922337203685477580
                · have d2 : ((V : Int) == 922337203685477580) = true := by rw [y2]; rfl
                  by_cases y3 : 7 < D
                  · have HE : Hid (bz (sb s) [] none = (3, [])) := by
                      show _ = _
                      rw [HZ.out, if_neg (by omega)]
                    have d3 : (7 : Int) < (D : Int) := by omega
                    clear HZ y2
                    go_wp2_with fail
                    go_ret2
                    exact ⟨_, _, rfl, hb, .inl ⟨HE.out, by decide⟩⟩
                  · have HN : Hid (bz ((sb s).drop (k + 1)) T (some (V * 10 + D)) = bz (sb s) [] none) := by
                      show _ = _
                      rw [HZ.out, if_pos (by omega)]
                    have d3 : decide ((7 : Int) < (D : Int)) = false := decide_eq_false (by omega)
                    have hVD : V * 10 + D ≤ 9223372036854775807 := by omega
                    clear HZ y2
                    go_wp2_with fail
                    go_roundw
                    case rel => exact ⟨k + 1, T, some (V * 10 + D), by omega, by go_num, rfl, by simp [flush]; omega, (fun x hx => by cases hx; omega), HN, by simpa [flush] using (hset ((V : Int) * 10 + D)).1, below_setTok hb (hset ((V : Int) * 10 + D)).2 hB hgb⟩
                    case measure => simp [intOf]; omega
                · have d2 : ((V : Int) == 922337203685477580) = false := by simp; omega
                  have HN : Hid (bz ((sb s).drop (k + 1)) T (some (V * 10 + D)) = bz (sb s) [] none) := by
                    show _ = _
                    rw [HZ.out, if_pos (by omega)]
                  have hVD : V * 10 + D ≤ 9223372036854775807 := by omega
                  clear HZ
                  go_wp2_with fail
                  go_roundw
                  case rel => exact ⟨k + 1, T, some (V * 10 + D), by omega, by go_num, rfl, by simp [flush]; omega, (fun x hx => by cases hx; omega), HN, by simpa [flush] using (hset ((V : Int) * 10 + D)).1, below_setTok hb (hset ((V : Int) * 10 + D)).2 hB hgb⟩
                  case measure => simp [intOf]; omega
            case first =>
              have hcs : Ex.iAt (sb s) k = 48 ∨ Ex.iAt (sb s) k = 49 ∨ Ex.iAt (sb s) k = 50 ∨ Ex.iAt (sb s) k = 51 ∨ Ex.iAt (sb s) k = 52 ∨ Ex.iAt (sb s) k = 53 ∨ Ex.iAt (sb s) k = 54 ∨ Ex.iAt (sb s) k = 55 ∨ Ex.iAt (sb s) k = 56 ∨ Ex.iAt (sb s) k = 57 := by omega
              rcases hcs with hc | hc | hc | hc | hc | hc | hc | hc | hc | hc
              · have p48 : (Ex.iAt (sb s) k == 48) = true := by rw [hc]; rfl
                clear hc hdg HZ hsb HS HD
                go_wp2_with fail
                go_meet
                case rel => exact ⟨congrArg Value.bool p48, rfl⟩
              · have p48 : (Ex.iAt (sb s) k == 48) = false := by rw [hc]; rfl
                have p49 : (Ex.iAt (sb s) k == 49) = true := by rw [hc]; rfl
                clear hc hdg HZ hsb HS HD
                go_wp2_with fail
                go_meet
                case rel => exact ⟨rfl, rfl⟩
              · have p48 : (Ex.iAt (sb s) k == 48) = false := by rw [hc]; rfl
                have p49 : (Ex.iAt (sb s) k == 49) = false := by rw [hc]; rfl
                have p50 : (Ex.iAt (sb s) k == 50) = true := by rw [hc]; rfl
                clear hc hdg HZ hsb HS HD
                go_wp2_with fail
                go_meet
                case rel => exact ⟨rfl, rfl⟩
              · have p48 : (Ex.iAt (sb s) k == 48) = false := by rw [hc]; rfl
                have p49 : (Ex.iAt (sb s) k == 49) = false := by rw [hc]; rfl
                have p50 : (Ex.iAt (sb s) k == 50) = false := by rw [hc]; rfl
                have p51 : (Ex.iAt (sb s) k == 51) = true := by rw [hc]; rfl
                clear hc hdg HZ hsb HS HD
                go_wp2_with fail
                go_meet
                case rel => exact ⟨rfl, rfl⟩
              · have p48 : (Ex.iAt (sb s) k == 48) = false := by rw [hc]; rfl
                have p49 : (Ex.iAt (sb s) k == 49) = false := by rw [hc]; rfl
                have p50 : (Ex.iAt (sb s) k == 50) = false := by rw [hc]; rfl
                have p51 : (Ex.iAt (sb s) k == 51) = false := by rw [hc]; rfl
                have p52 : (Ex.iAt (sb s) k == 52) = true := by rw [hc]; rfl
                clear hc hdg HZ hsb HS HD
                go_wp2_with fail
                go_meet
                case rel => exact ⟨rfl, rfl⟩
              · have p48 : (Ex.iAt (sb s) k == 48) = false := by rw [hc]; rfl
                have p49 : (Ex.iAt (sb s) k == 49) = false := by rw [hc]; rfl
                have p50 : (Ex.iAt (sb s) k == 50) = false := by rw [hc]; rfl
                have p51 : (Ex.iAt (sb s) k == 51) = false := by rw [hc]; rfl
                have p52 : (Ex.iAt (sb s) k == 52) = false := by rw [hc]; rfl
                have p53 : (Ex.iAt (sb s) k == 53) = true := by rw [hc]; rfl
                clear hc hdg HZ hsb HS HD
                go_wp2_with fail
                go_meet
                case rel => exact ⟨rfl, rfl⟩
              · have p48 : (Ex.iAt (sb s) k == 48) = false := by rw [hc]; rfl
                have p49 : (Ex.iAt (sb s) k == 49) = false := by rw [hc]; rfl
                have p50 : (Ex.iAt (sb s) k == 50) = false := by rw [hc]; rfl
                have p51 : (Ex.iAt (sb s) k == 51) = false := by rw [hc]; rfl
                have p52 : (Ex.iAt (sb s) k == 52) = false := by rw [hc]; rfl
                have p53 : (Ex.iAt (sb s) k == 53) = false := by rw [hc]; rfl
                have p54 : (Ex.iAt (sb s) k == 54) = true := by rw [hc]; rfl
                clear hc hdg HZ hsb HS HD
                go_wp2_with fail
                go_meet
                case rel => exact ⟨rfl, rfl⟩
              · have p48 : (Ex.iAt (sb s) k == 48) = false := by rw [hc]; rfl
                have p49 : (Ex.iAt (sb s) k == 49) = false := by rw [hc]; rfl
                have p50 : (Ex.iAt (sb s) k == 50) = false := by rw [hc]; rfl
                have p51 : (Ex.iAt (sb s) k == 51) = false := by rw [hc]; rfl
                have p52 : (Ex.iAt (sb s) k == 52) = false := by rw [hc]; rfl
                have p53 : (Ex.iAt (sb s) k == 53) = false := by rw [hc]; rfl
                have p54 : (Ex.iAt (sb s) k == 54) = false := by rw [hc]; rfl
                have p55 : (Ex.iAt (sb s) k == 55) = true := by rw [hc]; rfl
                clear hc hdg HZ hsb HS HD
                go_wp2_with fail
                go_meet
                case rel => exact ⟨rfl, rfl⟩
              · have p48 : (Ex.iAt (sb s) k == 48) = false := by rw [hc]; rfl
                have p49 : (Ex.iAt (sb s) k == 49) = false := by rw [hc]; rfl
                have p50 : (Ex.iAt (sb s) k == 50) = false := by rw [hc]; rfl
                have p51 : (Ex.iAt (sb s) k == 51) = false := by rw [hc]; rfl
                have p52 : (Ex.iAt (sb s) k == 52) = false := by rw [hc]; rfl
                have p53 : (Ex.iAt (sb s) k == 53) = false := by rw [hc]; rfl
                have p54 : (Ex.iAt (sb s) k == 54) = false := by rw [hc]; rfl
                have p55 : (Ex.iAt (sb s) k == 55) = false := by rw [hc]; rfl
                have p56 : (Ex.iAt (sb s) k == 56) = true := by rw [hc]; rfl
                clear hc hdg HZ hsb HS HD
                go_wp2_with fail
                go_meet
                case rel => exact ⟨rfl, rfl⟩
              · have p48 : (Ex.iAt (sb s) k == 48) = false := by rw [hc]; rfl
                have p49 : (Ex.iAt (sb s) k == 49) = false := by rw [hc]; rfl
                have p50 : (Ex.iAt (sb s) k == 50) = false := by rw [hc]; rfl
                have p51 : (Ex.iAt (sb s) k == 51) = false := by rw [hc]; rfl
                have p52 : (Ex.iAt (sb s) k == 52) = false := by rw [hc]; rfl
                have p53 : (Ex.iAt (sb s) k == 53) = false := by rw [hc]; rfl
                have p54 : (Ex.iAt (sb s) k == 54) = false := by rw [hc]; rfl
                have p55 : (Ex.iAt (sb s) k == 55) = false := by rw [hc]; rfl
                have p56 : (Ex.iAt (sb s) k == 56) = false := by rw [hc]; rfl
                have p57 : (Ex.iAt (sb s) k == 57) = true := by rw [hc]; rfl
                clear hc hdg HZ hsb HS HD
                go_wp2_with fail
                go_meet
                case rel => exact ⟨rfl, rfl⟩
    · have hkn : decide ((k : Int) < (s.size : Int)) = false := decide_eq_false (by omega)
      have HE : Hid (bz (sb s) [] none = (0, T ++ flush cur)) := by
        show _ = _
        rw [← HB.out, List.drop_eq_nil_of_le (by have := HS.out; omega)]
        simp [bz]
      go_wp2_with fail
      go_ret2
      exact ⟨_, _, rfl, hb, .inr ⟨_, HE.out, rfl, hown⟩⟩
end Go.Proofs.Ymbrbt
