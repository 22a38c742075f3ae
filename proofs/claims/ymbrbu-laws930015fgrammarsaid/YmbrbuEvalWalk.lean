import Derived.Test.YmbrbuTokenWalk
import Derived.Test.YmbrbuTpWalk
import Derived.Test.YmbrbuEvWalk
set_option linter.unusedVariables false
set_option linter.unusedSimpArgs false
set_option linter.unnecessarySimpa false
namespace Go.Proofs.Ymbrbu
open Go.RowKit

theorem tokOk_app {a b : List (Int × Int)} (ha : TokOk a) (hb : TokOk b) : TokOk (a ++ b) := fun t ht => by
  rcases List.mem_append.1 ht with h | h
  · exact ha t h
  · exact hb t h
theorem bz_ok : ∀ (bs : List Int) (T : List (Int × Int)) (cur : Option Nat), (∀ c ∈ bs, 0 ≤ c ∧ c ≤ 255) → TokOk T → (∀ v, cur = some v → v ≤ 9223372036854775807) → TokOk (bz bs T cur).2
  | [], T, cur, hb, hT, hc => by
    refine tokOk_app hT ?_
    intro t ht
    cases cur with
    | none => cases ht
    | some v => simp [flush] at ht; subst ht; have := hc v rfl; exact ⟨by omega, by omega, by simp [Ex.inI]; omega⟩
  | c :: bs, T, cur, hb, hT, hc => by
    have hfl : TokOk (T ++ flush cur) := by
      refine tokOk_app hT ?_
      intro t ht
      cases cur with
      | none => cases ht
      | some v => simp [flush] at ht; subst ht; have := hc v rfl; exact ⟨by omega, by omega, by simp [Ex.inI]; omega⟩
    have hb' : ∀ x ∈ bs, 0 ≤ x ∧ x ≤ 255 := fun x hx => hb x (by simp [hx])
    have h0 := hb c (by simp)
    rw [bz]
    split
    · exact bz_ok bs _ none hb' hfl (fun v hv => by cases hv)
    · split
      · refine bz_ok bs _ none hb' (tokOk_app hfl ?_) (fun v hv => by cases hv)
        intro t ht
        simp at ht; subst ht
        exact ⟨h0.1, h0.2, by simp [Ex.inI]⟩
      · split
        · split
          · rename_i hf
            exact bz_ok bs T _ hb' hT (fun v hv => by cases hv; exact hf)
          · intro t ht; cases ht
        · intro t ht; cases ht
/-- how long the token list is -/
theorem bz_len : ∀ (bs : List Int) (T : List (Int × Int)) (cur : Option Nat), (bz bs T cur).2.length ≤ T.length + (flush cur).length + bs.length
  | [], T, cur => by simp [bz]
  | c :: bs, T, cur => by
    rw [bz]
    split
    · have := bz_len bs (T ++ flush cur) none
      simp [flush] at this ⊢
      omega
    · split
      · have := bz_len bs (T ++ flush cur ++ [(c, 0)]) none
        simp [flush] at this ⊢
        omega
      · split
        · split
          · have := bz_len bs T (some (cur.getD 0 * 10 + (c - 48).toNat))
            simp [flush] at this ⊢
            omega
          · simp
        · simp
theorem tpStep_mem {out S out' S' : List Tk} {want want' : Bool} {t : Tk} (h : tpStep (out, S, want) t = some (out', S', want')) : (∀ x ∈ out' ++ S', x ∈ out ++ S ∨ x = t) ∧ out'.length + S'.length ≤ out.length + S.length + 1 := by
  have hsp : ∀ m, S.takeWhile (ge m) ++ S.dropWhile (ge m) = S := fun m => List.takeWhile_append_dropWhile
  have hmT : ∀ m x, x ∈ S.takeWhile (ge m) → x ∈ S := fun m x hx => by rw [← hsp m]; exact List.mem_append_left _ hx
  have hmD : ∀ m x, x ∈ S.dropWhile (ge m) → x ∈ S := fun m x hx => by rw [← hsp m]; exact List.mem_append_right _ hx
  have hl : ∀ m, (S.takeWhile (ge m)).length + (S.dropWhile (ge m)).length = S.length := fun m => by rw [← List.length_append, hsp m]
  unfold tpStep at h
  simp only at h
  split at h
  · cases h
  split at h
  · cases h
    refine ⟨fun x hx => ?_, by simp; omega⟩
    simp at hx ⊢
    rcases hx with hx | hx | hx <;> simp [hx]
  split at h
  · cases h
    refine ⟨fun x hx => ?_, by simp; omega⟩
    simp at hx ⊢
    rcases hx with hx | hx | hx <;> simp [hx]
  split at h
  · cases hd : S.dropWhile (ge 1) with
    | nil => rw [hd] at h; cases h
    | cons y r =>
      rw [hd] at h
      cases h
      have hlm := hl 1
      rw [hd] at hlm
      refine ⟨fun x hx => ?_, by simp at hlm ⊢; omega⟩
      simp at hx ⊢
      rcases hx with hx | hx | hx
      · simp [hx]
      · exact .inl (.inr (hmT 1 x hx))
      · exact .inl (.inr (hmD 1 x (by rw [hd]; simp [hx])))
  split at h
  · cases h
    have hlm := hl (Ex.prec t.1)
    refine ⟨fun x hx => ?_, by simp; omega⟩
    simp at hx ⊢
    rcases hx with hx | hx | hx | hx
    · simp [hx]
    · exact .inl (.inr (hmT _ x hx))
    · simp [hx]
    · exact .inl (.inr (hmD _ x hx))
  · cases h
theorem tpRun_mem : ∀ (ts out S out' S' : List Tk) (want want' : Bool), tpRun ts (out, S, want) = some (out', S', want') → (∀ x ∈ out' ++ S', x ∈ out ++ S ∨ x ∈ ts) ∧ out'.length + S'.length ≤ out.length + S.length + ts.length
  | [], out, S, out', S', want, want', h => by
    simp only [tpRun] at h
    cases h
    exact ⟨fun x hx => .inl hx, by simp⟩
  | t :: ts, out, S, out', S', want, want', h => by
    rw [tpRun_cons] at h
    cases hs : tpStep (out, S, want) t with
    | none => rw [hs] at h; cases h
    | some st =>
      obtain ⟨o1, S1, w1⟩ := st
      rw [hs] at h
      obtain ⟨m1, l1⟩ := tpStep_mem hs
      obtain ⟨m2, l2⟩ := tpRun_mem ts o1 S1 out' S' w1 want' h
      refine ⟨fun x hx => ?_, by simp at l2 ⊢; omega⟩
      rcases m2 x hx with h' | h'
      · rcases m1 x h' with h'' | h''
        · exact .inl h''
        · right; simp [h'']
      · right; simp [h']
theorem tp_mem {ts p : List Tk} (h : tp ts = some p) : (∀ x ∈ p, x ∈ ts) ∧ p.length ≤ ts.length := by
  unfold tp at h
  cases hs : tpRun ts ([], [], true) with
  | none => rw [hs] at h; cases h
  | some st =>
    obtain ⟨out, S, want⟩ := st
    rw [hs] at h
    simp only [Option.bind_some, tpEnd] at h
    split at h
    · cases h
    · cases h
      obtain ⟨m, l⟩ := tpRun_mem ts [] [] out S true want hs
      have hsp : S.takeWhile (ge 1) ++ S.dropWhile (ge 1) = S := List.takeWhile_append_dropWhile
      have hll : (S.takeWhile (ge 1)).length ≤ S.length := by
        have := congrArg List.length hsp
        rw [List.length_append] at this
        omega
      refine ⟨fun x hx => ?_, by simp at l ⊢; omega⟩
      rcases List.mem_append.1 hx with h' | h'
      · simpa using m x (by simp [h'])
      · simpa using m x (List.mem_append_right _ (by rw [← hsp]; exact List.mem_append_left _ h'))
def evS (bs : List Int) : Int × Int :=
  if (bz bs [] none).1 ≠ 0 then (0, (bz bs [] none).1) else match tp (bz bs [] none).2 with
    | none => (0, 2)
    | some p => Ex.evP p

set_option maxRecDepth 100000 in
set_option maxHeartbeats 2000000 in
theorem eval_any (s : ByteArray) (V C : Int) (w : World) (hs : s.size ≤ 100000) (hE : evS (sb s) = (V, C)) :
    Calls Ybum.prog 16 #[.string s] w fun e w' => e = .returned (.tuple #[.int .i64 V, .int .i64 C]) ∧ Below w.heap.size w w' := by
  have hK := bz_ok (sb s) [] none (sb_byte s) (fun t ht => by cases ht) (fun v hv => by cases hv)
  have hL := bz_len (sb s) [] none
  rw [sb_len] at hL
  simp [flush] at hL
  obtain ⟨R, hR⟩ : ∃ R, bz (sb s) [] none = R := ⟨_, rfl⟩
  obtain ⟨rc, ts⟩ := R
  rw [hR] at hK hL
  unfold evS at hE
  rw [hR] at hE
  simp only at hE hK hL
  have HR : Hid (bz (sb s) [] none = (rc, ts)) := hR
  have HE : Hid ((if rc ≠ 0 then ((0 : Int), rc) else match tp ts with | none => (0, 2) | some p => Ex.evP p) = (V, C)) := hE
  have HK : Hid (TokOk ts) := hK
  clear hR hE hK
  go_enter Ybum.func16, Ybum.ntmps16
  go_wp2_with fail
  refine (token_any s w (by omega)).mono ?_
  rintro e w1 ⟨v, c, rfl, hb1, hor⟩
  rw [HR.out] at hor
  rcases hor with ⟨h0, hc, rfl⟩ | ⟨out, h0, rfl, hown⟩
  · cases h0
    have hE2 := HE.out
    rw [if_pos hc] at hE2
    cases hE2
    have dc : (C != 0) = true := by simpa using hc
    clear hc HE HR
    go_wp2_with fail
    go_ret2
    exact ⟨rfl, hb1⟩
  · cases h0
    obtain ⟨aT, cT, rfl, hnT, hTT⟩ := hown.toks'
    have hE2 := HE.out
    rw [if_neg (by simp)] at hE2
    have HE2 : Hid ((match tp ts with | none => ((0 : Int), (2 : Int)) | some p => Ex.evP p) = (V, C)) := hE2
    clear hE2 HE HR hown
    go_wp2_with fail
    refine (topost_any aT ts.length cT ts w1 hTT (by omega)).mono ?_
    rintro e w2 ⟨v, c, rfl, hb2, hor⟩
    have hx2 := hb1.trans (hb2.mono hb1.size)
    rcases hor with ⟨h0, rfl, rfl⟩ | ⟨p, h0, rfl, hown⟩
    · have hE3 := HE2.out
      rw [h0] at hE3
      cases hE3
      clear HE2 h0
      go_wp2_with fail
      go_ret2
      exact ⟨rfl, hx2⟩
    · have hE3 := HE2.out
      rw [h0] at hE3
      simp only at hE3
      obtain ⟨hm, hl⟩ := tp_mem h0
      have HKp : Hid (TokOk p) := fun t ht => HK.out t (hm t ht)
      have HE3 : Hid (Ex.evP p = (V, C)) := hE3
      obtain ⟨aP, cP, rfl, hnP, hTP⟩ := hown.toks'
      clear hE3 HE2 h0 hm hown
      go_wp2_with fail
      refine (ev_any aP p.length cP p V C w2 hTP HKp.out (by omega) HE3.out).mono ?_
      rintro e w3 ⟨rfl, hb3⟩
      go_wp2_with fail
      go_ret2
      exact ⟨rfl, hx2.trans (hb3.mono hx2.size)⟩
end Go.Proofs.Ymbrbu
