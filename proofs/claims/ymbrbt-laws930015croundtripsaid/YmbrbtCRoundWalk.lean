import Derived.Test.YmbrbtCExactWalk
set_option linter.unusedVariables false
set_option linter.unusedSimpArgs false
set_option linter.unnecessarySimpa false
namespace Go.Proofs.Ymbrbt
open Go.RowKit

theorem items_law {ts : List (Int × Int × Int)} (h : TripOk_u8_u8_i64 ts) : ∀ t ∈ ts.map (itemT false), lawB t = true ∧ t.2 ≤ 9223372036854775807 := fun t ht => by
  obtain ⟨q, hq, rfl⟩ := List.mem_map.1 ht
  obtain ⟨_, h2, h3⟩ := h q hq
  exact goodT_law h3
theorem items_at (ts : List (Int × Int × Int)) (i : Nat) (h : i < ts.length) : (Ex.kAt (ts.map (itemT false)) i, Ex.vAt (ts.map (itemT false)) i) = goodT (Ex3 ts i).1 (Ex3 ts i).2.2 := by
  rw [Ex.at_eq _ _ (by simpa using h)]
  simp [Ex3, List.getD_eq_getElem?_getD, h, itemT]

set_option maxRecDepth 100000 in
set_option maxHeartbeats 4000000 in
theorem cround_any (a : Option Addr) (n cap : Nat) (ts : List (Int × Int × Int)) (w : World) (ht : Trips_u8_u8_i64 w a n cap ts) (hok : TripOk_u8_u8_i64 ts) :
    Calls Ybtm.prog 10 #[.slice a n cap] w fun e w' => e = .returned (.bool true) ∧ Below w.heap.size w w' := by
  have hnc := ht.2.1
  have hcm := ht.2.2.1
  unfold maxLen at hcm
  have HT : Hid (Trips_u8_u8_i64 w a n cap ts) := ht
  have HOK : Hid (TripOk_u8_u8_i64 ts) := hok
  have HLN : Hid (ts.length = n) := ht.1
  have hlen : (ts.map (itemT false)).length = n := by simp [ht.1]
  clear ht hok
  by_cases hbig : 1024 < n
  · go_enter Ybtm.func10, Ybtm.ntmps10
    go_wp2_with fail
    go_ret
    exact ⟨rfl, Below.refl _ _⟩
  have d0 : decide ((1024 : Int) < (n : Int)) = false := decide_eq_false (by omega)
  have HI : Hid (TokOk (ts.map (itemT false))) := tokOk_items false HOK.out
  have HAT : Hid (∀ i, i < ts.length → (Ex.kAt (ts.map (itemT false)) i, Ex.vAt (ts.map (itemT false)) i) = goodT (Ex3 ts i).1 (Ex3 ts i).2.2) := items_at ts
  have HBZ : Hid (bz (joined (ts.map (itemT false))) [] none = (0, ts.map (itemT false))) := bz_joined _ (items_law HOK.out)
  have HALL : Hid ((ts.map (itemT false)).all lawB = true) := List.all_eq_true.2 (fun t h => (items_law HOK.out t h).1)
  have HJL : Hid ((joined (ts.map (itemT false))).length ≤ 21 * n) := by
    show _ ≤ _
    have := joined_len (ts.map (itemT false))
    rwa [hlen] at this
  go_enter Ybtm.func10, Ybtm.ntmps10
  go_wp2_with fail
  refine (cbuild_any a n cap ts false w HT.out HOK.out (by omega)).mono ?_
  rintro e w1 ⟨v1, rfl, hown1, hb1⟩
  obtain ⟨a1, c1, rfl, hn1, ht1⟩ := hown1.toks'
  rw [hlen] at ht1 ⊢
  generalize ts.map (itemT false) = R at ht1 HI HBZ HALL HJL HAT hlen
  have HRL : Hid (R.length = n) := hlen
  clear hown1 hlen
  go_wp2_with fail
  refine (format_any a1 n c1 R w1 ht1 HI.out (by omega)).mono ?_
  rintro e w2 ⟨s2, b2, rfl, hb2, hr2⟩
  obtain ⟨rfl, g2⟩ := hr2
  rw [HALL.out] at g2 ⊢
  simp only [if_true] at g2
  have hsz : s2.size ≤ 100000 := by
    have h1 := HJL.out
    rw [← g2, sb_len] at h1
    omega
  have HG : Hid (sb s2 = joined R) := g2
  have hx2 := hb1.trans (hb2.mono hb1.size)
  clear g2
  go_wp2_with fail
  refine (token_any s2 w2 (by omega)).mono ?_
  rintro e w3 ⟨v3, c3, rfl, hb3, h3⟩
  have hx3 := hx2.trans (hb3.mono hx2.size)
  rw [HG.out, HBZ.out] at h3
  have h4 : c3 = 0 ∧ OwnT w3 w2.heap.size v3 R := by
    rcases h3 with ⟨e1, e2, e3⟩ | ⟨o, e1, rfl, e3⟩
    · cases e1; exact absurd rfl e2
    · cases e1; exact ⟨rfl, e3⟩
  obtain ⟨rfl, hown⟩ := h4
  obtain ⟨a4, c4, rfl, hn4, ht4⟩ := hown.toks'
  rw [HRL.out] at ht4 ⊢
  have HT4 : Hid (Toks w3 a4 n c4 R) := ht4
  have hc4 := ht4.2.1
  have hc5 := ht4.2.2.1
  unfold maxLen at hc5
  clear h3 hown ht4 ht1
  have dn : ((n : Int) != (n : Int)) = false := by simp
  go_wp2_with fail
  go_loopw [8, 9, 10, 39] (fun _ _ _ i wr => ∃ (k : Nat), k ≤ n ∧ i = .int .i64 k ∧ Below w3.heap.size w3 wr) (fun _ _ _ i _ => n - (intOf i).toNat)
  case atStart => exact ⟨0, by omega, rfl, Below.refl _ _⟩
  case round =>
    obtain ⟨k, hk, rfl, hb⟩ := hrel
    have hB := hb.size
    have hxk : Below w.heap.size w wr := hx3.trans (hb.mono hx3.size)
    by_cases hlt : k < n
    · obtain ⟨b, off, rfl, hc⟩ := (HT.out.below (hxk.mono (Nat.le_refl _))).2.2.2 (by omega)
      obtain ⟨x1, x2, x3⟩ := hc k hlt
      obtain ⟨⟨o1, o2⟩, ⟨o3, o4⟩, o5⟩ := HOK.out _ (Ex3_mem ts k (by have := HLN.out; omega))
      have hat := HAT.out k (by have := HLN.out; omega)
      generalize Ex3 ts k = q at x1 x2 x3 o1 o2 o3 o4 o5 hat
      have hb2 := hb.alloc hB (.cells #[.int .u8 q.1, .int .u8 q.2.1, .int .i64 q.2.2] 52)
      clear hc
      go_wp2_with fail
      refine (cgood_any q.1 q.2.1 q.2.2 _ o1 o2 o5).mono ?_
      rintro e w6 ⟨rfl, hb6⟩
      have hb7 := hb2.trans (hb6.mono hb2.size)
      have hb8 := hb7.alloc (by have := hb7.size; omega) (.cells #[.int .u8 (goodT q.1 q.2.2).1, .int .i64 (goodT q.1 q.2.2).2] 30)
      obtain ⟨b4, o4', rfl, hc4'⟩ := (HT4.out.below hb8).2.2.2 (by omega)
      obtain ⟨y1, y2⟩ := hc4' k hlt
      rw [← hat] at y1 y2 hb8 ⊢
      simp only [tokV] at y1 y2 hb8 ⊢
      generalize Ex.kAt R k = K at y1 y2 hb8 ⊢
      generalize Ex.vAt R k = V at y1 y2 hb8 ⊢
      clear hc4' hat
      have dK : (K != K) = false := by simp
      have dV : (V != V) = false := by simp
      have hki : (k : Int) < (n : Int) := by omega
      have hk0 : (0 : Int) ≤ (k : Int) := by omega
      go_wp2_with fail
      go_quiet (fail)
      go_wp2_with fail
      go_roundw
      case rel => exact ⟨k + 1, by omega, by go_num, below_drewN hb8 _⟩
      case measure => simp [intOf]; omega
    · have hkd : decide ((k : Int) < (n : Int)) = false := decide_eq_false (by omega)
      go_wp2_with fail
      go_ret
      exact ⟨rfl, hxk⟩
end Go.Proofs.Ymbrbt
