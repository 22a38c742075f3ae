import Derived.Test.YmbrbtCwantWalk
import Derived.BigQuiet
set_option linter.unusedVariables false
set_option linter.unusedSimpArgs false
set_option linter.unnecessarySimpa false
namespace Go.Proofs.Ymbrbt
open Go.RowKit

theorem sb_inj {s t : ByteArray} (h : sb s = sb t) : s = t := by
  have hl : ∀ (a b : List UInt8), (a.map fun x => (x.toNat : Int)) = (b.map fun x => (x.toNat : Int)) → a = b := by
    intro a
    induction a with
    | nil => intro b hb; cases b with
      | nil => rfl
      | cons y b => simp at hb
    | cons x a ih =>
      intro b hb
      cases b with
      | nil => simp at hb
      | cons y b =>
        simp at hb
        have h1 : x = y := UInt8.toNat_inj.1 (by omega)
        rw [h1, ih b hb.2]
  have := hl _ _ h
  have h2 : s.data = t.data := Array.toList_inj.1 this
  cases s; cases t
  simp at h2
  rw [h2]
theorem tokOk_items (raw : Bool) {ts : List (Int × Int × Int)} (h : TripOk_u8_u8_i64 ts) : TokOk (ts.map (itemT raw)) := fun t ht => by
  obtain ⟨q, hq, rfl⟩ := List.mem_map.1 ht
  obtain ⟨_, h2, h3⟩ := h q hq
  exact itemT_ok raw h2 h3

set_option maxRecDepth 100000 in
set_option maxHeartbeats 4000000 in
theorem cexact_any (a : Option Addr) (n cap : Nat) (ts : List (Int × Int × Int)) (raw : Bool) (w : World) (ht : Trips_u8_u8_i64 w a n cap ts) (hok : TripOk_u8_u8_i64 ts) :
    Calls Ybtm.prog 9 #[.slice a n cap, .bool raw] w fun e w' => e = .returned (.bool true) ∧ Below w.heap.size w w' := by
  have hnc := ht.2.1
  have hcm := ht.2.2.1
  unfold maxLen at hcm
  have HT : Hid (Trips_u8_u8_i64 w a n cap ts) := ht
  have HOK : Hid (TripOk_u8_u8_i64 ts) := hok
  have hlen : (ts.map (itemT raw)).length = n := by simp [ht.1]
  clear ht hok
  by_cases hbig : 1024 < n
  · go_enter Ybtm.func9, Ybtm.ntmps9
    go_wp2_with fail
    go_ret
    exact ⟨rfl, Below.refl _ _⟩
  have d0 : decide ((1024 : Int) < (n : Int)) = false := decide_eq_false (by omega)
  have HI : Hid (TokOk (ts.map (itemT raw))) := tokOk_items raw HOK.out
  go_enter Ybtm.func9, Ybtm.ntmps9
  go_wp2_with fail
  refine (cbuild_any a n cap ts raw w HT.out HOK.out (by omega)).mono ?_
  rintro e w1 ⟨v1, rfl, hown1, hb1⟩
  obtain ⟨a1, c1, rfl, hn1, ht1⟩ := hown1.toks'
  rw [hlen] at ht1 ⊢
  generalize ts.map (itemT raw) = R at ht1 HI
  clear hown1 hlen
  go_wp2_with fail
  refine (cwant_any a1 n c1 R w1 ht1 HI.out (by omega)).mono ?_
  rintro e w2 ⟨s2, b2, rfl, hb2, hr2⟩
  have ht2 := ht1.below hb2
  go_wp2_with fail
  refine (format_any a1 n c1 R w2 ht2 HI.out (by omega)).mono ?_
  rintro e w3 ⟨s3, b3, rfl, hb3, hr3⟩
  obtain ⟨rfl, g2⟩ := hr2
  obtain ⟨rfl, g3⟩ := hr3
  obtain rfl : s2 = s3 := sb_inj (g2.trans g3.symm)
  have hx : Below w.heap.size w w3 := (hb1.trans (hb2.mono hb1.size)).trans (hb3.mono (hb1.trans (hb2.mono hb1.size)).size)
  clear g2 g3
  generalize R.all lawB = B
  have d1 : (B == B) = true := by simp
  cases B
  all_goals
    go_wp2_with fail
    go_ret
    exact ⟨rfl, hx⟩
end Go.Proofs.Ymbrbt
