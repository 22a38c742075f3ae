import Derived.Test.YmbrbtCPlain
import Derived.Test.YmbrbtTrips
import Derived.Test.YmbrbtOwnTok
import Derived.BigQuiet
import Derived.Deep.RegionWith
import Derived.Deep.Cut
import Derived.Deep.CutRange
set_option linter.unusedVariables false
set_option linter.unusedSimpArgs false
set_option linter.unnecessarySimpa false
namespace Go.Proofs.Ymbrbt
open Go.RowKit

set_option maxHeartbeats 1000000 in
theorem csym_any (x : Int) (w : World) (h0 : 0 ≤ x) (h1 : x ≤ 255) : Calls Ybtm.prog 41 #[.int .u8 x] w fun e w' => e = .returned (.int .u8 (symK x)) ∧ w' = w := by
  have hk : x % 6 = 0 ∨ x % 6 = 1 ∨ x % 6 = 2 ∨ x % 6 = 3 ∨ x % 6 = 4 ∨ x % 6 = 5 := by omega
  rcases hk with hk | hk | hk | hk | hk | hk
  all_goals
    have e : symK x = symK x := rfl
    conv at e => rhs; unfold symK; simp [hk]
    rw [e]
    clear e
    go_enter Ybtm.func41, Ybtm.ntmps41
    go_wp2
    go_ret
    exact ⟨rfl, rfl⟩

def tokV (t : Int × Int) : Value := .agg #[.int .u8 t.1, .int .i64 t.2]

set_option maxHeartbeats 1000000 in
theorem cgood_any (s k v : Int) (w : World) (h0 : 0 ≤ s) (h1 : s ≤ 255) (hv : Ex.inI v) : Calls Ybtm.prog 27 #[.agg #[.int .u8 s, .int .u8 k, .int .i64 v]] w fun e w' => e = .returned (tokV (goodT s v)) ∧ Below w.heap.size w w' := by
  unfold Ex.inI at hv
  obtain ⟨hv0, hv1⟩ := hv
  have hk : s % 2 = 1 ∨ s % 2 = 0 := by omega
  rcases hk with hk | hk
  · have e : goodT s v = (symK (s / 2), 0) := by simp [goodT, hk]
    rw [e]
    clear e
    go_enter Ybtm.func27, Ybtm.ntmps27
    go_wp2_with fail
    refine (csym_any (s / 2) _ (by omega) (by omega)).mono ?_
    rintro e w' ⟨rfl, hw⟩
    subst hw
    go_wp2_with fail
    refine bodyPost_ret (v := tokV (symK (s / 2), 0)) (by simp [results, Ybtm.results27, go_sem, tokV]) rfl ⟨rfl, ?_⟩
    exact ((Below.refl _ _).alloc (Nat.le_refl _) _).alloc (by simp) _
  · by_cases hn : v < 0
    · have e : goodT s v = (48, -1 - v) := by simp [goodT, hk, hn]
      rw [e]
      clear e
      go_enter Ybtm.func27, Ybtm.ntmps27
      go_wp2_with fail
      refine bodyPost_ret (v := tokV (48, -1 - v)) (by simp [results, Ybtm.results27, go_sem, tokV]) rfl ⟨rfl, ?_⟩
      exact ((Below.refl _ _).alloc (Nat.le_refl _) _).alloc (by simp) _
    · have e : goodT s v = (48, v) := by simp [goodT, hk, hn]
      rw [e]
      have hd : decide (v < 0) = false := decide_eq_false hn
      clear e
      go_enter Ybtm.func27, Ybtm.ntmps27
      go_wp2_with fail
      refine bodyPost_ret (v := tokV (48, v)) (by simp [results, Ybtm.results27, go_sem, tokV]) rfl ⟨rfl, ?_⟩
      exact ((Below.refl _ _).alloc (Nat.le_refl _) _).alloc (by simp) _

theorem OwnT.one' (w : World) (base : Nat) (k v : Int) (hb : base ≤ w.heap.size) : OwnT (w.alloc (.cells #[.int .u8 k, .int .i64 v] 30)) base (.slice (some ⟨w.heap.size, 0, none⟩) 1 1) [(k, v)] :=
  World.ownsRow_lit w _ 1 hb (by unfold maxLen; omega) (by simp)
theorem OwnT.setPair {w : World} {base g : Nat} {k v : Int} (h : OwnT w base (.slice (some ⟨g, 0, none⟩) 1 1) [(k, v)]) (k' v' : Int) :
    OwnT ((w.setCell ⟨g, 0, none⟩ (.int .u8 k')).setCell ⟨g, 1, none⟩ (.int .i64 v')) base (.slice (some ⟨g, 0, none⟩) 1 1) [(k', v')] ∧ w.grownBy ((w.setCell ⟨g, 0, none⟩ (.int .u8 k')).setCell ⟨g, 1, none⟩ (.int .i64 v')) (some g) := by
  obtain ⟨h1, h2⟩ := World.ownsRow.stored h 0 (.int .u8 k')
  obtain ⟨h3, h4⟩ := World.ownsRow.stored h1 1 (.int .i64 v')
  exact ⟨h3, ⟨h4.os.trans h2.os, h4.tape.trans h2.tape, h4.output.trans h2.output, Nat.le_trans h2.size h4.size, fun b hb hne => by rw [h4.block b (Nat.lt_of_lt_of_le hb h2.size) hne, h2.block b hb hne]⟩⟩

set_option maxHeartbeats 2000000 in
theorem craw_any (q : Int × Int × Int) (w : World) (h0 : 0 ≤ q.1) (h1 : q.1 ≤ 255) (h2 : 0 ≤ q.2.1) (h3 : q.2.1 ≤ 255) (hv : Ex.inI q.2.2) : Calls Ybtm.prog 39 #[.agg #[.int .u8 q.1, .int .u8 q.2.1, .int .i64 q.2.2]] w fun e w' => e = .returned (tokV (rawT q)) ∧ Below w.heap.size w w' := by
  obtain ⟨s, k, v⟩ := q
  simp only at h0 h1 h2 h3 hv ⊢
  have hk : s % 4 = 0 ∨ s % 4 = 1 ∨ s % 4 = 2 ∨ s % 4 = 3 := by omega
  rcases hk with hk | hk | hk | hk
  · have e : rawT (s, k, v) = (48, v) := by simp [rawT, hk]
    rw [e]
    clear e
    go_enter Ybtm.func39, Ybtm.ntmps39
    go_wp2_with fail
    refine bodyPost_ret (v := tokV (48, v)) (by simp [results, Ybtm.results39, go_sem, tokV]) rfl ⟨rfl, ?_⟩
    exact ((Below.refl _ _).alloc (Nat.le_refl _) _).alloc (by simp) _
  · have e : rawT (s, k, v) = (symK k, v) := by simp [rawT, hk]
    rw [e]
    clear e
    go_enter Ybtm.func39, Ybtm.ntmps39
    go_wp2_with fail
    go_region_with (go_at_call 41; refine (csym_any k _ h2 h3).mono ?_; rintro e w' ⟨rfl, hw⟩; subst hw)
    all_goals
      go_wp2_with fail
      refine bodyPost_ret (v := tokV (symK k, v)) (by simp [results, Ybtm.results39, go_sem, tokV]) rfl ⟨rfl, ?_⟩
      exact (((Below.refl _ _).alloc (Nat.le_refl _) _).alloc (by simp) _).trans ⟨rfl, rfl, rfl, Nat.le_refl _, fun _ _ => rfl⟩
  · obtain ⟨r, hr⟩ : ∃ r, goodT k v = r := ⟨_, rfl⟩
    have e : rawT (s, k, v) = r := by rw [← hr]; simp [rawT, hk]
    have HR : Hid (goodT k v = r) := hr
    rw [e]
    clear e hr
    go_enter Ybtm.func39, Ybtm.ntmps39
    go_wp2_with fail
    refine (cgood_any k 0 v _ h2 h3 hv).mono ?_
    rintro e w' ⟨rfl, hb⟩
    rw [HR.out]
    have own := (OwnT.one' (w.alloc (.cells #[.int .u8 s, .int .u8 k, .int .i64 v] 52)) w.heap.size 0 0 (by simp)).below hb
    have bel : Below w.heap.size w w' := (((Below.refl _ _).alloc (Nat.le_refl _) _).alloc (by simp) _).trans (hb.mono (by simp; omega))
    obtain ⟨c0, c1⟩ := own.cells 0 (by simp)
    have f0 := own.frozenAt 0
    have f1 := own.frozenAt 1
    obtain ⟨x0, x1⟩ := own.setPair r.1 r.2
    simp [Ex.kAt, Ex.vAt] at c0 c1 f0 f1
    obtain ⟨y0, y1⟩ := x0.cells 0 (by simp)
    simp [Ex.kAt, Ex.vAt] at y0 y1 x0 x1
    simp only [tokV]
    go_wp2_with fail
    refine bodyPost_ret (v := tokV r) (by simp [results, Ybtm.results39, go_sem, tokV, y0, y1]) rfl ⟨rfl, ?_⟩
    exact below_setTok bel x1 bel.size (by omega)
  · have e : rawT (s, k, v) = (k, v) := by simp [rawT, hk]
    rw [e]
    clear e
    go_enter Ybtm.func39, Ybtm.ntmps39
    go_wp2_with fail
    refine bodyPost_ret (v := tokV (k, v)) (by simp [results, Ybtm.results39, go_sem, tokV]) rfl ⟨rfl, ?_⟩
    exact ((Below.refl _ _).alloc (Nat.le_refl _) _).alloc (by simp) _

def itemT (raw : Bool) (q : Int × Int × Int) : Int × Int := if raw then rawT q else goodT q.1 q.2.2
theorem itemT_ok (raw : Bool) {q : Int × Int × Int} (h2 : By q.2.1) (hv : Ex.inI q.2.2) : 0 ≤ (itemT raw q).1 ∧ (itemT raw q).1 ≤ 255 ∧ Ex.inI (itemT raw q).2 := by
  cases raw
  · exact goodT_ok hv
  · show 0 ≤ (rawT q).1 ∧ (rawT q).1 ≤ 255 ∧ Ex.inI (rawT q).2
    unfold rawT
    split
    · exact ⟨by simp, by simp, hv⟩
    · split
      · exact ⟨(symK_byte _).1, (symK_byte _).2, hv⟩
      · split
        · exact goodT_ok hv
        · exact ⟨h2.1, h2.2, hv⟩
def Row3 (w : World) (base g : Nat) (cs : List Value) : Prop := w.ownsRow base 52 3 (.slice (some ⟨g, 0, none⟩) 1 1) 1 cs

set_option maxRecDepth 100000 in
set_option maxHeartbeats 4000000 in
theorem cbuild_any (a : Option Addr) (n cap : Nat) (ts : List (Int × Int × Int)) (raw : Bool) (w : World) (ht : Trips_u8_u8_i64 w a n cap ts) (hok : TripOk_u8_u8_i64 ts) (hn : n ≤ 1024) :
    Calls Ybtm.prog 24 #[.slice a n cap, .bool raw] w fun e w' => ∃ v, e = .returned v ∧ OwnT w' w.heap.size v (ts.map (itemT raw)) ∧ Below w.heap.size w w' := by
  have hnc := ht.2.1
  have hcm := ht.2.2.1
  have hln := ht.1
  unfold maxLen at hcm
  have HT : Hid (Trips_u8_u8_i64 w a n cap ts) := ht
  have HOK : Hid (TripOk_u8_u8_i64 ts) := hok
  have HLN : Hid (ts.length = n) := hln
  clear ht hok hln
  go_enter Ybtm.func24, Ybtm.ntmps24
  go_wp2_with (first
    | (at_make; refine make_tok _ rfl _ _ rfl w.heap.size _ _ _ n rfl rfl (by omega) (by omega) (by omega) ?_; intro w1 hown1 hb1 hlt1))
  go_loopw [5, 7, 13] (fun u _ i wr => ∃ (k : Nat), k ≤ n ∧ i = .int .i64 k ∧ OwnT wr w.heap.size u ((ts.take k).map (itemT raw)) ∧ Below w.heap.size w wr) (fun _ _ i _ => n - (intOf i).toNat)
  case atStart => exact ⟨0, by omega, rfl, by simpa using hown1, hb1⟩
  case round =>
    obtain ⟨k, hk, rfl, hu, hb⟩ := hrel
    clear hown1 hb1 hlt1
    have hB := hb.size
    by_cases hlt : k < n
    · obtain ⟨b, off, rfl, hc⟩ := (HT.out.below hb).2.2.2 (by omega)
      obtain ⟨c1, c2, c3⟩ := hc k hlt
      obtain ⟨⟨o1, o2⟩, ⟨o3, o4⟩, o5⟩ := HOK.out _ (Ex3_mem ts k (by have := HLN.out; omega))
      have HS : Hid ((ts.take (k + 1)).map (itemT raw) = (ts.take k).map (itemT raw) ++ [itemT raw (Ex3 ts k)]) := by
        show _ = _
        rw [take3 ts k (by have := HLN.out; omega)]; simp
      have hlk : ((ts.take k).map (itemT raw)).length < 2000 := by simp; omega
      generalize (ts.take k).map (itemT raw) = R at hu HS hlk
      generalize Ex3 ts k = q at c1 c2 c3 o1 o2 o3 o4 o5 HS
      clear hc
      have hu2 := hu.alloc (.cells #[.int .u8 q.1, .int .u8 q.2.1, .int .i64 q.2.2] 52)
      have hb2 := hb.alloc hB (.cells #[.int .u8 q.1, .int .u8 q.2.1, .int .i64 q.2.2] 52)
      cases raw
      · go_wp2_with fail
        refine (cgood_any q.1 q.2.1 q.2.2 _ o1 o2 o5).mono ?_
        rintro e w3 ⟨rfl, hb3⟩
        have hu3 := hu2.below hb3
        have hb4 := hb2.trans (hb3.mono hb2.size)
        have hB4 := hb4.size
        obtain ⟨r, hr⟩ : ∃ r, goodT q.1 q.2.2 = r := ⟨_, rfl⟩
        have HS2 : Hid ((ts.take (k + 1)).map (itemT false) = R ++ [(r.1, r.2)]) := by
          show _ = _
          rw [HS.out, ← hr]; rfl
        rw [hr]
        clear hr HS
        simp only [tokV]
        go_wp2_with (first
          | (at_builtin; go_must (refine app_tok _ rfl (.tmp 23) (.tmp 26) rfl w.heap.size _ R rfl (hu3.alloc _) _ r.1 r.2 rfl (by simp) (by simp) (by omega) (by simp; omega) ?_; intro v' w5 hown5 hold5 hgr)))
        go_roundw
        case rel => exact ⟨k + 1, by omega, by go_num, by rw [HS2.out]; exact hown5, below_app hb4 hB4 hu3.base hgr.after_alloc⟩
        case measure => simp [intOf]; omega
      · go_wp2_with fail
        refine (craw_any q _ o1 o2 o3 o4 o5).mono ?_
        rintro e w3 ⟨rfl, hb3⟩
        have hu3 := hu2.below hb3
        have hb4 := hb2.trans (hb3.mono hb2.size)
        have hB4 := hb4.size
        obtain ⟨r, hr⟩ : ∃ r, rawT q = r := ⟨_, rfl⟩
        have HS2 : Hid ((ts.take (k + 1)).map (itemT true) = R ++ [(r.1, r.2)]) := by
          show _ = _
          rw [HS.out, ← hr]; rfl
        rw [hr]
        clear hr HS
        simp only [tokV]
        go_wp2_with (first
          | (at_builtin; go_must (refine app_tok _ rfl (.tmp 18) (.tmp 21) rfl w.heap.size _ R rfl (hu3.alloc _) _ r.1 r.2 rfl (by simp) (by simp) (by omega) (by simp; omega) ?_; intro v' w5 hown5 hold5 hgr)))
        go_roundw
        case rel => exact ⟨k + 1, by omega, by go_num, by rw [HS2.out]; exact hown5, below_app hb4 hB4 hu3.base hgr.after_alloc⟩
        case measure => simp [intOf]; omega
    · have hkd : decide ((k : Int) < (n : Int)) = false := decide_eq_false (by omega)
      rw [List.take_of_length_le (by have := HLN.out; omega)] at hu
      go_wp2_with fail
      go_ret
      exact ⟨_, rfl, hu, hb⟩
end Go.Proofs.Ymbrbt
