/- an argument that is a slice of structs of three one-cell fields, opened -/
import Derived.Test.YmbrbtOpenTok
set_option linter.unusedVariables false
set_option linter.unusedSimpArgs false
set_option linter.unnecessarySimpa false
namespace Go.Proofs.Ymbrbt
open Go.RowKit Go.ChangeShapes Go.WideShapes Go.Deep

def Ex3 (ts : List (Int × Int × Int)) (i : Nat) : Int × Int × Int := ts.getD i (0, 0, 0)
def Trips (V0 V1 V2 : Int → Value) (w : World) (a : Option Addr) (n cap : Nat) (ts : List (Int × Int × Int)) : Prop :=
  ts.length = n ∧ n ≤ cap ∧ cap ≤ maxLen ∧ (0 < n → ∃ b off, a = some ⟨b, off, none⟩ ∧
    ∀ i, i < n → w.cell? ⟨b, off + i * 3, none⟩ = some (V0 (Ex3 ts i).1) ∧ w.cell? ⟨b, off + i * 3 + 1, none⟩ = some (V1 (Ex3 ts i).2.1) ∧ w.cell? ⟨b, off + i * 3 + 2, none⟩ = some (V2 (Ex3 ts i).2.2))
theorem Trips.below {V0 V1 V2 : Int → Value} {w w' : World} {a : Option Addr} {n cap : Nat} {ts : List (Int × Int × Int)} (h : Trips V0 V1 V2 w a n cap ts) (hb : Below w.heap.size w w') : Trips V0 V1 V2 w' a n cap ts := by
  obtain ⟨h1, h2, h3, h4⟩ := h
  refine ⟨h1, h2, h3, fun hn => ?_⟩
  obtain ⟨b, off, rfl, hc⟩ := h4 hn
  refine ⟨b, off, rfl, fun i hi => ?_⟩
  obtain ⟨c1, c2, c3⟩ := hc i hi
  exact ⟨(hb.cell (World.block_lt_of_cell? w _ c1)).trans c1, (hb.cell (World.block_lt_of_cell? w _ c2)).trans c2, (hb.cell (World.block_lt_of_cell? w _ c3)).trans c3⟩
theorem Ex3_mem (ts : List (Int × Int × Int)) (i : Nat) (h : i < ts.length) : Ex3 ts i ∈ ts := by
  simp [Ex3, List.getD_eq_getElem?_getD, h]
theorem take3 (ts : List (Int × Int × Int)) (i : Nat) (h : i < ts.length) : ts.take (i + 1) = ts.take i ++ [Ex3 ts i] := by
  rw [List.take_add_one]; simp [Ex3, List.getD_eq_getElem?_getD, h]

theorem trips_of {V0 V1 V2 : Int → Value} {O : Int × Int × Int → Prop} {w : World} {a : Addr} {len cap m : Nat} (hl : len ≤ cap) (hm : cap ≤ maxLen) (hlm : len ≤ m)
    (h : ∀ i, i < m → ∃ q : Int × Int × Int, w.cell? (a.add (i * 3)) = some (V0 q.1) ∧ w.cell? (a.add (i * 3 + 1)) = some (V1 q.2.1) ∧ w.cell? (a.add (i * 3 + 2)) = some (V2 q.2.2) ∧ O q) :
    ∃ ts, Trips V0 V1 V2 w (some a) len cap ts ∧ ∀ t ∈ ts, O t := by
  obtain ⟨f, hf⟩ := choose_lt h
  have hk : ∀ i, i < len → Ex3 ((List.range len).map f) i = f i := by
    intro i hi
    simp [Ex3, List.getD_eq_getElem?_getD, hi]
  refine ⟨(List.range len).map f, ⟨by simp, hl, hm, fun hp => ?_⟩, ?_⟩
  · obtain ⟨b, off, spot⟩ := a
    have hspot : spot = none := by simpa [Addr.add] using World.cell?_spot (hf 0 (by omega)).1
    subst hspot
    refine ⟨b, off, rfl, fun i hi => ?_⟩
    obtain ⟨c0, c1, c2, _⟩ := hf i (by omega)
    rw [add_plain] at c0 c1 c2
    rw [hk i hi]
    exact ⟨c0, by simpa [Nat.add_assoc] using c1, by simpa [Nat.add_assoc] using c2⟩
  · intro t ht
    obtain ⟨i, hi, rfl⟩ := List.mem_map.1 ht
    exact (hf i (by have := List.mem_range.1 hi; omega)).2.2.2

theorem open_trips {H : Type} {enc : TypeId × Value → H} {w : World} {base : Nat} {spare : Nat → Bool} {held : Bool} {fuel : Nat} {t e : TypeId} {f0 f1 f2 : Field} {a : Option Addr} {len cap : Nat} {x : DataW H × List MemPlace}
    (V0 V1 V2 : Int → Value) (O0 O1 O2 : Int → Prop)
    (ht : Ybtm.prog.underlying t = some (.slice e)) (he : Ybtm.prog.underlying e = some (.struct #[f0, f1, f2])) (ce : Ybtm.prog.cellsOf e = 3) (o0 : f0.offset = 0) (o1 : f1.offset = 1) (o2 : f2.offset = 2)
    (c0 : Ybtm.prog.cellsOf f0.type = 1) (c1 : Ybtm.prog.cellsOf f1.type = 1) (c2 : Ybtm.prog.cellsOf f2.type = 1)
    (g0 : ∀ k v y, DataW.trod enc Ybtm.prog w base spare held k f0.type [v] = some y → ∃ x, v = V0 x ∧ O0 x)
    (g1 : ∀ k v y, DataW.trod enc Ybtm.prog w base spare held k f1.type [v] = some y → ∃ x, v = V1 x ∧ O1 x)
    (g2 : ∀ k v y, DataW.trod enc Ybtm.prog w base spare held k f2.type [v] = some y → ∃ x, v = V2 x ∧ O2 x)
    (h : DataW.trod enc Ybtm.prog w base spare held fuel t [.slice a len cap] = some x) : ∃ ts, Trips V0 V1 V2 w a len cap ts ∧ ∀ q ∈ ts, O0 q.1 ∧ O1 q.2.1 ∧ O2 q.2.2 := by
  rcases open_slice ht h with ⟨hcs, _⟩ | ⟨a', len', cap', m, n, D, Pl, hcs, hb, hl, hm, hmm, _, hx⟩
  · simp at hcs
    obtain ⟨rfl, rfl, rfl⟩ := hcs
    exact ⟨[], ⟨rfl, by omega, by simp [maxLen], fun h => by omega⟩, fun t ht => by cases ht⟩
  · simp at hcs
    obtain ⟨rfl, rfl, rfl⟩ := hcs
    have hlm : len ≤ m := by rw [hmm]; split <;> omega
    refine trips_of (O := fun q => O0 q.1 ∧ O1 q.2.1 ∧ O2 q.2.2) hl hm hlm fun i hi => ?_
    obtain ⟨cs', h1, h2⟩ := hx i hi
    rw [ce] at h1
    obtain ⟨_, hlen, hcell⟩ := World.cells?_some h1
    obtain ⟨xs, k, hk, hxy, _, hxl, hf⟩ := DataW.trod_struct he h2
    match xs, hxl, cs', hlen with
    | [y0, y1, y2], _, [v0, v1, v2], _ =>
      have t0 := hf 0 f0 rfl
      have t1 := hf 1 f1 rfl
      have t2 := hf 2 f2 rfl
      simp [o0, o1, o2, c0, c1, c2] at t0 t1 t2
      have e0 := hcell 0 (by omega)
      have e1 := hcell 1 (by omega)
      have e2 := hcell 2 (by omega)
      rw [add_add] at e0 e1 e2
      obtain ⟨x0, rfl, p0⟩ := g0 _ _ _ t0
      obtain ⟨x1, rfl, p1⟩ := g1 _ _ _ t1
      obtain ⟨x2, rfl, p2⟩ := g2 _ _ _ t2
      exact ⟨(x0, x1, x2), by simpa using e0, by simpa using e1, by simpa using e2, p0, p1, p2⟩

def bV (x : Int) : Value := .bool (x == 1)
abbrev Trips_u8_u8_i64 := Trips (Value.int .u8) (Value.int .u8) (Value.int .i64)
abbrev Trips_u8_u64_u8 := Trips (Value.int .u8) (Value.int .u64) (Value.int .u8)
abbrev Trips_bool_u8_u8 := Trips bV (Value.int .u8) (Value.int .u8)
abbrev By (x : Int) : Prop := 0 ≤ x ∧ x ≤ 255
abbrev U6 (x : Int) : Prop := 0 ≤ x ∧ x ≤ 18446744073709551615
abbrev TripOk_u8_u8_i64 (ts : List (Int × Int × Int)) : Prop := ∀ q ∈ ts, By q.1 ∧ By q.2.1 ∧ Ex.inI q.2.2
abbrev TripOk_u8_u64_u8 (ts : List (Int × Int × Int)) : Prop := ∀ q ∈ ts, By q.1 ∧ U6 q.2.1 ∧ By q.2.2
abbrev TripOk_bool_u8_u8 (ts : List (Int × Int × Int)) : Prop := ∀ q ∈ ts, True ∧ By q.2.1 ∧ By q.2.2

section
variable {H : Type} {enc : TypeId × Value → H} {w : World} {base : Nat} {spare : Nat → Bool} {held : Bool} {fuel : Nat} {t e : TypeId} {f0 f1 f2 : Field} {a : Option Addr} {len cap : Nat} {x : DataW H × List MemPlace}
theorem gU8 {f : Field} (u : Ybtm.prog.underlying f.type = some (.int .u8)) : ∀ k v y, DataW.trod enc Ybtm.prog w base spare held k f.type [v] = some y → ∃ x, v = Value.int .u8 x ∧ By x := fun k v y h => by
  obtain ⟨n, e, _, wf⟩ := DataW.trod_int u h
  simp at e
  exact ⟨n, e, bounds_u8 wf⟩
theorem gU64 {f : Field} (u : Ybtm.prog.underlying f.type = some (.int .u64)) : ∀ k v y, DataW.trod enc Ybtm.prog w base spare held k f.type [v] = some y → ∃ x, v = Value.int .u64 x ∧ U6 x := fun k v y h => by
  obtain ⟨n, e, _, wf⟩ := DataW.trod_int u h
  simp at e
  exact ⟨n, e, bounds_u64 wf⟩
theorem gI64 {f : Field} (u : Ybtm.prog.underlying f.type = some (.int .i64)) : ∀ k v y, DataW.trod enc Ybtm.prog w base spare held k f.type [v] = some y → ∃ x, v = Value.int .i64 x ∧ Ex.inI x := fun k v y h => by
  obtain ⟨n, e, _, wf⟩ := DataW.trod_int u h
  simp at e
  exact ⟨n, e, bounds_i64 wf⟩
theorem gBool {f : Field} (u : Ybtm.prog.underlying f.type = some .bool) : ∀ k v y, DataW.trod enc Ybtm.prog w base spare held k f.type [v] = some y → ∃ x, v = bV x ∧ True := fun k v y h => by
  obtain ⟨b, e, _⟩ := DataW.trod_bool u h
  simp at e
  subst e
  cases b
  · exact ⟨0, rfl, trivial⟩
  · exact ⟨1, rfl, trivial⟩
theorem open_trips_u8_u8_i64 (ht : Ybtm.prog.underlying t = some (.slice e)) (he : Ybtm.prog.underlying e = some (.struct #[f0, f1, f2])) (ce : Ybtm.prog.cellsOf e = 3) (o0 : f0.offset = 0) (o1 : f1.offset = 1) (o2 : f2.offset = 2)
    (c0 : Ybtm.prog.cellsOf f0.type = 1) (c1 : Ybtm.prog.cellsOf f1.type = 1) (c2 : Ybtm.prog.cellsOf f2.type = 1) (u0 : Ybtm.prog.underlying f0.type = some (.int .u8)) (u1 : Ybtm.prog.underlying f1.type = some (.int .u8)) (u2 : Ybtm.prog.underlying f2.type = some (.int .i64))
    (h : DataW.trod enc Ybtm.prog w base spare held fuel t [.slice a len cap] = some x) : ∃ ts, Trips_u8_u8_i64 w a len cap ts ∧ TripOk_u8_u8_i64 ts :=
  open_trips _ _ _ _ _ _ ht he ce o0 o1 o2 c0 c1 c2 (gU8 u0) (gU8 u1) (gI64 u2) h
theorem open_trips_u8_u64_u8 (ht : Ybtm.prog.underlying t = some (.slice e)) (he : Ybtm.prog.underlying e = some (.struct #[f0, f1, f2])) (ce : Ybtm.prog.cellsOf e = 3) (o0 : f0.offset = 0) (o1 : f1.offset = 1) (o2 : f2.offset = 2)
    (c0 : Ybtm.prog.cellsOf f0.type = 1) (c1 : Ybtm.prog.cellsOf f1.type = 1) (c2 : Ybtm.prog.cellsOf f2.type = 1) (u0 : Ybtm.prog.underlying f0.type = some (.int .u8)) (u1 : Ybtm.prog.underlying f1.type = some (.int .u64)) (u2 : Ybtm.prog.underlying f2.type = some (.int .u8))
    (h : DataW.trod enc Ybtm.prog w base spare held fuel t [.slice a len cap] = some x) : ∃ ts, Trips_u8_u64_u8 w a len cap ts ∧ TripOk_u8_u64_u8 ts :=
  open_trips _ _ _ _ _ _ ht he ce o0 o1 o2 c0 c1 c2 (gU8 u0) (gU64 u1) (gU8 u2) h
theorem open_trips_bool_u8_u8 (ht : Ybtm.prog.underlying t = some (.slice e)) (he : Ybtm.prog.underlying e = some (.struct #[f0, f1, f2])) (ce : Ybtm.prog.cellsOf e = 3) (o0 : f0.offset = 0) (o1 : f1.offset = 1) (o2 : f2.offset = 2)
    (c0 : Ybtm.prog.cellsOf f0.type = 1) (c1 : Ybtm.prog.cellsOf f1.type = 1) (c2 : Ybtm.prog.cellsOf f2.type = 1) (u0 : Ybtm.prog.underlying f0.type = some .bool) (u1 : Ybtm.prog.underlying f1.type = some (.int .u8)) (u2 : Ybtm.prog.underlying f2.type = some (.int .u8))
    (h : DataW.trod enc Ybtm.prog w base spare held fuel t [.slice a len cap] = some x) : ∃ ts, Trips_bool_u8_u8 w a len cap ts ∧ TripOk_bool_u8_u8 ts :=
  open_trips _ _ _ _ _ _ ht he ce o0 o1 o2 c0 c1 c2 (gBool u0) (gU8 u1) (gU8 u2) h
end
end Go.Proofs.Ymbrbt
