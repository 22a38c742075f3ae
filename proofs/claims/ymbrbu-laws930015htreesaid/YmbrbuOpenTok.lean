/- arguments that are slices of integers or of structs, opened -/
import Derived.Test.YmbrbuOwnTok
import Derived.Deep.SlicePairs
import Derived.ProofKit
import Derived.OpenShut
set_option linter.unusedVariables false
set_option linter.unusedSimpArgs false
set_option linter.unnecessarySimpa false
namespace Go.Proofs.Ymbrbu
open Go.RowKit Go.ChangeShapes Go.WideShapes Go.Deep

def TokOk (ts : List (Int × Int)) : Prop := ∀ t ∈ ts, 0 ≤ t.1 ∧ t.1 ≤ 255 ∧ Ex.inI t.2
theorem TokOk.at {ts : List (Int × Int)} (h : TokOk ts) (i : Nat) (hi : i < ts.length) : 0 ≤ Ex.kAt ts i ∧ Ex.kAt ts i ≤ 255 ∧ Ex.inI (Ex.vAt ts i) := h _ (Ex.at_mem ts i hi)

theorem row_of {V : Nat → Value} (i : Nat) : True := trivial

theorem toks_of {w : World} {a : Addr} {len cap m : Nat} (hl : len ≤ cap) (hm : cap ≤ maxLen) (hlm : len ≤ m)
    (h : ∀ i, i < m → ∃ x y : Int, w.cell? (a.add (i * 2)) = some (.int .u8 x) ∧ w.cell? (a.add (i * 2 + 1)) = some (.int .i64 y) ∧ 0 ≤ x ∧ x ≤ 255 ∧ Ex.inI y) :
    ∃ ts, Toks w (some a) len cap ts ∧ TokOk ts := by
  obtain ⟨f, hf⟩ := choose_lt (p := fun i (q : Int × Int) => w.cell? (a.add (i * 2)) = some (.int .u8 q.1) ∧ w.cell? (a.add (i * 2 + 1)) = some (.int .i64 q.2) ∧ 0 ≤ q.1 ∧ q.1 ≤ 255 ∧ Ex.inI q.2)
    (fun i hi => by obtain ⟨x, y, hxy⟩ := h i hi; exact ⟨(x, y), hxy⟩)
  have hk : ∀ i, i < len → (Ex.kAt ((List.range len).map f) i, Ex.vAt ((List.range len).map f) i) = f i := by
    intro i hi
    rw [Ex.at_eq _ _ (by simpa using hi)]; simp
  refine ⟨(List.range len).map f, ⟨by simp, hl, hm, fun hp => ?_⟩, ?_⟩
  · obtain ⟨b, off, spot⟩ := a
    have hspot : spot = none := by simpa [Addr.add] using World.cell?_spot (hf 0 (by omega)).1
    subst hspot
    refine ⟨b, off, rfl, fun i hi => ?_⟩
    obtain ⟨c0, c1, _⟩ := hf i (by omega)
    rw [add_plain] at c0 c1
    have e := hk i hi
    rw [show Ex.kAt ((List.range len).map f) i = (f i).1 from congrArg Prod.fst e, show Ex.vAt ((List.range len).map f) i = (f i).2 from congrArg Prod.snd e]
    exact ⟨c0, by simpa [Nat.add_assoc] using c1⟩
  · intro t ht
    obtain ⟨i, hi, rfl⟩ := List.mem_map.1 ht
    exact (hf i (by have := List.mem_range.1 hi; omega)).2.2

/-- a slice of structs of a byte and an int64, whatever its name -/
theorem open_pairs {H : Type} {enc : TypeId × Value → H} {w : World} {base : Nat} {spare : Nat → Bool} {held : Bool} {fuel : Nat} {t e : TypeId} {f0 f1 : Field} {a : Option Addr} {len cap : Nat} {x : DataW H × List MemPlace}
    (ht : Ybum.prog.underlying t = some (.slice e)) (he : Ybum.prog.underlying e = some (.struct #[f0, f1])) (ce : Ybum.prog.cellsOf e = 2) (o0 : f0.offset = 0) (o1 : f1.offset = 1)
    (c0 : Ybum.prog.cellsOf f0.type = 1) (c1 : Ybum.prog.cellsOf f1.type = 1) (u0 : Ybum.prog.underlying f0.type = some (.int .u8)) (u1 : Ybum.prog.underlying f1.type = some (.int .i64))
    (h : DataW.trod enc Ybum.prog w base spare held fuel t [.slice a len cap] = some x) : ∃ ts, Toks w a len cap ts ∧ TokOk ts := by
  rcases open_slice_pairs ht he ce o0 o1 c0 c1 h with ⟨hcs, _⟩ | ⟨a', len', cap', m, n, V0, V1, D0, D1, P0, P1, hcs, _, hl, hm, hmm, _, hx⟩
  · simp at hcs
    obtain ⟨rfl, rfl, rfl⟩ := hcs
    exact ⟨[], ⟨rfl, by omega, by simp [maxLen], fun h => by omega⟩, fun t ht => by cases ht⟩
  · simp at hcs
    obtain ⟨rfl, rfl, rfl⟩ := hcs
    have hlm : len ≤ m := by rw [hmm]; split <;> omega
    refine toks_of hl hm hlm fun i hi => ?_
    obtain ⟨k0, k1, t0, t1⟩ := hx i hi
    obtain ⟨x0, e0, _, w0⟩ := DataW.trod_int u0 t0
    obtain ⟨x1, e1, _, w1⟩ := DataW.trod_int u1 t1
    simp at e0 e1
    rw [e0] at k0
    rw [e1] at k1
    have b0 := bounds_u8 w0
    exact ⟨x0, x1, k0, k1, b0.1, b0.2, bounds_i64 w1⟩

/-- integers at an index -/
def Ints (k : IntKind) (w : World) (a : Option Addr) (n cap : Nat) (zs : List Int) : Prop :=
  zs.length = n ∧ n ≤ cap ∧ cap ≤ maxLen ∧ (0 < n → ∃ b off, a = some ⟨b, off, none⟩ ∧ ∀ i, i < n → w.cell? ⟨b, off + i, none⟩ = some (.int k (Ex.iAt zs i)))
theorem Ints.below {k : IntKind} {w w' : World} {a : Option Addr} {n cap : Nat} {zs : List Int} (h : Ints k w a n cap zs) (hb : Below w.heap.size w w') : Ints k w' a n cap zs := by
  obtain ⟨h1, h2, h3, h4⟩ := h
  refine ⟨h1, h2, h3, fun hn => ?_⟩
  obtain ⟨b, off, rfl, hc⟩ := h4 hn
  exact ⟨b, off, rfl, fun i hi => (hb.cell (World.block_lt_of_cell? w _ (hc i hi))).trans (hc i hi)⟩
theorem ints_in {k : IntKind} {w : World} {a : Option Addr} {len cap : Nat} {zs : List Int}
    (h : (a = none ∧ len = 0 ∧ cap = 0 ∧ zs = []) ∨ ∃ x, a = some x ∧ len ≤ cap ∧ cap ≤ maxLen ∧ zs.length = cap ∧ (∀ i, i < zs.length → w.cell? (x.add i) = some (.int k (zs.getD i 0))) ∧ ∀ n ∈ zs, (Lit.int k n).wf = true) :
    Ints k w a len cap (zs.take len) ∧ ∀ n ∈ zs.take len, (Lit.int k n).wf = true := by
  rcases h with ⟨rfl, rfl, rfl, rfl⟩ | ⟨x, rfl, hl, hm, hz, hc, hw⟩
  · exact ⟨⟨rfl, by omega, by simp [maxLen], fun h => by omega⟩, fun n hn => by simp at hn⟩
  · refine ⟨⟨by rw [List.length_take]; omega, hl, hm, fun hp => ?_⟩, fun n hn => hw n (List.mem_of_mem_take hn)⟩
    obtain ⟨b, off, rfl, hc'⟩ := ints_at hc (by omega)
    refine ⟨b, off, rfl, fun i hi => ?_⟩
    rw [hc' i (by omega)]
    simp [Ex.iAt, List.getD_eq_getElem?_getD, List.getElem?_take, hi]
end Go.Proofs.Ymbrbu
