/- rows of tokens, bytes and int64s of the call's own, and what is read of them -/
import Derived.Test.YmbrbuTokWalk
import Derived.Test.YmbrbuApp
set_option linter.unusedVariables false
set_option linter.unusedSimpArgs false
set_option linter.unnecessarySimpa false
namespace Go.Proofs.Ymbrbu
open Go.RowKit

theorem Ybum.infoTok : (Ybum.prog.info? 58).map (fun i => (i.zero, i.size, i.bytes)) = some (some (.agg #[.int .u8 0, .int .i64 0]), 2, 16) := by kernel_rfl
theorem Ybum.infoU8 : (Ybum.prog.info? 5).map (fun i => (i.zero, i.size, i.bytes)) = some (some (.int .u8 0), 1, 1) := by kernel_rfl
theorem Ybum.infoI64 : (Ybum.prog.info? 2).map (fun i => (i.zero, i.size, i.bytes)) = some (some (.int .i64 0), 1, 8) := by kernel_rfl

def flat (ts : List (Int × Int)) : List Value := ts.flatMap fun t => [.int .u8 t.1, .int .i64 t.2]
theorem flat_nil : flat [] = [] := rfl
theorem flat_length (ts : List (Int × Int)) : (flat ts).length = ts.length * 2 := by
  induction ts with
  | nil => rfl
  | cons t ts ih => simp [flat] at ih ⊢; omega
theorem flat_append (a b : List (Int × Int)) : flat (a ++ b) = flat a ++ flat b := by simp [flat]
theorem flat_one (k v : Int) : flat [(k, v)] = [.int .u8 k, .int .i64 v] := rfl
theorem flat_at (ts : List (Int × Int)) : ∀ i, i < ts.length → (flat ts)[i * 2]? = some (.int .u8 (Ex.kAt ts i)) ∧ (flat ts)[i * 2 + 1]? = some (.int .i64 (Ex.vAt ts i)) := by
  induction ts with
  | nil => intro i h; simp at h
  | cons t ts ih =>
    intro i h
    cases i with
    | zero => simp [flat, Ex.kAt, Ex.vAt]
    | succ i =>
      have := ih i (by simpa using h)
      have e1 : (i + 1) * 2 = i * 2 + 1 + 1 := by omega
      have e2 : (i + 1) * 2 + 1 = (i * 2 + 1) + 1 + 1 := by omega
      rw [e2, e1]
      simp only [flat, List.flatMap_cons, List.cons_append, List.nil_append, List.getElem?_cons_succ] at this ⊢
      simpa [Ex.kAt, Ex.vAt] using this
theorem flat_one_cell (ts : List (Int × Int)) : ∀ u ∈ flat ts, u.oneCell' = true := by
  intro u hu
  simp only [flat, List.mem_flatMap] at hu
  obtain ⟨t, _, h⟩ := hu
  simp at h
  rcases h with rfl | rfl <;> rfl

def OwnT (w : World) (base : Nat) (v : Value) (ts : List (Int × Int)) : Prop := w.ownsRow base 58 2 v ts.length (flat ts)
theorem OwnT.alloc {w : World} {base : Nat} {v : Value} {ts : List (Int × Int)} (h : OwnT w base v ts) (o : Obj) : OwnT (w.alloc o) base v ts := World.ownsRow.alloc h o
theorem OwnT.drew {w : World} {base : Nat} {v : Value} {ts : List (Int × Int)} (h : OwnT w base v ts) : OwnT w.drew base v ts := h
theorem OwnT.keeps {w w' : World} {base : Nat} {v v' u : Value} {ts : List (Int × Int)} (h : OwnT w base u ts) (g : Grew w w' v v') (hne : u.ownBlock = none ∨ u.ownBlock ≠ v.ownBlock) : OwnT w' base u ts := g.keeps h hne
theorem OwnT.below {w w' : World} {base : Nat} {v : Value} {ts : List (Int × Int)} (h : OwnT w base v ts) (hb : Below w.heap.size w w') : OwnT w' base v ts := by
  refine World.ownsRow.kept h (row := none) ⟨hb.os, hb.tape, hb.output, hb.size, fun k hk _ => hb.block k hk⟩ ?_
  cases v.ownBlock <;> simp
theorem OwnT.lt {w : World} {base : Nat} {v : Value} {ts : List (Int × Int)} (h : OwnT w base v ts) : ∀ k, v.ownBlock = some k → base ≤ k ∧ k < w.heap.size := World.ownsRow.lt h
theorem OwnT.mono {w : World} {base base' : Nat} {v : Value} {ts : List (Int × Int)} (h : OwnT w base v ts) (hb : base' ≤ base) : OwnT w base' v ts := by
  obtain ⟨h1, h2⟩ := h
  refine ⟨h1, ?_⟩
  rcases h2 with h2 | ⟨g, cap, cur, a, b, c⟩
  · exact .inl h2
  · exact .inr ⟨g, cap, cur, a, Nat.le_trans hb b, c⟩

/-- what it is as a value, and that it can be read -/
theorem OwnT.toks {w : World} {base : Nat} {v : Value} {ts : List (Int × Int)} (h : OwnT w base v ts) : ∃ a cap, v = .slice a ts.length cap ∧ Toks w a ts.length cap ts := by
  rcases h.2 with ⟨rfl, h0⟩ | ⟨g, cap, cur, rfl, hb, hg, hn, hc, hs, ht⟩
  · exact ⟨none, 0, by rw [h0], rfl, by omega, by simp [maxLen], fun h => by omega⟩
  · refine ⟨_, cap, rfl, rfl, hn, hc, fun _ => ⟨g, 0, rfl, fun i hi => ?_⟩⟩
    have f := flat_at ts i hi
    constructor
    · rw [← f.1, Nat.zero_add]; exact World.ownsRow.cellAt h (i * 2) (by omega)
    · rw [← f.2, Nat.zero_add]; exact World.ownsRow.cellAt h (i * 2 + 1) (by omega)
/-- with an element it lies in a block -/
theorem OwnT.at {w : World} {base : Nat} {v : Value} {ts : List (Int × Int)} (h : OwnT w base v ts) (hp : 0 < ts.length) : ∃ g cap, v = .slice (some ⟨g, 0, none⟩) ts.length cap ∧ ts.length ≤ cap ∧ cap ≤ maxLen ∧
    ∀ i, i < ts.length → w.cell? ⟨g, i * 2, none⟩ = some (.int .u8 (Ex.kAt ts i)) ∧ w.cell? ⟨g, i * 2 + 1, none⟩ = some (.int .i64 (Ex.vAt ts i)) := by
  rcases h.2 with ⟨rfl, h0⟩ | ⟨g, cap, cur, rfl, hb, hg, hn, hc, hs, ht⟩
  · omega
  · refine ⟨g, cap, rfl, hn, hc, fun i hi => ?_⟩
    have f := flat_at ts i hi
    constructor
    · rw [← f.1]; exact World.ownsRow.cellAt h (i * 2) (by omega)
    · rw [← f.2]; exact World.ownsRow.cellAt h (i * 2 + 1) (by omega)
theorem OwnT.nil (w : World) (base : Nat) : OwnT w base (.slice none 0 0) [] := World.ownsRow_nil _ _ _ _

/-- 'x = append(x, t)' -/
theorem app_tok (w : World) {ops : Array Oper} {rest : List Oper} {o : Oper} {a : Act} {Q : Exit → Act → World → Prop} (hgd : o.guard = none) (s x : Operand)
    (ho : o.op = .call { callee := .builtin .append, args := #[s, x], argTypes := #[51, 51] })
    (base : Nat) (v : Value) (ts : List (Int × Int)) (hs : a.eval s = v) (hown : OwnT w base v ts)
    (g : Nat) (k u : Int) (hx : a.eval x = .slice (some ⟨g, 0, none⟩) 1 1) (c0 : w.cell? ⟨g, 0, none⟩ = some (.int .u8 k)) (c1 : w.cell? ⟨g, 1, none⟩ = some (.int .i64 u))
    (hlen : ts.length < 1000000000000) (hbase : base ≤ w.heap.size)
    (h : ∀ v' w', OwnT w' base v' (ts ++ [(k, u)]) → OwnT w' base v ts → Grew w w' v v' → wpList Ybum.prog ops Q rest (a.put o.dst v') w') : wpList Ybum.prog ops Q (o :: rest) a w := by
  obtain ⟨i0, hi, hz0, hz1, hz2⟩ := info_parts Ybum.infoTok
  refine wpList_app w hgd s x 51 ho base 58 i0 (.agg #[.int .u8 0, .int .i64 0]) 2 16 Ybum.underlying51 hi hz0 hz1 hz2 rfl (by decide) v ts.length (flat ts) hs hown (some ⟨g, 0, none⟩) 1 1 [.int .u8 k, .int .i64 u] hx rfl (fun h => by cases h) ?_ ?_ ?_ ?_ hbase ?_
  · intro j u' hj
    refine ⟨_, rfl, ?_⟩
    match j, hj with
    | 0, hj => simp at hj; subst hj; simpa [Addr.add] using c0
    | 1, hj => simp at hj; subst hj; simpa [Addr.add] using c1
    | j + 2, hj => simp at hj
  · intro y hy
    simp at hy
    rcases hy with rfl | rfl <;> rfl
  · unfold maxLen; omega
  · omega
  · intro v' w' h2 h3 h4
    refine h v' w' ?_ h3 h4
    unfold OwnT
    rw [flat_append, flat_one, List.length_append]
    exact h2

/-- 'x = append(x, ys...)' -/
theorem app_toks (w : World) {ops : Array Oper} {rest : List Oper} {o : Oper} {a : Act} {Q : Exit → Act → World → Prop} (hgd : o.guard = none) (s x : Operand)
    (ho : o.op = .call { callee := .builtin .append, args := #[s, x], argTypes := #[51, 51] })
    (base : Nat) (v : Value) (ts : List (Int × Int)) (hs : a.eval s = v) (hown : OwnT w base v ts)
    (ao : Option Addr) (n c : Nat) (us : List (Int × Int)) (hx : a.eval x = .slice ao n c) (hz : ao = none → c = 0) (ht : Toks w ao n c us)
    (hlen : ts.length + us.length < 1000000000000) (hbase : base ≤ w.heap.size)
    (h : ∀ v' w', OwnT w' base v' (ts ++ us) → OwnT w' base v ts → Grew w w' v v' → wpList Ybum.prog ops Q rest (a.put o.dst v') w') : wpList Ybum.prog ops Q (o :: rest) a w := by
  obtain ⟨i0, hi, hz0, hz1, hz2⟩ := info_parts Ybum.infoTok
  obtain ⟨t1, t2, t3, t4⟩ := ht
  refine wpList_app w hgd s x 51 ho base 58 i0 (.agg #[.int .u8 0, .int .i64 0]) 2 16 Ybum.underlying51 hi hz0 hz1 hz2 rfl (by decide) v ts.length (flat ts) hs hown ao n c (flat us) hx (by rw [flat_length, t1]) hz ?_ (flat_one_cell us) ?_ ?_ hbase ?_
  · intro j u' hj
    have hj2 : j < us.length * 2 := by
      have := (List.getElem?_eq_some_iff.1 hj).1
      rw [flat_length] at this; exact this
    obtain ⟨b, off, rfl, hc⟩ := t4 (by omega)
    refine ⟨_, rfl, ?_⟩
    have hi2 : j / 2 < us.length := by omega
    have f := flat_at us (j / 2) hi2
    have cc := hc (j / 2) (by omega)
    have ea : (⟨b, off, none⟩ : Addr).add j = ⟨b, off + j, none⟩ := by unfold Addr.add; split <;> simp_all
    rw [ea]
    rcases Nat.mod_two_eq_zero_or_one j with hm | hm
    · have ej : j / 2 * 2 = j := by omega
      rw [ej] at f cc
      rw [cc.1, ← f.1, hj]
    · have ej : j / 2 * 2 + 1 = j := by omega
      rw [ej] at f
      rw [Nat.add_assoc, ej] at cc
      rw [cc.2, ← f.2, hj]
  · unfold maxLen; omega
  · omega
  · intro v' w' h2 h3 h4
    refine h v' w' ?_ h3 h4
    unfold OwnT
    rw [flat_append, List.length_append]
    rw [← t1] at h2
    exact h2

/-- 'make([]Token, 0, n)' -/
theorem make_tok (w : World) {ops : Array Oper} {rest : List Oper} {o : Oper} {a : Act} {Q : Exit → Act → World → Prop}
    (hg : o.guard = none) (l c : Operand) (hop : o.op = Op.makeSlice 51 l c) (base : Nat)
    (kl kc : IntKind) (C : Int) (n : Nat) (hl : a.eval l = .int kl 0) (hc : a.eval c = .int kc C) (hC : C = (n : Int)) (b2 : n < 1000000000000) (b4 : base ≤ w.heap.size)
    (hK : ∀ w', OwnT w' base (.slice (some ⟨w.heap.size, 0, none⟩) 0 n) [] → Below w.heap.size w w' → w.heap.size < w'.heap.size → wpList Ybum.prog ops Q rest (a.put o.dst (.slice (some ⟨w.heap.size, 0, none⟩) 0 n)) w') :
    wpList Ybum.prog ops Q (o :: rest) a w := by
  obtain ⟨i0, hi, hz0, hz1, hz2⟩ := info_parts Ybum.infoTok
  refine wpList_make_own w hg l c 51 hop base 58 i0 _ 2 Ybum.underlying51 hi hz0 hz1 kl kc C n hl hc hC (by rw [hz2]; omega) (by unfold maxLen; omega) b4 ?_
  intro w' h1 h2
  exact hK w' h1 ⟨h2.os, h2.tape, h2.output, h2.size, fun k hk => h2.block k hk (by simp)⟩ (h1.lt _ rfl).2

theorem below_app {B : Nat} {w wr w2 : World} {v v' : Value} (hb : Below B w wr) (hB : B ≤ wr.heap.size) (hv : ∀ k, v.ownBlock = some k → B ≤ k) (h : Grew wr w2 v v') : Below B w w2 := hb.trans (h.below hB hv)
theorem OwnT.base {w : World} {base : Nat} {v : Value} {ts : List (Int × Int)} (h : OwnT w base v ts) : ∀ k, v.ownBlock = some k → base ≤ k := fun k hk => (h.lt k hk).1
theorem flat_set0 (ts : List (Int × Int)) : ∀ (p : Nat) (k v : Int), p < ts.length → flat (ts.set p (k, v)) = ((flat ts).set (p * 2) (.int .u8 k)).set (p * 2 + 1) (.int .i64 v) := by
  induction ts with
  | nil => intro p k v h; simp at h
  | cons t ts ih =>
    intro p k v h
    cases p with
    | zero => simp [flat]
    | succ p =>
      have := ih p k v (by simpa using h)
      have e1 : (p + 1) * 2 = p * 2 + 1 + 1 := by omega
      rw [e1]
      simp only [flat, List.set_cons_succ, List.flatMap_cons, List.cons_append, List.nil_append] at this ⊢
      rw [this]
/-- 'xs[p].Kind = k' -/
theorem OwnT.setKind {w : World} {base g cap : Nat} {ts : List (Int × Int)} (h : OwnT w base (.slice (some ⟨g, 0, none⟩) ts.length cap) ts) (p : Nat) (hp : p < ts.length) (k : Int) :
    OwnT (w.setCell ⟨g, p * 2, none⟩ (.int .u8 k)) base (.slice (some ⟨g, 0, none⟩) ts.length cap) (ts.set p (k, Ex.vAt ts p)) ∧ w.grownBy (w.setCell ⟨g, p * 2, none⟩ (.int .u8 k)) (some g) := by
  obtain ⟨h1, h2⟩ := World.ownsRow.stored h (p * 2) (.int .u8 k)
  refine ⟨?_, h2⟩
  unfold OwnT
  rw [List.length_set, flat_set0 ts p k _ hp]
  have e : ((flat ts).set (p * 2) (.int .u8 k)).set (p * 2 + 1) (.int .i64 (Ex.vAt ts p)) = (flat ts).set (p * 2) (.int .u8 k) := by
    have f := (flat_at ts p hp).2
    rw [List.set_comm _ _ (by omega)]
    congr 1
    obtain ⟨hl, he⟩ := List.getElem?_eq_some_iff.1 f
    rw [← he]; exact List.set_getElem_self hl
  rw [e]; exact h1
theorem OwnT.frozen {w : World} {base g cap : Nat} {ts : List (Int × Int)} (h : OwnT w base (.slice (some ⟨g, 0, none⟩) ts.length cap) ts) (j : Nat) : w.frozen? ⟨g, j, none⟩ = false := World.ownsRow.frozenAt h j
theorem OwnT.toks' {w : World} {base : Nat} {v : Value} {ts : List (Int × Int)} (h : OwnT w base v ts) : ∃ a cap, v = .slice a ts.length cap ∧ (a = none → cap = 0) ∧ Toks w a ts.length cap ts := by
  obtain ⟨a, cap, e, ht⟩ := h.toks
  refine ⟨a, cap, e, ?_, ht⟩
  rintro rfl
  rcases h.2 with ⟨h1, h2⟩ | ⟨g, cap', cur, h1, _⟩
  · rw [e] at h1; simp at h1; exact h1.2
  · rw [e] at h1; cases h1
/-- a slice that is read, kept while another row grows -/
theorem Toks.grew {w w' : World} {a : Option Addr} {n cap : Nat} {ts : List (Int × Int)} {v v' : Value} (h : Toks w a n cap ts) (g : Grew w w' v v') (hne : ∀ x, a = some x → v.ownBlock ≠ some x.block) : Toks w' a n cap ts := by
  obtain ⟨h1, h2, h3, h4⟩ := h
  refine ⟨h1, h2, h3, fun hn => ?_⟩
  obtain ⟨b, off, rfl, hc⟩ := h4 hn
  have hb : some b ≠ v.ownBlock := fun e => hne _ rfl e.symm
  refine ⟨b, off, rfl, fun i hi => ?_⟩
  obtain ⟨c1, c2⟩ := hc i hi
  exact ⟨g.1.cell c1 hb, g.1.cell c2 hb⟩
theorem Toks.take {w : World} {a : Option Addr} {n cap : Nat} {ts : List (Int × Int)} (h : Toks w a n cap ts) (j : Nat) (hj : j ≤ n) : Toks w a j cap (ts.take j) := by
  obtain ⟨h1, h2, h3, h4⟩ := h
  refine ⟨by rw [List.length_take]; omega, by omega, h3, fun hn => ?_⟩
  obtain ⟨b, off, rfl, hc⟩ := h4 (by omega)
  refine ⟨b, off, rfl, fun i hi => ?_⟩
  obtain ⟨c1, c2⟩ := hc i (by omega)
  have e1 : Ex.kAt (ts.take j) i = Ex.kAt ts i := by simp [Ex.kAt, List.getD_eq_getElem?_getD, List.getElem?_take, hi]
  have e2 : Ex.vAt (ts.take j) i = Ex.vAt ts i := by simp [Ex.vAt, List.getD_eq_getElem?_getD, List.getElem?_take, hi]
  rw [e1, e2]; exact ⟨c1, c2⟩
theorem OwnT.take {w : World} {base g cap n : Nat} {ts : List (Int × Int)} (h : OwnT w base (.slice (some ⟨g, 0, none⟩) n cap) ts) (j : Nat) (hj : j ≤ n) : OwnT w base (.slice (some ⟨g, 0, none⟩) j cap) (ts.take j) := by
  rcases h.2 with ⟨h0, _⟩ | ⟨g', cap', cur, hv, hg, hh, hn, hcap, hsz, htake⟩
  · cases h0
  · cases hv
    have hl : (ts.take j).length = j := by rw [List.length_take]; omega
    have e : flat (ts.take j) = (flat ts).take (j * 2) := by
      conv => rhs; rw [← List.take_append_drop j ts, flat_append]
      have e2 : j * 2 = (flat (ts.take j)).length := by rw [flat_length, hl]
      rw [e2]; exact List.take_left.symm
    refine ⟨by rw [flat_length], .inr ⟨g, cap, cur, by rw [hl], hg, hh, by omega, hcap, hsz, ?_⟩⟩
    rw [hl, e, ← htake, List.take_take, Nat.min_eq_left (by omega)]
theorem madeCells_tok (n : Nat) : (madeCells (#[.int .u8 0, .int .i64 0] : Array Value) (n * 2)).toList = flat (List.replicate n (0, 0)) := by
  refine List.ext_getElem? fun i => ?_
  by_cases hi : i < n * 2
  · have h2 : i / 2 < (List.replicate n ((0, 0) : Int × Int)).length := by simp; omega
    have f := flat_at (List.replicate n (0, 0)) (i / 2) h2
    have k0 : Ex.kAt (List.replicate n (0, 0)) (i / 2) = 0 := by simp [Ex.kAt, List.getD_eq_getElem?_getD, List.getElem?_replicate]; split <;> rfl
    have v0 : Ex.vAt (List.replicate n (0, 0)) (i / 2) = 0 := by simp [Ex.vAt, List.getD_eq_getElem?_getD, List.getElem?_replicate]; split <;> rfl
    rw [k0, v0] at f
    have hm : (madeCells (#[.int .u8 0, .int .i64 0] : Array Value) (n * 2)).toList[i]? = some ((#[.int .u8 0, .int .i64 0] : Array Value)[i % 2]!) := by
      simp [madeCells, hi]
    rw [hm]
    rcases Nat.mod_two_eq_zero_or_one i with e | e
    · have ei : i / 2 * 2 = i := by omega
      rw [ei] at f
      rw [e, f.1]; rfl
    · have ei : i / 2 * 2 + 1 = i := by omega
      rw [ei] at f
      rw [e, f.2]; rfl
  · rw [List.getElem?_eq_none (by simp [madeCells]; omega), List.getElem?_eq_none (by rw [flat_length]; simp; omega)]
/-- 'make([]Token, n)' -/
theorem make_tokN (w : World) {ops : Array Oper} {rest : List Oper} {o : Oper} {a : Act} {Q : Exit → Act → World → Prop}
    (hg : o.guard = none) (l c : Operand) (hop : o.op = Op.makeSlice 51 l c) (base : Nat)
    (kl kc : IntKind) (L C : Int) (n : Nat) (hl : a.eval l = .int kl L) (hc : a.eval c = .int kc C) (hL : L = (n : Int)) (hC : C = (n : Int)) (b2 : n < 1000000000000) (b4 : base ≤ w.heap.size)
    (hK : ∀ w', OwnT w' base (.slice (some ⟨w.heap.size, 0, none⟩) n n) (List.replicate n (0, 0)) → Below w.heap.size w w' → w.heap.size < w'.heap.size → wpList Ybum.prog ops Q rest (a.put o.dst (.slice (some ⟨w.heap.size, 0, none⟩) n n)) w') :
    wpList Ybum.prog ops Q (o :: rest) a w := by
  obtain ⟨i0, hi, hz0, hz1, hz2⟩ := info_parts Ybum.infoTok
  refine wpList_make_full w hg l c 51 hop base 58 i0 _ 2 Ybum.underlying51 hi hz0 hz1 kl kc L C n hl hc hL hC (by rw [hz2]; omega) (by unfold maxLen; omega) b4 ?_
  intro w' h1 h2
  refine hK w' ?_ ⟨h2.os, h2.tape, h2.output, h2.size, fun k hk => h2.block k hk (by simp)⟩ (h1.lt _ rfl).2
  unfold OwnT
  rw [List.length_replicate, ← madeCells_tok]
  exact h1
/-- 'xs[p] = Token{k, v}' -/
theorem OwnT.setTok {w : World} {base g cap : Nat} {ts : List (Int × Int)} {n : Nat} (h : OwnT w base (.slice (some ⟨g, 0, none⟩) n cap) ts) (hn : n = ts.length) (p : Nat) (hp : p < ts.length) (k v : Int) :
    OwnT ((w.setCell ⟨g, p * 2, none⟩ (.int .u8 k)).setCell ⟨g, p * 2 + 1, none⟩ (.int .i64 v)) base (.slice (some ⟨g, 0, none⟩) n cap) (ts.set p (k, v)) ∧
    w.grownBy ((w.setCell ⟨g, p * 2, none⟩ (.int .u8 k)).setCell ⟨g, p * 2 + 1, none⟩ (.int .i64 v)) (some g) := by
  subst hn
  obtain ⟨h1, h2⟩ := World.ownsRow.stored h (p * 2) (.int .u8 k)
  obtain ⟨h3, h4⟩ := World.ownsRow.stored h1 (p * 2 + 1) (.int .i64 v)
  refine ⟨?_, ⟨h4.os.trans h2.os, h4.tape.trans h2.tape, h4.output.trans h2.output, Nat.le_trans h2.size h4.size, fun b hb hne => ?_⟩⟩
  · unfold OwnT
    rw [List.length_set, flat_set0 ts p k v hp]
    exact h3
  · rw [h4.block b (Nat.lt_of_lt_of_le hb h2.size) hne, h2.block b hb hne]
theorem set_mid {α : Type} (A : List α) (z x : α) (r : Nat) : (A ++ List.replicate (r + 1) z).set A.length x = A ++ [x] ++ List.replicate r z := by
  rw [List.set_append_right _ _ (Nat.le_refl _), Nat.sub_self, List.replicate_succ]
  simp
theorem below_setTok {B : Nat} {w w1 w2 : World} {g : Nat} (hb : Below B w w1) (h : w1.grownBy w2 (some g)) (hB : B ≤ w1.heap.size) (hg : B ≤ g) : Below B w w2 :=
  hb.grown h hB (fun k hk => by cases hk; exact hg)
theorem OwnT.frozenAt {w : World} {base g cap n : Nat} {ts : List (Int × Int)} (h : OwnT w base (.slice (some ⟨g, 0, none⟩) n cap) ts) (j : Nat) : w.frozen? ⟨g, j, none⟩ = false := by
  rcases h.2 with ⟨h0, _⟩ | ⟨g', cap', cur, hv, hg, hh, hn, hcap, hsz, htake⟩
  · cases h0
  · cases hv
    exact OwnT.frozen (cap := cap) h j
theorem OwnT.len {w : World} {base n cap : Nat} {a : Option Addr} {ts : List (Int × Int)} (h : OwnT w base (.slice a n cap) ts) : ts.length = n ∧ n ≤ cap ∧ cap ≤ maxLen := by
  rcases h.2 with ⟨h0, h1⟩ | ⟨g', cap', cur, hv, hg, hh, hn, hcap, hsz, htake⟩
  · simp at h0
    obtain ⟨_, rfl, rfl⟩ := h0
    exact ⟨h1, by omega, by simp [maxLen]⟩
  · simp at hv
    obtain ⟨_, rfl, rfl⟩ := hv
    exact ⟨rfl, hn, hcap⟩
theorem OwnT.cells {w : World} {base g cap n : Nat} {ts : List (Int × Int)} (h : OwnT w base (.slice (some ⟨g, 0, none⟩) n cap) ts) (i : Nat) (hi : i < ts.length) :
    w.cell? ⟨g, i * 2, none⟩ = some (.int .u8 (Ex.kAt ts i)) ∧ w.cell? ⟨g, i * 2 + 1, none⟩ = some (.int .i64 (Ex.vAt ts i)) := by
  obtain ⟨g', cap', e, _, _, hc⟩ := h.at (by omega)
  simp at e
  obtain ⟨rfl, _, _⟩ := e
  exact hc i hi
theorem OwnT.toksAt {w : World} {base n cap : Nat} {a : Option Addr} {ts : List (Int × Int)} (h : OwnT w base (.slice a n cap) ts) : Toks w a n cap ts := by
  obtain ⟨a', cap', e, ht⟩ := h.toks
  simp at e
  obtain ⟨rfl, e2, rfl⟩ := e
  rw [e2]; exact ht
end Go.Proofs.Ymbrbu
