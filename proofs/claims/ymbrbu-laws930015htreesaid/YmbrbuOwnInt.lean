/- rows of integers of the call's own -/
import Derived.Test.YmbrbuOpenTok
set_option linter.unusedVariables false
set_option linter.unusedSimpArgs false
set_option linter.unnecessarySimpa false
namespace Go.Proofs.Ymbrbu
open Go.RowKit

def OwnI (e : TypeId) (k : IntKind) (w : World) (base : Nat) (v : Value) (zs : List Int) : Prop := w.ownsRow base e 1 v zs.length (zs.map (Value.int k))
section
variable {e : TypeId} {k : IntKind} {w w' : World} {base : Nat} {v v' u : Value} {zs : List Int}
theorem OwnI.alloc (h : OwnI e k w base v zs) (o : Obj) : OwnI e k (w.alloc o) base v zs := World.ownsRow.alloc h o
theorem OwnI.keeps (h : OwnI e k w base u zs) (g : Grew w w' v v') (hne : u.ownBlock = none ∨ u.ownBlock ≠ v.ownBlock) : OwnI e k w' base u zs := g.keeps h hne
theorem OwnI.below (h : OwnI e k w base v zs) (hb : Below w.heap.size w w') : OwnI e k w' base v zs := by
  refine World.ownsRow.kept h (row := none) ⟨hb.os, hb.tape, hb.output, hb.size, fun k hk _ => hb.block k hk⟩ ?_
  cases v.ownBlock <;> simp
theorem OwnI.lt (h : OwnI e k w base v zs) : ∀ k, v.ownBlock = some k → base ≤ k ∧ k < w.heap.size := World.ownsRow.lt h
theorem OwnI.baseLe (h : OwnI e k w base v zs) : ∀ k, v.ownBlock = some k → base ≤ k := fun k hk => (h.lt k hk).1
theorem OwnI.nil (w : World) (base : Nat) : OwnI e k w base (.slice none 0 0) [] := World.ownsRow_nil _ _ _ _
theorem OwnI.cellsAt {g n cap : Nat} (h : OwnI e k w base (.slice (some ⟨g, 0, none⟩) n cap) zs) (i : Nat) (hi : i < zs.length) : w.cell? ⟨g, i, none⟩ = some (.int k (Ex.iAt zs i)) := by
  rcases h.2 with ⟨h0, _⟩ | ⟨g', cap', cur, hv, hg, hh, hn, hcap, hsz, htake⟩
  · cases h0
  · cases hv
    have h1 := World.ownsRow.cellAt h i (by omega)
    rw [h1]
    simp [Ex.iAt, List.getD_eq_getElem?_getD, hi]
theorem OwnI.frozenAt {g n cap : Nat} (h : OwnI e k w base (.slice (some ⟨g, 0, none⟩) n cap) zs) (j : Nat) : w.frozen? ⟨g, j, none⟩ = false := by
  rcases h.2 with ⟨h0, _⟩ | ⟨g', cap', cur, hv, hg, hh, hn, hcap, hsz, htake⟩
  · cases h0
  · cases hv; exact World.ownsRow.frozenAt h j
theorem OwnI.len {a : Option Addr} {n cap : Nat} (h : OwnI e k w base (.slice a n cap) zs) : zs.length = n ∧ n ≤ cap ∧ cap ≤ maxLen := by
  rcases h.2 with ⟨h0, h1⟩ | ⟨g', cap', cur, hv, hg, hh, hn, hcap, hsz, htake⟩
  · simp at h0
    obtain ⟨_, rfl, rfl⟩ := h0
    exact ⟨h1, by omega, by simp [maxLen]⟩
  · simp at hv
    obtain ⟨_, rfl, rfl⟩ := hv
    exact ⟨rfl, hn, hcap⟩
theorem OwnI.shape (h : OwnI e k w base v zs) : ∃ a cap, v = .slice a zs.length cap ∧ (a = none → cap = 0) ∧ (a = none ∨ ∃ g, a = some ⟨g, 0, none⟩) := by
  rcases h.2 with ⟨rfl, h0⟩ | ⟨g, cap, cur, rfl, hb, hg, hn, hc, hs, ht⟩
  · exact ⟨none, 0, by rw [h0], fun _ => rfl, .inl rfl⟩
  · exact ⟨_, cap, rfl, fun h => (by cases h), .inr ⟨g, rfl⟩⟩
theorem OwnI.atSome (h : OwnI e k w base v zs) (hp : 0 < zs.length) : ∃ g cap, v = .slice (some ⟨g, 0, none⟩) zs.length cap := by
  rcases h.2 with ⟨rfl, h0⟩ | ⟨g, cap, cur, rfl, _⟩
  · omega
  · exact ⟨g, cap, rfl⟩
theorem OwnI.intsAt {a : Option Addr} {n cap : Nat} (h : OwnI e k w base (.slice a n cap) zs) : Ints k w a n cap zs := by
  obtain ⟨h1, h2, h3⟩ := h.len
  refine ⟨h1, h2, h3, fun hp => ?_⟩
  rcases h.2 with ⟨h0, _⟩ | ⟨g, cap', cur, hv, _⟩
  · simp at h0; omega
  · simp at hv
    obtain ⟨rfl, _, _⟩ := hv
    exact ⟨g, 0, rfl, fun i hi => by rw [Nat.zero_add]; exact h.cellsAt i (by omega)⟩
/-- 'xs[p] = v' -/
theorem OwnI.set {g n cap : Nat} (h : OwnI e k w base (.slice (some ⟨g, 0, none⟩) n cap) zs) (p : Nat) (x : Int) :
    OwnI e k (w.setCell ⟨g, p, none⟩ (.int k x)) base (.slice (some ⟨g, 0, none⟩) n cap) (zs.set p x) ∧ w.grownBy (w.setCell ⟨g, p, none⟩ (.int k x)) (some g) := by
  obtain ⟨h1, _, _⟩ := h.len
  subst h1
  obtain ⟨h1, h2⟩ := World.ownsRow.stored h p (.int k x)
  refine ⟨?_, h2⟩
  unfold OwnI
  rw [List.length_set, List.map_set]
  exact h1
theorem OwnI.take {g n cap : Nat} (h : OwnI e k w base (.slice (some ⟨g, 0, none⟩) n cap) zs) (j : Nat) (hj : j ≤ n) : OwnI e k w base (.slice (some ⟨g, 0, none⟩) j cap) (zs.take j) := by
  rcases h.2 with ⟨h0, _⟩ | ⟨g', cap', cur, hv, hg, hh, hn, hcap, hsz, htake⟩
  · cases h0
  · cases hv
    have hl : (zs.take j).length = j := by rw [List.length_take]; omega
    refine ⟨by simp, .inr ⟨g, cap, cur, by rw [hl], hg, hh, by omega, hcap, hsz, ?_⟩⟩
    rw [hl, List.map_take, ← htake, List.take_take, Nat.min_eq_left (by omega), Nat.mul_one]
theorem Ints.grew {a : Option Addr} {n cap : Nat} (h : Ints k w a n cap zs) (g : Grew w w' v v') (hne : ∀ x, a = some x → v.ownBlock ≠ some x.block) : Ints k w' a n cap zs := by
  obtain ⟨h1, h2, h3, h4⟩ := h
  refine ⟨h1, h2, h3, fun hn => ?_⟩
  obtain ⟨b, off, rfl, hc⟩ := h4 hn
  have hb : some b ≠ v.ownBlock := fun e => hne _ rfl e.symm
  exact ⟨b, off, rfl, fun i hi => g.1.cell (hc i hi) hb⟩
end

/-- 'x = append(x, c)' -/
theorem app_int (w : World) {ops : Array Oper} {rest : List Oper} {o : Oper} {a : Act} {Q : Exit → Act → World → Prop} (t e : TypeId) (k : IntKind) (bytes : Nat)
    (ht : Ybum.prog.underlying t = some (.slice e)) (hinfo : (Ybum.prog.info? e).map (fun i => (i.zero, i.size, i.bytes)) = some (some (.int k 0), 1, bytes)) (hby : bytes ≤ 8) (hgd : o.guard = none) (s x : Operand)
    (ho : o.op = .call { callee := .builtin .append, args := #[s, x], argTypes := #[t, t] })
    (base : Nat) (v : Value) (zs : List Int) (hs : a.eval s = v) (hown : OwnI e k w base v zs)
    (g : Nat) (c : Int) (hx : a.eval x = .slice (some ⟨g, 0, none⟩) 1 1) (c0 : w.cell? ⟨g, 0, none⟩ = some (.int k c))
    (hlen : zs.length < 1000000000000) (hbase : base ≤ w.heap.size)
    (h : ∀ v' w', OwnI e k w' base v' (zs ++ [c]) → OwnI e k w' base v zs → Grew w w' v v' → wpList Ybum.prog ops Q rest (a.put o.dst v') w') : wpList Ybum.prog ops Q (o :: rest) a w := by
  obtain ⟨i0, hi, hz0, hz1, hz2⟩ := info_parts hinfo
  refine wpList_app w hgd s x t ho base e i0 (.int k 0) 1 bytes ht hi hz0 hz1 hz2 rfl (by decide) v zs.length (zs.map (Value.int k)) hs hown (some ⟨g, 0, none⟩) 1 1 [.int k c] hx rfl (fun h => by cases h) ?_ ?_ ?_ ?_ hbase ?_
  · intro j u' hj
    refine ⟨_, rfl, ?_⟩
    match j, hj with
    | 0, hj => simp at hj; subst hj; simpa [Addr.add] using c0
    | j + 1, hj => simp at hj
  · intro y hy; simp at hy; rw [hy]; rfl
  · unfold maxLen; omega
  · have : (zs.length + 1) * bytes ≤ (zs.length + 1) * 8 := Nat.mul_le_mul_left _ hby
    omega
  · intro v' w' h2 h3 h4
    refine h v' w' ?_ h3 h4
    unfold OwnI
    rw [List.map_append, List.length_append]
    exact h2

/-- 'x = append(x, ys...)' -/
theorem app_ints (w : World) {ops : Array Oper} {rest : List Oper} {o : Oper} {a : Act} {Q : Exit → Act → World → Prop} (t e : TypeId) (k : IntKind) (bytes : Nat)
    (ht : Ybum.prog.underlying t = some (.slice e)) (hinfo : (Ybum.prog.info? e).map (fun i => (i.zero, i.size, i.bytes)) = some (some (.int k 0), 1, bytes)) (hby : bytes ≤ 8) (hgd : o.guard = none) (s x : Operand)
    (ho : o.op = .call { callee := .builtin .append, args := #[s, x], argTypes := #[t, t] })
    (base : Nat) (v : Value) (zs : List Int) (hs : a.eval s = v) (hown : OwnI e k w base v zs)
    (ao : Option Addr) (n c : Nat) (us : List Int) (hx : a.eval x = .slice ao n c) (hz : ao = none → c = 0) (hti : Ints k w ao n c us)
    (hlen : zs.length + us.length < 1000000000000) (hbase : base ≤ w.heap.size)
    (h : ∀ v' w', OwnI e k w' base v' (zs ++ us) → OwnI e k w' base v zs → Grew w w' v v' → wpList Ybum.prog ops Q rest (a.put o.dst v') w') : wpList Ybum.prog ops Q (o :: rest) a w := by
  obtain ⟨i0, hi, hz0, hz1, hz2⟩ := info_parts hinfo
  obtain ⟨t1, t2, t3, t4⟩ := hti
  refine wpList_app w hgd s x t ho base e i0 (.int k 0) 1 bytes ht hi hz0 hz1 hz2 rfl (by decide) v zs.length (zs.map (Value.int k)) hs hown ao n c (us.map (Value.int k)) hx (by simp [t1]) hz ?_ ?_ ?_ ?_ hbase ?_
  · intro j u' hj
    have hj2 : j < us.length := by simpa using (List.getElem?_eq_some_iff.1 hj).1
    obtain ⟨b, off, rfl, hc⟩ := t4 (by omega)
    refine ⟨_, rfl, ?_⟩
    have ea : (⟨b, off, none⟩ : Addr).add j = ⟨b, off + j, none⟩ := by unfold Addr.add; split <;> simp_all
    rw [ea, hc j (by omega)]
    simp [hj2] at hj
    rw [← hj, Ex.iAt_eq us j hj2]
  · intro y hy; obtain ⟨q, _, rfl⟩ := List.mem_map.1 hy; rfl
  · unfold maxLen; omega
  · have : (zs.length + n) * bytes ≤ (zs.length + n) * 8 := Nat.mul_le_mul_left _ hby
    omega
  · intro v' w' h2 h3 h4
    refine h v' w' ?_ h3 h4
    unfold OwnI
    rw [List.map_append, List.length_append]
    rw [← t1] at h2
    exact h2

/-- 'make([]T, l, c)' -/
theorem make_int (w : World) {ops : Array Oper} {rest : List Oper} {o : Oper} {a : Act} {Q : Exit → Act → World → Prop} (t e : TypeId) (k : IntKind) (bytes : Nat)
    (ht : Ybum.prog.underlying t = some (.slice e)) (hinfo : (Ybum.prog.info? e).map (fun i => (i.zero, i.size, i.bytes)) = some (some (.int k 0), 1, bytes)) (hby : bytes ≤ 8)
    (hg : o.guard = none) (l c : Operand) (hop : o.op = Op.makeSlice t l c) (base : Nat)
    (kl kc : IntKind) (L C : Int) (m n : Nat) (hl : a.eval l = .int kl L) (hc : a.eval c = .int kc C) (hL : L = (m : Int)) (hC : C = (n : Int)) (hmn : m ≤ n) (b2 : n < 1000000000000) (b4 : base ≤ w.heap.size)
    (hK : ∀ w', OwnI e k w' base (.slice (some ⟨w.heap.size, 0, none⟩) m n) (List.replicate m 0) → Below w.heap.size w w' → w.heap.size < w'.heap.size → wpList Ybum.prog ops Q rest (a.put o.dst (.slice (some ⟨w.heap.size, 0, none⟩) m n)) w') :
    wpList Ybum.prog ops Q (o :: rest) a w := by
  obtain ⟨i0, hi, hz0, hz1, hz2⟩ := info_parts hinfo
  refine wpList_plain hg fun K hK' => ?_
  have hb8 : (i0.bytes : Int) * (n : Int) ≤ 281474976710656 := by
    have h1 : bytes * n ≤ 8 * n := Nat.mul_le_mul_right _ hby
    have h2 : ((bytes * n : Nat) : Int) ≤ 281474976710656 := by omega
    rw [hz2]; rwa [Int.natCast_mul] at h2
  have hrun := run_make (P := Ybum.prog) w t e i0 (.int k 0) ht hi hz0 kl kc (m : Int) (n : Int) (by omega) (by omega) hb8 (by omega)
  subst hL
  subst hC
  unfold Oper.wp
  simp [execOp, hop, hl, hc, hrun, Result.andThen]
  refine hK' _ _ (hK _ ?_ ((Below.refl _ _).alloc (Nat.le_refl _) _) (by simp))
  refine ⟨by simp, .inr ⟨w.heap.size, n, _, by simp, b4, heap_alloc_new w _, by simp; omega, by unfold maxLen; omega, by rw [size_madeCells, hz1], ?_⟩⟩
  rw [hz1, Nat.mul_one, Nat.mul_one]
  show ((madeCells #[Value.int k 0] n).toList).take _ = _
  rw [toList_madeCells_one]
  simp
  omega
abbrev OwnB (w : World) (base : Nat) (v : Value) (zs : List Int) : Prop := OwnI 5 .u8 w base v zs
end Go.Proofs.Ymbrbu
