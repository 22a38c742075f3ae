/- rows of the call's own whose elements are of 'sz' cells each, whatever lies in them -/
import Derived.Test.YmbrbuOwnTok
set_option linter.unusedVariables false
set_option linter.unusedSimpArgs false
set_option linter.unnecessarySimpa false
namespace Go.Proofs.Ymbrbu
open Go.RowKit

theorem flatten_len {sz : Nat} : ∀ (xs : List (List Value)), (∀ x ∈ xs, x.length = sz) → xs.flatten.length = xs.length * sz
  | [], _ => by simp
  | x :: xs, h => by
    have := flatten_len xs (fun y hy => h y (by simp [hy]))
    rw [List.flatten_cons, List.length_append, this, h x (by simp), List.length_cons, Nat.add_mul, Nat.one_mul, Nat.add_comm]
theorem flatten_at {sz : Nat} : ∀ (xs : List (List Value)), (∀ x ∈ xs, x.length = sz) → ∀ i j, j < sz → xs.flatten[i * sz + j]? = (xs[i]?).bind (·[j]?)
  | [], _, i, j, hj => by simp
  | x :: xs, h, i, j, hj => by
    have hx := h x (by simp)
    rw [List.flatten_cons]
    cases i with
    | zero => rw [Nat.zero_mul, Nat.zero_add, List.getElem?_append_left (by omega)]; simp
    | succ i =>
      rw [List.getElem?_append_right (by rw [Nat.add_mul]; omega), hx, show (i + 1) * sz + j - sz = i * sz + j by rw [Nat.add_mul]; omega, flatten_at xs (fun y hy => h y (by simp [hy])) i j hj]
      simp
theorem flatten_take {sz : Nat} : ∀ (xs : List (List Value)) (k : Nat), (∀ x ∈ xs, x.length = sz) → (xs.take k).flatten = xs.flatten.take (k * sz)
  | [], k, _ => by simp
  | x :: xs, 0, _ => by simp
  | x :: xs, k + 1, h => by
    have hx := h x (by simp)
    rw [List.take_succ_cons, List.flatten_cons, List.flatten_cons, flatten_take xs k (fun y hy => h y (by simp [hy])), List.take_append, hx, show (k + 1) * sz - sz = k * sz by rw [Nat.add_mul]; omega, List.take_of_length_le (l := x) (by rw [Nat.add_mul, hx]; omega)]

def OwnR (e : TypeId) (sz : Nat) (w : World) (base : Nat) (v : Value) (xs : List (List Value)) : Prop := w.ownsRow base e sz v xs.length xs.flatten ∧ ∀ x ∈ xs, x.length = sz
section
variable {e : TypeId} {sz : Nat} {w w' : World} {base : Nat} {v v' u : Value} {xs : List (List Value)}
theorem OwnR.alloc (h : OwnR e sz w base v xs) (o : Obj) : OwnR e sz (w.alloc o) base v xs := ⟨World.ownsRow.alloc h.1 o, h.2⟩
theorem OwnR.keeps (h : OwnR e sz w base u xs) (g : Grew w w' v v') (hne : u.ownBlock = none ∨ u.ownBlock ≠ v.ownBlock) : OwnR e sz w' base u xs := ⟨g.keeps h.1 hne, h.2⟩
theorem OwnR.below (h : OwnR e sz w base v xs) (hb : Below w.heap.size w w') : OwnR e sz w' base v xs := by
  refine ⟨World.ownsRow.kept h.1 (row := none) ⟨hb.os, hb.tape, hb.output, hb.size, fun k hk _ => hb.block k hk⟩ ?_, h.2⟩
  cases v.ownBlock <;> simp
theorem OwnR.lt (h : OwnR e sz w base v xs) : ∀ k, v.ownBlock = some k → base ≤ k ∧ k < w.heap.size := World.ownsRow.lt h.1
theorem OwnR.baseLe (h : OwnR e sz w base v xs) : ∀ k, v.ownBlock = some k → base ≤ k := fun k hk => (h.lt k hk).1
theorem OwnR.at (h : OwnR e sz w base v xs) (hp : 0 < xs.length) : ∃ g cap, v = .slice (some ⟨g, 0, none⟩) xs.length cap ∧ xs.length ≤ cap ∧ cap ≤ maxLen := by
  rcases h.1.2 with ⟨rfl, h0⟩ | ⟨g, cap, cur, rfl, hb, hg, hn, hc, hs, ht⟩
  · omega
  · exact ⟨g, cap, rfl, hn, hc⟩
theorem OwnR.shape (h : OwnR e sz w base v xs) : ∃ a cap, v = .slice a xs.length cap ∧ cap ≤ maxLen := by
  rcases h.1.2 with ⟨rfl, h0⟩ | ⟨g, cap, cur, rfl, hb, hg, hn, hc, hs, ht⟩
  · exact ⟨none, 0, by rw [h0], by simp [maxLen]⟩
  · exact ⟨_, cap, rfl, hc⟩
theorem OwnR.cellAt {g n cap : Nat} (h : OwnR e sz w base (.slice (some ⟨g, 0, none⟩) n cap) xs) (i j : Nat) (hi : i < xs.length) (hj : j < sz) : w.cell? ⟨g, i * sz + j, none⟩ = (xs[i]?).bind (·[j]?) := by
  rcases h.1.2 with ⟨h0, _⟩ | ⟨g', cap', cur, hv, hg, hh, hn, hcap, hsz, htake⟩
  · cases h0
  · cases hv
    have hlt : i * sz + j < xs.length * sz := by
      have := Nat.mul_le_mul_right sz (show i + 1 ≤ xs.length from hi)
      rw [Nat.add_mul] at this
      omega
    rw [World.ownsRow.cellAt h.1 _ hlt, flatten_at xs h.2 i j hj]
theorem OwnR.frozenAt {g n cap : Nat} (h : OwnR e sz w base (.slice (some ⟨g, 0, none⟩) n cap) xs) (j : Nat) : w.frozen? ⟨g, j, none⟩ = false := by
  rcases h.1.2 with ⟨h0, _⟩ | ⟨g', cap', cur, hv, hg, hh, hn, hcap, hsz, htake⟩
  · cases h0
  · cases hv; exact World.ownsRow.frozenAt h.1 j
theorem OwnR.take {g n cap : Nat} (h : OwnR e sz w base (.slice (some ⟨g, 0, none⟩) n cap) xs) (j : Nat) (hj : j ≤ n) : OwnR e sz w base (.slice (some ⟨g, 0, none⟩) j cap) (xs.take j) := by
  rcases h.1.2 with ⟨h0, _⟩ | ⟨g', cap', cur, hv, hg, hh, hn, hcap, hsz, htake⟩
  · cases h0
  · cases hv
    have hl : (xs.take j).length = j := by rw [List.length_take]; omega
    have h2 : ∀ x ∈ xs.take j, x.length = sz := fun x hx => h.2 x (List.mem_of_mem_take hx)
    refine ⟨⟨by rw [flatten_len _ h2], .inr ⟨g, cap, cur, by rw [hl], hg, hh, by omega, hcap, hsz, ?_⟩⟩, h2⟩
    rw [hl, flatten_take xs j h.2, ← htake, List.take_take, Nat.min_eq_left (Nat.mul_le_mul_right sz (by omega))]
/-- 'xs[p] = v', elements of one cell -/
theorem OwnR.set1 {g n cap : Nat} (h : OwnR e 1 w base (.slice (some ⟨g, 0, none⟩) n cap) xs) (p : Nat) (hp : p < xs.length) (x : Value) :
    OwnR e 1 (w.setCell ⟨g, p, none⟩ x) base (.slice (some ⟨g, 0, none⟩) n cap) (xs.set p [x]) ∧ w.grownBy (w.setCell ⟨g, p, none⟩ x) (some g) := by
  rcases h.1.2 with ⟨h0, _⟩ | ⟨g', cap', cur, hv, _⟩
  · cases h0
  · cases hv
    obtain ⟨h1, h2⟩ := World.ownsRow.stored h.1 p x
    have hm : ∀ y ∈ xs.set p [x], y.length = 1 := fun y hy => by
      rcases List.mem_or_eq_of_mem_set hy with h' | rfl
      · exact h.2 y h'
      · rfl
    refine ⟨⟨?_, hm⟩, h2⟩
    have e : (xs.set p [x]).flatten = xs.flatten.set p x := by
      apply List.ext_getElem?
      intro k
      have a1 := flatten_at (xs.set p [x]) hm k 0 (by omega)
      have a2 := flatten_at xs h.2 k 0 (by omega)
      simp only [Nat.mul_one, Nat.add_zero] at a1 a2
      rw [a1, List.getElem?_set, List.getElem?_set, a2]
      by_cases hk : p = k
      · subst hk
        simp [hp, flatten_len xs h.2]
      · simp [hk]
    rw [e, List.length_set]
    exact h1
theorem OwnR.nil (w : World) (base : Nat) : OwnR e sz w base (.slice none 0 0) [] := ⟨World.ownsRow_nil _ _ _ _, fun x hx => by cases hx⟩
end
/-- 'xs = append(xs, x)' -/
theorem app_row (w : World) {ops : Array Oper} {rest : List Oper} {o : Oper} {a : Act} {Q : Exit → Act → World → Prop} (t e : TypeId) (z : Value) (sz bytes : Nat)
    (ht : Ybum.prog.underlying t = some (.slice e)) (hinfo : (Ybum.prog.info? e).map (fun i => (i.zero, i.size, i.bytes)) = some (some z, sz, bytes)) (hzs : z.cells.size = sz) (hsz : 0 < sz) (hby : bytes ≤ 64) (hgd : o.guard = none) (s x : Operand)
    (ho : o.op = .call { callee := .builtin .append, args := #[s, x], argTypes := #[t, t] })
    (base : Nat) (v : Value) (xs : List (List Value)) (hs : a.eval s = v) (hown : OwnR e sz w base v xs)
    (g : Nat) (cs : List Value) (hx : a.eval x = .slice (some ⟨g, 0, none⟩) 1 1) (hcl : cs.length = sz) (hcs : ∀ j u, cs[j]? = some u → w.cell? ⟨g, j, none⟩ = some u) (h1 : ∀ u ∈ cs, u.oneCell' = true)
    (hlen : xs.length < 1000000000000) (hbase : base ≤ w.heap.size)
    (h : ∀ v' w', OwnR e sz w' base v' (xs ++ [cs]) → OwnR e sz w' base v xs → Grew w w' v v' → wpList Ybum.prog ops Q rest (a.put o.dst v') w') : wpList Ybum.prog ops Q (o :: rest) a w := by
  obtain ⟨i0, hi, hz0, hz1, hz2⟩ := info_parts hinfo
  refine wpList_app w hgd s x t ho base e i0 z sz bytes ht hi hz0 hz1 hz2 hzs hsz v xs.length xs.flatten hs hown.1 (some ⟨g, 0, none⟩) 1 1 cs hx (by rw [hcl, Nat.one_mul]) (fun h => by cases h) ?_ h1 ?_ ?_ hbase ?_
  · intro j u' hj
    refine ⟨_, rfl, ?_⟩
    have := hcs j u' hj
    have ea : (⟨g, 0, none⟩ : Addr).add j = ⟨g, j, none⟩ := by unfold Addr.add; split <;> simp_all
    rw [ea]; exact this
  · unfold maxLen; omega
  · have : (xs.length + 1) * bytes ≤ (xs.length + 1) * 64 := Nat.mul_le_mul_left _ hby
    omega
  · intro v' w' h2 h3 h4
    refine h v' w' ⟨?_, fun x hx => ?_⟩ ⟨h3, hown.2⟩ h4
    · rw [List.flatten_append, List.length_append]
      simpa using h2
    · rcases List.mem_append.1 hx with h' | h'
      · exact hown.2 x h'
      · simp at h'; subst h'; exact hcl
/-- 'make([]T, 0, n)' -/
theorem make_row (w : World) {ops : Array Oper} {rest : List Oper} {o : Oper} {a : Act} {Q : Exit → Act → World → Prop} (t e : TypeId) (z : Value) (sz bytes : Nat)
    (ht : Ybum.prog.underlying t = some (.slice e)) (hinfo : (Ybum.prog.info? e).map (fun i => (i.zero, i.size, i.bytes)) = some (some z, sz, bytes)) (hby : bytes ≤ 64)
    (hg : o.guard = none) (l c : Operand) (hop : o.op = Op.makeSlice t l c) (base : Nat)
    (kl kc : IntKind) (C : Int) (n : Nat) (hl : a.eval l = .int kl 0) (hc : a.eval c = .int kc C) (hC : C = (n : Int)) (b2 : n < 1000000000000) (b4 : base ≤ w.heap.size)
    (hK : ∀ w', OwnR e sz w' base (.slice (some ⟨w.heap.size, 0, none⟩) 0 n) [] → Below w.heap.size w w' → w.heap.size < w'.heap.size → wpList Ybum.prog ops Q rest (a.put o.dst (.slice (some ⟨w.heap.size, 0, none⟩) 0 n)) w') :
    wpList Ybum.prog ops Q (o :: rest) a w := by
  obtain ⟨i0, hi, hz0, hz1, hz2⟩ := info_parts hinfo
  have h64 : n * bytes ≤ n * 64 := Nat.mul_le_mul_left _ hby
  refine wpList_make_own w hg l c t hop base e i0 _ sz ht hi hz0 hz1 kl kc C n hl hc hC (by rw [hz2, Nat.mul_comm]; omega) (by unfold maxLen; omega) b4 ?_
  intro w' h1 h2
  exact hK w' ⟨h1, fun x hx => by cases hx⟩ ⟨h2.os, h2.tape, h2.output, h2.size, fun k hk => h2.block k hk (by simp)⟩ (h1.lt _ rfl).2

/-- two slices that lie apart -/
def Apt (u v : Value) : Prop := ∀ k, u.ownBlock = some k → v.ownBlock ≠ some k
theorem Apt.symm {u v : Value} (h : Apt u v) : Apt v u := fun k h1 h2 => h k h2 h1
theorem Apt.or {u v : Value} (h : Apt u v) : u.ownBlock = none ∨ u.ownBlock ≠ v.ownBlock := by
  cases hk : u.ownBlock with
  | none => exact .inl rfl
  | some k => exact .inr fun e => h k hk e.symm
theorem Apt.grow {u v v' : Value} {w w' : World} {base e size n : Nat} {xs : List Value} (h : Apt u v) (g : Grew w w' v v') (hu : w.ownsRow base e size u n xs) : Apt u v' := by
  intro k hk hk'
  rcases g.apart hu h.or with h0 | hne
  · rw [h0] at hk; cases hk
  · exact hne (hk.trans hk'.symm)
theorem Apt.of_ge {u v : Value} {m : Nat} (hu : ∀ k, u.ownBlock = some k → k < m) (hv : ∀ k, v.ownBlock = some k → m ≤ k) : Apt u v := fun k h1 h2 => by have := hu k h1; have := hv k h2; omega
end Go.Proofs.Ymbrbu
