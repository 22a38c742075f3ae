/- append on a row of the call's own, told with more: the old slice still owns what it owned; the new one lies where the old one lay, or in a new block. Of whatever program. -/
import Derived.WalkKit
import Derived.WalkSpells
import Derived.WalkSmall
import Derived.Handy
import Derived.Laws.AppendOwnNone
set_option linter.unusedVariables false
set_option linter.unusedSimpArgs false
set_option linter.unnecessarySimpa false
namespace Go
open Go.RowKit

/-- v' lies where v lay, or in a block that is new since w -/
def Near (w : World) (v v' : Value) : Prop := v'.ownBlock = v.ownBlock ∨ ∃ g, v'.ownBlock = some g ∧ w.heap.size ≤ g
def Grew (w w' : World) (v v' : Value) : Prop := w.grownBy w' v.ownBlock ∧ Near w v v'

theorem grownBy_refl (w : World) (r : Option Nat) : w.grownBy w r := ⟨rfl, rfl, rfl, Nat.le_refl _, fun _ _ _ => rfl⟩
theorem Grew.refl (w : World) (v : Value) : Grew w w v v := ⟨grownBy_refl w _, .inl rfl⟩
theorem Grew.size {w w' : World} {v v' : Value} (h : Grew w w' v v') : w.heap.size ≤ w'.heap.size := h.1.size
theorem Grew.trans {w w1 w2 : World} {v v1 v2 : Value} (h : Grew w w1 v v1) (k : Grew w1 w2 v1 v2) : Grew w w2 v v2 := by
  obtain ⟨g, n⟩ := h
  obtain ⟨g', n'⟩ := k
  refine ⟨⟨g'.os.trans g.os, g'.tape.trans g.tape, g'.output.trans g.output, Nat.le_trans g.size g'.size, fun b hb hne => ?_⟩, ?_⟩
  · rw [g'.block b (Nat.lt_of_lt_of_le hb g.size) ?_, g.block b hb hne]
    rcases n with n | ⟨q, n, hq⟩
    · rw [n]; exact hne
    · rw [n]; intro e; cases e; omega
  · rcases n' with n' | ⟨q, n', hq⟩
    · rcases n with n | ⟨q, n, hq⟩
      · exact .inl (n'.trans n)
      · exact .inr ⟨q, n'.trans n, hq⟩
    · exact .inr ⟨q, n', Nat.le_trans g.size hq⟩
/-- a new block laid ahead -/
theorem Grew.after_alloc {w w' : World} {v v' : Value} {o : Obj} (h : Grew (w.alloc o) w' v v') : Grew w w' v v' := by
  obtain ⟨g, n⟩ := h
  have hs : w.heap.size ≤ (w.alloc o).heap.size := by simp
  refine ⟨⟨g.os, g.tape, g.output, Nat.le_trans hs g.size, fun b hb hne => ?_⟩, ?_⟩
  · rw [g.block b (Nat.lt_of_lt_of_le hb hs) hne, Below.heap_alloc _ _ _ hb]
  · rcases n with n | ⟨q, n, hq⟩
    · exact .inl n
    · exact .inr ⟨q, n, Nat.le_trans hs hq⟩
theorem Grew.alloc {w w' : World} {v v' : Value} (h : Grew w w' v v') (o : Obj) : Grew w (w'.alloc o) v v' := by
  obtain ⟨g, n⟩ := h
  refine ⟨⟨g.os, g.tape, g.output, Nat.le_trans g.size (by simp), fun b hb hne => ?_⟩, n⟩
  rw [Below.heap_alloc _ _ _ (Nat.lt_of_lt_of_le hb g.size), g.block b hb hne]
theorem Grew.drew {w w' : World} {v v' : Value} (h : Grew w w' v v') : Grew w w'.drew v v' := ⟨⟨h.1.os, h.1.tape, h.1.output, h.1.size, h.1.block⟩, h.2⟩
theorem Grew.below {B : Nat} {w w' : World} {v v' : Value} (h : Grew w w' v v') (hB : B ≤ w.heap.size) (hv : ∀ k, v.ownBlock = some k → B ≤ k) : Below B w w' :=
  (Below.refl B w).grown h.1 hB hv
theorem Grew.base {w w' : World} {v v' : Value} {B : Nat} (h : Grew w w' v v') (hB : B ≤ w.heap.size) (hv : ∀ k, v.ownBlock = some k → B ≤ k) : ∀ k, v'.ownBlock = some k → B ≤ k := by
  intro k hk
  rcases h.2 with n | ⟨q, n, hq⟩
  · exact hv k (n ▸ hk)
  · rw [n] at hk; cases hk; omega
/-- another row is kept -/
theorem Grew.keeps {w w' : World} {v v' u : Value} {base e size n : Nat} {xs : List Value} (h : Grew w w' v v') (hu : w.ownsRow base e size u n xs) (hne : u.ownBlock = none ∨ u.ownBlock ≠ v.ownBlock) : w'.ownsRow base e size u n xs :=
  hu.kept h.1 hne
/-- and stays apart -/
theorem Grew.apart {w w' : World} {v v' u : Value} {base e size n : Nat} {xs : List Value} (h : Grew w w' v v') (hu : w.ownsRow base e size u n xs) (hne : u.ownBlock = none ∨ u.ownBlock ≠ v.ownBlock) : u.ownBlock = none ∨ u.ownBlock ≠ v'.ownBlock := by
  rcases hne with h0 | hne
  · exact .inl h0
  · cases hk : u.ownBlock with
    | none => exact .inl rfl
    | some k =>
      right
      have hlt := (hu.lt k hk).2
      rcases h.2 with n | ⟨q, n, hq⟩
      · rw [n, ← hk]; exact hne
      · rw [n]; intro e; cases e; omega

section
variable {P : Program} (w : World)
theorem run_app (base : Nat) (t ty e : TypeId) (i : TypeInfo) (z : Value) (size bytes : Nat) (ht : P.underlying t = some (.slice e)) (hi : P.info? e = some i) (hz : i.zero = some z)
    (hsize : i.size = size) (hby : i.bytes = bytes) (hzs : z.cells.size = size) (hsz : 0 < size)
    (v : Value) (n : Nat) (xs : List Value) (hown : w.ownsRow base e size v n xs)
    (ao : Option Addr) (m c : Nat) (news : List Value) (hl : news.length = m * size) (hnone : ao = none → c = 0) (hnews : ∀ j u, news[j]? = some u → ∃ a, ao = some a ∧ w.cell? (a.add j) = some u) (h1 : ∀ u ∈ news, u.oneCell' = true)
    (h63 : n + m ≤ maxLen) (hbytes : (n + m) * bytes ≤ 140737488355328) (hbase : base ≤ w.heap.size) :
    ∃ v' w', (Builtin.append_ #[t, t] ty #[v, .slice ao m c]).run P w = .ok v' w' ∧ w'.ownsRow base e size v' (n + m) (xs ++ news) ∧ w'.ownsRow base e size v n xs ∧ Grew w w' v v' := by
  cases ao with
  | none =>
    have hc := hnone rfl
    have hn : news = [] := by
      cases news with
      | nil => rfl
      | cons x l => obtain ⟨a, h, _⟩ := hnews 0 x rfl; cases h
    subst hn
    have hm : m = 0 := by
      have : m * size = 0 := by simpa using hl.symm
      rcases Nat.mul_eq_zero.1 this with h | h
      · exact h
      · omega
    subst hm
    subst hc
    exact ⟨v, w, run_append_owned_none w base t ty e i size ht hi v n xs hown, by simpa using hown, hown, Grew.refl _ _⟩
  | some a =>
  have hnews : ∀ j u, news[j]? = some u → w.cell? (a.add j) = some u := fun j u hu => by obtain ⟨a', h, hc⟩ := hnews j u hu; cases h; exact hc
  subst hsize
  subst hby
  have hsmall : n + m ≤ 9223372036854775807 := by simp only [maxLen] at h63; omega
  have hlen : (xs ++ news).length = (n + m) * i.size := by rw [List.length_append, hown.1, hl, Nat.add_mul]
  have grown : ∀ (old : Nat), old < n + m →
      (w.drew.alloc (.cells (xs.toArray ++ news.toArray ++ Builtin.zeroCells z.cells (grownCap w (n + m) old e - (n + m))) e)).ownsRow base e i.size
        (.slice (some ⟨w.heap.size, 0, none⟩) (n + m) (grownCap w (n + m) old e)) (n + m) (xs ++ news) ∧
      Grew w (w.drew.alloc (.cells (xs.toArray ++ news.toArray ++ Builtin.zeroCells z.cells (grownCap w (n + m) old e - (n + m))) e)) v (.slice (some ⟨w.heap.size, 0, none⟩) (n + m) (grownCap w (n + m) old e)) := by
    intro old ho
    have hge := grownCap_ge w (n + m) old e
    have hcm : grownCap w (n + m) old e ≤ maxLen := grownCap_le_maxLen w (n + m) old e h63
    refine ⟨⟨hlen, .inr ⟨w.heap.size, _, _, rfl, hbase, heap_alloc_new w.drew _, hge, hcm, ?_, ?_⟩⟩, ⟨rfl, rfl, rfl, by simp, fun k hk _ => Below.heap_alloc w.drew _ k hk⟩, .inr ⟨w.heap.size, rfl, Nat.le_refl _⟩⟩
    · simp only [Array.size_append, List.size_toArray, size_zeroCells, hzs, hown.1, hl, ← Nat.add_mul]
      congr 1
      omega
    · simp only [Array.toList_append, List.append_assoc]
      rw [← List.append_assoc, ← hlen]
      exact List.take_left
  rcases hown.2 with ⟨rfl, rfl⟩ | ⟨g, cap, cur, rfl, hbg, hg, hnc, hcm, hcs, htake⟩
  · have hx : xs = [] := List.eq_nil_of_length_eq_zero (by simpa using hown.1)
    subst hx
    by_cases hm : m = 0
    · subst hm
      have hn : news = [] := List.eq_nil_of_length_eq_zero (by simpa using hl)
      subst hn
      refine ⟨.slice none 0 0, w, ?_, World.ownsRow_nil w base e i.size, World.ownsRow_nil w base e i.size, Grew.refl _ _⟩
      simp [Builtin.append_, run_underlying ht, sizeOf, typeInfo, hi, Builtin.lenOf, Builtin.firstCells, loadCells, loadCellsFrom]
    · have hr := run_append_nil (P := P) w t ty e i z ht hi hz a m c news hl hnews (by omega) (by omega) (by have hb := hbytes; simp only [Nat.zero_add] at hb; omega)
      have hgr := grown 0 (by omega)
      simp only [Nat.zero_add, List.nil_append, Array.empty_append] at hgr ⊢
      exact ⟨_, _, hr, hgr.1, World.ownsRow_nil _ base e i.size, hgr.2⟩
  · by_cases hroom : n + m ≤ cap
    · have hfit : n * i.size + news.length ≤ cur.size := by rw [hl, hcs, ← Nat.add_mul]; exact Nat.mul_le_mul_right _ hroom
      have hr := run_append_room (P := P) w t ty e i ht hi g n cap cur hg a m c news hl hnews h1 hroom hfit
      have hsz' : (cur.toList.take (n * i.size) ++ news ++ cur.toList.drop (n * i.size + news.length)).toArray.size = cap * i.size := by
        simp only [List.size_toArray, List.length_append, List.length_take, List.length_drop, Array.length_toList]
        omega
      refine ⟨_, _, hr, ⟨hlen, .inr ⟨g, cap, _, rfl, hbg, setRow_heap w g cur _ e _ hg, hroom, hcm, hsz', ?_⟩⟩, ⟨hown.1, .inr ⟨g, cap, _, rfl, hbg, setRow_heap w g cur _ e _ hg, hnc, hcm, hsz', ?_⟩⟩, ⟨rfl, rfl, rfl, by simp, fun k _ hk => setRow_other w g k _ (fun e => hk (by simp [Value.ownBlock, e]))⟩, .inl rfl⟩
      · rw [htake, ← hlen]
        exact List.take_left
      · show (cur.toList.take (n * i.size) ++ news ++ cur.toList.drop (n * i.size + news.length)).take (n * i.size) = xs
        rw [htake, List.append_assoc, ← hown.1]
        exact List.take_left
    · have holds : ∀ j u, xs[j]? = some u → w.cell? ((⟨g, 0, none⟩ : Addr).add j) = some u := hown.cells (g := g) rfl
      have hr := run_append_grow (P := P) w t ty e i z ht hi hz ⟨g, 0, none⟩ n cap xs hown.1 holds a m c news hl hnews (by omega) (by omega) (growslice_fits (by omega) hbytes)
      have hgr := grown cap (by omega)
      refine ⟨_, _, hr, hgr.1, ?_, hgr.2⟩
      exact hown.kept (w' := _) (row := none) ⟨rfl, rfl, rfl, by simp, fun k hk _ => Below.heap_alloc w.drew _ k hk⟩ (.inr (by simp [Value.ownBlock]))

theorem wpList_app {ops : Array Oper} {rest : List Oper} {o : Oper} {a : Act} {Q : Exit → Act → World → Prop} (hgd : o.guard = none) (s x : Operand) (t : TypeId)
    (ho : o.op = .call { callee := .builtin .append, args := #[s, x], argTypes := #[t, t] })
    (base : Nat) (e : TypeId) (i : TypeInfo) (z : Value) (size bytes : Nat) (ht : P.underlying t = some (.slice e)) (hi : P.info? e = some i) (hz : i.zero = some z)
    (hsize : i.size = size) (hby : i.bytes = bytes) (hzs : z.cells.size = size) (hsz : 0 < size)
    (v : Value) (n : Nat) (xs : List Value) (hs : a.eval s = v) (hown : w.ownsRow base e size v n xs)
    (ao : Option Addr) (m c : Nat) (news : List Value) (hx : a.eval x = .slice ao m c) (hl : news.length = m * size) (hnone : ao = none → c = 0) (hnews : ∀ j u, news[j]? = some u → ∃ a, ao = some a ∧ w.cell? (a.add j) = some u) (h1 : ∀ u ∈ news, u.oneCell' = true)
    (h63 : n + m ≤ maxLen) (hbytes : (n + m) * bytes ≤ 140737488355328) (hbase : base ≤ w.heap.size)
    (h : ∀ v' w', w'.ownsRow base e size v' (n + m) (xs ++ news) → w'.ownsRow base e size v n xs → Grew w w' v v' → wpList P ops Q rest (a.put o.dst v') w') : wpList P ops Q (o :: rest) a w := by
  refine wpList_plain hgd fun K hK => ?_
  obtain ⟨v', w', hr, h2, h3, h4⟩ := run_app (P := P) w base t o.type e i z size bytes ht hi hz hsize hby hzs hsz v n xs hown ao m c news hl hnone hnews h1 h63 hbytes hbase
  unfold Oper.wp execOp
  simp only [ho, resolve, invoke, builtin, Sem.run_bind, Sem.run_pure, Result.andThen_ok, List.map_toArray, List.map_cons, List.map_nil, hs, hx, hr]
  exact hK _ _ (h v' w' h2 h3 h4)
end
/-- a slice whose elements open another's, kept while that one grows -/
theorem own_keep {w w' : World} {base e size n n1 : Nat} {v v1 v2 : Value} {xs ys : List Value} (hsz : 0 < size) (h : w.ownsRow base e size v n xs) (h1 : w.ownsRow base e size v1 n1 (xs ++ ys)) (hg : Grew w w' v1 v2) (h2 : w'.ownsRow base e size v1 n1 (xs ++ ys)) : w'.ownsRow base e size v n xs := by
  by_cases hne : v.ownBlock = none ∨ v.ownBlock ≠ v1.ownBlock
  · exact hg.keeps h hne
  · have h0 : v.ownBlock ≠ none := fun k => hne (.inl k)
    have he : v.ownBlock = v1.ownBlock := Decidable.byContradiction fun k => hne (.inr k)
    rcases h.2 with ⟨rfl, _⟩ | ⟨g, cap, cur, rfl, hbg, hh, hnc, hcm, hcs, htake⟩
    · simp [Value.ownBlock] at h0
    rcases h1.2 with ⟨rfl, _⟩ | ⟨g1, cap1, cur1, rfl, _, hh1, hnc1, hcm1, hcs1, _⟩
    · simp [Value.ownBlock] at he
    simp [Value.ownBlock] at he
    subst he
    rw [hh] at hh1
    simp at hh1
    subst hh1
    have hcap : cap = cap1 := Nat.eq_of_mul_eq_mul_right hsz (hcs.symm.trans hcs1)
    subst hcap
    rcases h2.2 with ⟨h3, _⟩ | ⟨g2, cap2, cur2, h3, _, hh2, hnc2, hcm2, hcs2, htake2⟩
    · cases h3
    cases h3
    refine ⟨h.1, .inr ⟨g, cap, cur2, rfl, hbg, hh2, hnc, hcm, hcs2, ?_⟩⟩
    have hle : n * size ≤ n1 * size := by
      have := h1.1
      rw [List.length_append, h.1] at this
      omega
    have : (cur2.toList.take (n1 * size)).take (n * size) = (xs ++ ys).take (n * size) := by rw [htake2]
    rw [List.take_take, Nat.min_eq_left hle] at this
    rw [this, ← h.1]
    exact List.take_left
/-- two slices that lie in different blocks -/
def Apart (u v : Value) : Prop := u.ownBlock = none ∨ u.ownBlock ≠ v.ownBlock
theorem Apart.symm {u v : Value} (h : Apart u v) : Apart v u := by
  rcases h with h | h
  · cases hv : v.ownBlock with
    | none => exact .inl hv
    | some k => right; rw [hv, h]; simp
  · right; exact fun e => h e.symm
theorem Grew.apart' {w w' : World} {v v' u : Value} {base e size n : Nat} {xs : List Value} (h : Grew w w' v v') (hu : w.ownsRow base e size u n xs) (hne : Apart u v) : Apart u v' := h.apart hu hne
theorem Grew.after_drew {w w' : World} {v v' : Value} (h : Grew w.drew w' v v') : Grew w w' v v' := ⟨⟨h.1.os, h.1.tape, h.1.output, h.1.size, h.1.block⟩, h.2⟩
end Go
