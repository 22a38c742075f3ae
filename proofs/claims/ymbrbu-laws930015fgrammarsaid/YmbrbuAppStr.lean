/- 'append(b, s...)', b a row of bytes of the call's own, s a string -/
import Derived.Test.YmbrbuScanWalk
import Derived.Deep.AppendSrc
set_option linter.unusedVariables false
set_option linter.unusedSimpArgs false
set_option linter.unnecessarySimpa false
namespace Go.Proofs.Ymbrbu
open Go.RowKit Go.Deep

theorem byteCells_sb (s : ByteArray) : byteCells s = (sb s).map (Value.int .u8) := by
  simp [byteCells, sb]

section
variable {P : Program} (w : World)
theorem run_room_str (t tx ty e : TypeId) (i : TypeInfo) (ht : P.underlying t = some (.slice e)) (hx : P.underlying tx = some .string) (hi : P.info? e = some i) (hsz : i.size = 1)
    (g sLen sCap : Nat) (cur : Array Value) (hg : w.heap[g]? = some (.cells cur e (0, 0))) (s : ByteArray)
    (hroom : sLen + s.size ≤ sCap) (hfit : sLen + s.size ≤ cur.size) :
    (Builtin.append_ #[t, tx] ty #[.slice (some ⟨g, 0, none⟩) sLen sCap, .string s]).run P w =
      .ok (.slice (some ⟨g, 0, none⟩) (sLen + s.size) sCap) (w.setRow g (cur.toList.take sLen ++ byteCells s ++ cur.toList.drop (sLen + s.size)).toArray) := by
  have hl := byteCells_length s
  have hf : (Builtin.firstCells 1 s.size (.string s)).run P w = .ok (byteCells s).toArray w := firstCells_string s w
  have hst := run_storeCells_at P g sLen e (byteCells s) 0 cur w hg (by rw [hl]; simpa using hfit) (fun u hu => by
    obtain ⟨_, _, rfl⟩ := List.mem_map.1 hu
    rfl)
  simp only [Nat.add_zero, hl] at hst
  simp [Builtin.append_, run_underlying ht, run_underlying hx, sizeOf, typeInfo, hi, hsz, Builtin.lenOf, hroom, hf, Addr.add_lit, hst]

theorem run_app_str (base : Nat) (t tx ty e : TypeId) (i : TypeInfo) (ht : P.underlying t = some (.slice e)) (hx : P.underlying tx = some .string) (hi : P.info? e = some i) (hz : i.zero = some (.int .u8 0))
    (hsize : i.size = 1) (hby : i.bytes = 1) (v : Value) (zs : List Int) (hown : OwnI e .u8 w base v zs) (s : ByteArray)
    (hlen : zs.length + s.size < 1000000000000) (hbase : base ≤ w.heap.size) :
    ∃ v' w', (Builtin.append_ #[t, tx] ty #[v, .string s]).run P w = .ok v' w' ∧ OwnI e .u8 w' base v' (zs ++ sb s) ∧ OwnI e .u8 w' base v zs ∧ Grew w w' v v' := by
  have hsl := sb_len s
  have hbl := byteCells_length s
  have hxl : (zs.map (Value.int .u8) ++ byteCells s).length = (zs ++ sb s).length * 1 := by simp [hbl, hsl]
  have hxe : (zs ++ sb s).map (Value.int .u8) = zs.map (Value.int .u8) ++ byteCells s := by rw [List.map_append, byteCells_sb]
  have hnl : (zs ++ sb s).length = zs.length + s.size := by rw [List.length_append, hsl]
  have hown' := hown
  obtain ⟨h1, h2⟩ := hown'
  have hgrow : ∀ (ao : Option Addr) (cap : Nat), v = .slice ao zs.length cap → cap < zs.length + s.size →
      (Builtin.firstCells i.size zs.length (.slice ao zs.length cap)).run P w.drew = .ok (zs.map (Value.int .u8)).toArray w.drew → 
      ∃ v' w', (Builtin.append_ #[t, tx] ty #[v, .string s]).run P w = .ok v' w' ∧ OwnI e .u8 w' base v' (zs ++ sb s) ∧ OwnI e .u8 w' base v zs ∧ Grew w w' v v' := by
    intro ao cap hv hlt hold
    subst hv
    have hsrc : Src P i.size tx (.string s) s.size (byteCells s) w := by rw [hsize]; exact Src.ofString w hx s
    have hr := run_append_grow_src (P := P) w t tx ty e i (.int .u8 0) ht hi hz ao zs.length cap (zs.map (Value.int .u8)) hold (.string s) s.size (byteCells s) hsrc hlt (by omega) (growslice_fits (by omega) (by rw [hby]; omega))
    have hge := grownCap_ge w (zs.length + s.size) cap e
    have hcm : grownCap w (zs.length + s.size) cap e ≤ maxLen := grownCap_le_maxLen w (zs.length + s.size) cap e (by unfold maxLen; omega)
    refine ⟨_, _, hr, ?_, ?_, ⟨⟨rfl, rfl, rfl, by simp, fun k hk _ => Below.heap_alloc w.drew _ k hk⟩, .inr ⟨w.heap.size, rfl, Nat.le_refl _⟩⟩⟩
    · unfold OwnI
      rw [hnl, hxe]
      refine ⟨by rw [hxl, hnl], .inr ⟨w.heap.size, _, _, rfl, hbase, heap_alloc_new w.drew _, hge, hcm, ?_, ?_⟩⟩
      · simp only [Array.size_append, List.size_toArray, size_zeroCells, List.length_append, List.length_map, hbl]
        show zs.length + s.size + (grownCap w (zs.length + s.size) cap e - (zs.length + s.size)) * 1 = _
        omega
      · rw [Array.toList_append]
        have : (zs.length + s.size) * 1 = (zs.map (Value.int .u8) ++ byteCells s).length := by simp [hbl]
        rw [this]
        exact List.take_left
    · exact World.ownsRow.kept (row := none) hown ⟨rfl, rfl, rfl, by simp, fun k hk _ => Below.heap_alloc w.drew _ k hk⟩ (by cases hb : (Value.slice ao zs.length cap).ownBlock <;> simp)
  rcases h2 with ⟨rfl, h0⟩ | ⟨g, cap, cur, rfl, hbg, hg, hnc, hcm, hcs, htake⟩
  · have hz0 : zs = [] := List.eq_nil_of_length_eq_zero h0
    subst hz0
    by_cases hs0 : s.size = 0
    · have he : sb s = [] := List.eq_nil_of_length_eq_zero (by omega)
      refine ⟨.slice none 0 0, w, ?_, by rw [he]; exact OwnI.nil _ _, OwnI.nil _ _, Grew.refl _ _⟩
      have hf : (Builtin.firstCells 1 0 (.string s)).run P w = .ok (byteCells s).toArray w := by have := firstCells_string (P := P) s w; rw [hs0] at this; exact this
      simp [Builtin.append_, run_underlying ht, run_underlying hx, sizeOf, typeInfo, hi, hsize, Builtin.lenOf, hs0, hf]
    · exact hgrow none 0 rfl (by simp; omega) (by simp [Builtin.firstCells, loadCells, loadCellsFrom])
  · by_cases hroom : zs.length + s.size ≤ cap
    · have hr := run_room_str (P := P) w t tx ty e i ht hx hi hsize g zs.length cap cur hg s hroom (by omega)
      have hsz' : (cur.toList.take zs.length ++ byteCells s ++ cur.toList.drop (zs.length + s.size)).toArray.size = cap * 1 := by
        simp only [List.size_toArray, List.length_append, List.length_take, List.length_drop, Array.length_toList, hbl]
        omega
      rw [Nat.mul_one] at htake
      refine ⟨_, _, hr, ?_, ?_, ⟨rfl, rfl, rfl, by simp, fun k _ hk => setRow_other w g k _ (fun e => hk (by simp [Value.ownBlock, e]))⟩, .inl rfl⟩
      · unfold OwnI
        rw [hnl, hxe]
        refine ⟨by rw [hxl, hnl], .inr ⟨g, cap, _, rfl, hbg, setRow_heap w g cur _ e _ hg, hroom, hcm, hsz', ?_⟩⟩
        show (cur.toList.take zs.length ++ byteCells s ++ cur.toList.drop (zs.length + s.size)).take ((zs.length + s.size) * 1) = _
        rw [htake]
        have : (zs.length + s.size) * 1 = (zs.map (Value.int .u8) ++ byteCells s).length := by simp [hbl]
        rw [this]
        exact List.take_left
      · refine ⟨by simp, .inr ⟨g, cap, _, rfl, hbg, setRow_heap w g cur _ e _ hg, hnc, hcm, hsz', ?_⟩⟩
        show (cur.toList.take zs.length ++ byteCells s ++ cur.toList.drop (zs.length + s.size)).take (zs.length * 1) = _
        rw [htake, List.append_assoc]
        have : zs.length * 1 = (zs.map (Value.int .u8)).length := by simp
        rw [this]
        exact List.take_left
    · refine hgrow _ cap rfl (by omega) ?_
      have holds : ∀ j u, (zs.map (Value.int .u8))[j]? = some u → w.drew.cell? ((⟨g, 0, none⟩ : Addr).add j) = some u := World.ownsRow.cells hown (g := g) rfl
      rw [hsize]
      exact run_firstCells_some w.drew 1 zs.length ⟨g, 0, none⟩ zs.length cap (zs.map (Value.int .u8)) (by simp) holds
end

theorem app_str (w : World) {ops : Array Oper} {rest : List Oper} {o : Oper} {a : Act} {Q : Exit → Act → World → Prop} (hgd : o.guard = none) (s x : Operand)
    (ho : o.op = .call { callee := .builtin .append, args := #[s, x], argTypes := #[22, 9] })
    (base : Nat) (v : Value) (zs : List Int) (hs : a.eval s = v) (hown : OwnB w base v zs) (str : ByteArray) (hx : a.eval x = .string str)
    (hlen : zs.length + str.size < 1000000000000) (hbase : base ≤ w.heap.size)
    (h : ∀ v' w', OwnB w' base v' (zs ++ sb str) → OwnB w' base v zs → Grew w w' v v' → wpList Ybum.prog ops Q rest (a.put o.dst v') w') : wpList Ybum.prog ops Q (o :: rest) a w := by
  obtain ⟨i0, hi, hz0, hz1, hz2⟩ := info_parts Ybum.infoU8
  refine wpList_plain hgd fun K hK => ?_
  obtain ⟨v', w', hr, h2, h3, h4⟩ := run_app_str (P := Ybum.prog) w base 22 9 o.type 5 i0 Ybum.underlying22 Ybum.underlying9 hi hz0 hz1 hz2 v zs hown str hlen hbase
  unfold Oper.wp execOp
  simp only [ho, resolve, invoke, builtin, Sem.run_bind, Sem.run_pure, Result.andThen_ok, List.map_toArray, List.map_cons, List.map_nil, hs, hx, hr]
  exact hK _ _ (h v' w' h2 h3 h4)
end Go.Proofs.Ymbrbu
