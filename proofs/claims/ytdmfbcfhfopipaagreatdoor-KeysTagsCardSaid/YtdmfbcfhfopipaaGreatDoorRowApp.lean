/- A row of bytes that the call made ('[]byte(s)' or an append's), told by its cells: a byte appended to it; its text. -/
import Derived.Test.YtdmfbcfhfopipaaGreatDoorTell
import Derived.ArgAppend
namespace Go.Proofs.YtdmfbcfhfopipaaGreatDoor
open Go.RowKit

/-- v is a row of the call's own that holds these bytes; what lies behind them may be written. -/
def ByAt (base : Nat) (v : Value) (l : List UInt8) (w : World) : Prop :=
  ∃ g cap, v = .slice (some ⟨g, 0, none⟩) l.length cap ∧ base ≤ g ∧ g < w.heap.size ∧ l.length ≤ cap ∧ cap ≤ maxLen ∧ (∀ j, j < l.length → w.cell? ⟨g, j, none⟩ = some (bv (l.getD j 0))) ∧
    ∀ j, l.length ≤ j → j < cap → (w.cell? ⟨g, j, none⟩).isSome = true ∧ w.frozen? ⟨g, j, none⟩ = false
theorem byAt_new (w : World) (s : ByteArray) (hs : s.size ≤ 1000000) : ByAt w.heap.size (.slice (some ⟨w.heap.size, 0, none⟩) s.size (grownCap w s.size 0 5)) s.data.toList (Lib.bytesWorld w 5 s) := by
  have hge := grownCap_ge w s.size 0 5
  have hle := grownCap_le_maxLen w s.size 0 5 (by simp only [maxLen]; omega)
  have hl : s.data.toList.length = s.size := by simp
  have hsz : (Lib.bytesCells w 5 s).size = grownCap w s.size 0 5 := by
    simp only [Lib.bytesCells, Array.size_append, Array.size_map, Array.size_replicate]
    show s.size + _ = _; omega
  refine ⟨w.heap.size, _, by rw [hl], Nat.le_refl _, by rw [Lib.bytesWorld_size]; omega, by rw [hl]; exact hge, hle, fun j hj => ?_, fun j h1 h2 => ⟨?_, ?_⟩⟩
  · exact Lib.bytesWorld_cell w 5 s j (by rw [hl] at hj; exact hj)
  · simp only [World.cell?, Lib.bytesWorld_at_new]
    simp [hsz, h2]
  · simp only [World.frozen?, Lib.bytesWorld_at_new, hsz]
    simp; omega
theorem ByAt.string {base : Nat} {v : Value} {l : List UInt8} {w : World} (h : ByAt base v l w) : (convert 41 9 v).run Tryz.prog w = .ok (.string ⟨l.toArray⟩) w := by
  obtain ⟨g, cap, rfl, _, _, _, _, hc, _⟩ := h
  have := run_convert_bytes_arg (P := Tryz.prog) w 41 5 Tryz.underlying41 Tryz.underlying5 g 0 l.length cap (l.map fun b => (b.toNat : Int)) (by simp) (by
    intro i hi
    rw [Nat.zero_add, hc i hi]
    simp [bv, List.getD, List.getElem?_eq_getElem hi]) 9 Tryz.underlying9
  have e : strOfNums (l.map fun b => (b.toNat : Int)) = ⟨l.toArray⟩ := by
    show (⟨((l.map fun b => (b.toNat : Int)).map fun n => UInt8.ofNat n.toNat).toArray⟩ : ByteArray) = ⟨l.toArray⟩
    rw [List.map_map]
    have e : ((fun n : Int => UInt8.ofNat n.toNat) ∘ fun b : UInt8 => (b.toNat : Int)) = id := by
      funext b
      simp
    rw [e, List.map_id]
  rw [this, e]
theorem ByAt.slice {base : Nat} {v : Value} {l : List UInt8} {w : World} (h : ByAt base v l w) : ∃ g cap, v = .slice (some ⟨g, 0, none⟩) l.length cap := by
  obtain ⟨g, cap, e, _⟩ := h
  exact ⟨g, cap, e⟩
theorem byAt_append {ops : Array Oper} {rest : List Oper} {o : Oper} {a : Act} {Q : Exit → Act → World → Prop} {base : Nat} {v : Value} {l : List UInt8} {w0 W : World} (HO : ByAt base v l W) (HB : Below base w0 W) (hbase : base ≤ W.heap.size) (x : UInt8) (hl : l.length ≤ 10000000)
    (hgd : o.guard = none) (s y : Operand) (ho : o.op = .call { callee := .builtin .append, args := #[s, y], argTypes := #[41, 41] }) (cs : Array Value) (m c : Nat) (hs : a.eval s = v) (hx : a.eval y = .slice (some ⟨W.heap.size, 0, none⟩) m c) (hcs : cs = #[bv x]) (hm : m = 1)
    (h : ∀ v1 w1, ByAt base v1 (l ++ [x]) w1 → Below base w0 w1 → base ≤ w1.heap.size → wpList Tryz.prog ops Q rest (a.put o.dst v1) w1) : wpList Tryz.prog ops Q (o :: rest) a (W.alloc (.cells cs 5)) := by
  subst hcs hm
  obtain ⟨g, cap, rfl, hg, hlt, hlc, hmax, hc, hf⟩ := HO
  obtain ⟨i0, hi, hzz⟩ := Option.map_eq_some_iff.1 info_u8b
  simp only [Prod.mk.injEq] at hzz
  obtain ⟨hz0, hz1, hz2⟩ := hzz
  have hne : g ≠ W.heap.size := by omega
  have hcell : ∀ j, (W.alloc (.cells #[bv x] 5)).cell? ⟨g, j, none⟩ = W.cell? ⟨g, j, none⟩ := fun j => World.cell?_alloc_old _ _ _ hne
  have hfro : ∀ j, (W.alloc (.cells #[bv x] 5)).frozen? ⟨g, j, none⟩ = W.frozen? ⟨g, j, none⟩ := fun j =>
    World.frozen?_of_block (w := W) (a := ⟨g, j, none⟩) (Below.heap_alloc _ _ _ hlt)
  have hnew : ∀ j u, [bv x][j]? = some u → (W.alloc (.cells #[bv x] 5)).cell? ((⟨W.heap.size, 0, none⟩ : Addr).add j) = some u :=
    World.news_of_block (cs := #[bv x]) (t := 5) (fr := (0, 0)) (heap_alloc_new W _)
  have h1 : ∀ u ∈ [bv x], u.oneCell' = true := by intro u hu; simp at hu; obtain rfl := hu; rfl
  have hll : (l ++ [x]).length = l.length + 1 := by simp
  have hB1 := HB.alloc hbase (.cells #[bv x] 5)
  refine wpList_plain hgd fun K hK => ?_
  by_cases hroom : l.length + 1 ≤ cap
  · have hr := run_append_room_cells (P := Tryz.prog) (W.alloc (.cells #[bv x] 5)) 41 o.type 5 i0 Tryz.underlying41 hi g 0 l.length cap ⟨W.heap.size, 0, none⟩ 1 c [bv x] (by simp [hz1]) hnew h1 hroom
      (by intro j hj; obtain rfl : j = 0 := by simpa using hj
          rw [hz1, Nat.mul_one, Nat.zero_add, Nat.add_zero, hcell]; exact (hf _ (Nat.le_refl _) (by omega)).1)
      (by intro j hj; obtain rfl : j = 0 := by simpa using hj
          rw [hz1, Nat.mul_one, Nat.zero_add, Nat.add_zero, hfro]; exact (hf _ (Nat.le_refl _) (by omega)).2)
    rw [hz1, Nat.mul_one, Nat.zero_add] at hr
    unfold Oper.wp execOp
    simp only [ho, resolve, invoke, builtin, Sem.run_bind, Sem.run_pure, Result.andThen_ok, List.map_toArray, List.map_cons, List.map_nil, hs, hx, hr]
    refine hK _ _ (h _ _ ⟨g, cap, by rw [hll], hg, ?_, by rw [hll]; exact hroom, hmax, fun j hj => ?_, fun j h1 h2 => ?_⟩ (hB1.setCell (p := ⟨g, l.length, none⟩) hg _) ?_)
    · show g < ((W.alloc _).setCell _ _).heap.size
      simp; omega
    · show ((W.alloc _).setCell ⟨g, l.length, none⟩ (bv x)).cell? _ = _
      rw [hll] at hj
      by_cases e : j = l.length
      · subst e
        obtain ⟨u, hu⟩ := Option.isSome_iff_exists.1 (hf _ (Nat.le_refl _) (by omega)).1
        rw [World.cell?_setCell_same _ _ _ ((hcell _).trans hu)]
        simp [List.getD]
      · rw [World.cell?_setCell_other _ _ _ _ (by intro h; cases h; exact e rfl), hcell, hc j (by omega)]
        simp [List.getD, List.getElem?_append_left (show j < l.length by omega)]
    · show (((W.alloc _).setCell ⟨g, l.length, none⟩ (bv x)).cell? _).isSome = true ∧ ((W.alloc _).setCell ⟨g, l.length, none⟩ (bv x)).frozen? _ = false
      rw [hll] at h1
      rw [World.cell?_setCell_other _ _ _ _ (by intro h; cases h; omega), World.frozen?_setCell, hcell, hfro]
      exact hf j (by omega) h2
    · show base ≤ ((W.alloc _).setCell _ _).heap.size
      simp; omega
  · have holds : ∀ j u, (l.map bv)[j]? = some u → (W.alloc (.cells #[bv x] 5)).cell? ((⟨g, 0, none⟩ : Addr).add j) = some u := by
      intro j u hu
      have hj : j < l.length := by
        rcases Nat.lt_or_ge j l.length with h | h
        · exact h
        · rw [List.getElem?_eq_none (by simpa using h)] at hu; cases hu
      have e : (⟨g, 0, none⟩ : Addr).add j = ⟨g, j, none⟩ := by unfold Addr.add; split <;> simp_all
      rw [e, hcell, hc j hj, ← hu]
      simp [List.getD, List.getElem?_eq_getElem hj]
    have hr := run_append_grow (P := Tryz.prog) (W.alloc (.cells #[bv x] 5)) 41 o.type 5 i0 (.int .u8 0) Tryz.underlying41 hi hz0 ⟨g, 0, none⟩ l.length cap (l.map bv) (by simp [hz1]) holds ⟨W.heap.size, 0, none⟩ 1 c [bv x] (by simp [hz1]) hnew
      (by omega) (by omega) (growslice_fits (by omega) (by rw [hz2]; omega))
    have hge := grownCap_ge (W.alloc (.cells #[bv x] 5)) (l.length + 1) cap 5
    have hle := grownCap_le_maxLen (W.alloc (.cells #[bv x] 5)) (l.length + 1) cap 5 (by simp only [maxLen]; omega)
    generalize grownCap (W.alloc (.cells #[bv x] 5)) (l.length + 1) cap 5 = cap' at hr hge hle
    unfold Oper.wp execOp
    simp only [ho, resolve, invoke, builtin, Sem.run_bind, Sem.run_pure, Result.andThen_ok, List.map_toArray, List.map_cons, List.map_nil, hs, hx, hr]
    have hz : (Builtin.zeroCells (Value.int .u8 0).cells (cap' - (l.length + 1))).size = cap' - (l.length + 1) := by rw [size_zeroCells]; simp [Value.cells]
    generalize hcs : ((l.map bv).toArray ++ [bv x].toArray ++ Builtin.zeroCells (Value.int .u8 0).cells (cap' - (l.length + 1))) = cs
    have hcsz : cs.size = cap' := by rw [← hcs]; simp only [Array.size_append, hz]; simp; omega
    have hblk : Blk ((W.alloc (.cells #[bv x] 5)).drew.alloc (.cells cs 5)) (W.alloc (.cells #[bv x] 5)).heap.size cs 5 := Blk.new (W.alloc (.cells #[bv x] 5)).drew cs 5
    refine hK _ _ (h _ _ ⟨(W.alloc (.cells #[bv x] 5)).heap.size, cap', by rw [hll], by simp; omega, hblk.lt, by rw [hll]; exact hge, hle, fun j hj => ?_, fun j h1 h2 => ⟨?_, hblk.free j⟩⟩ ((hB1.drew).alloc (by show base ≤ (W.alloc _).heap.size; simp; omega) _) (by show base ≤ ((W.alloc (.cells #[bv x] 5)).drew.alloc (.cells cs 5)).heap.size; simp; omega))
    · rw [hblk.cell j, ← hcs]
      rw [hll] at hj
      rw [Array.getElem?_append_left (by simp; omega)]
      by_cases e : j = l.length
      · subst e
        rw [Array.getElem?_append_right (by simp)]
        simp [List.getD]
      · rw [Array.getElem?_append_left (by simp; omega)]
        simp [List.getD, List.getElem?_append_left (show j < l.length by omega), show j < l.length by omega]
    · rw [hblk.cell j, Array.getElem?_eq_getElem (by omega)]; rfl
end Go.Proofs.YtdmfbcfhfopipaaGreatDoor
