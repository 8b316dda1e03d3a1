/- name.Lower. -/
import Derived.Test.YtdmfbcfhfopipaaGreatDoorNameRight
import Derived.Deep.WholeRow
namespace Go.Proofs.YtdmfbcfhfopipaaGreatDoor
open Go.RowKit Go.Shelf
attribute [local go_sem] Oper.semAt_some

/-- A byte as a small letter. -/
def smallB (b : UInt8) : UInt8 := if 65 ≤ b ∧ b ≤ 90 then b ||| 32 else b

theorem info_u8 : (Tryz.prog.info? 5).map (fun i => (i.zero, i.size, i.bytes)) = some (some (.int .u8 0), 1, 1) := by kernel_rfl

theorem madeCells_one (z : Value) (n : Nat) : madeCells #[z] n = Array.replicate n z := by
  apply Array.ext
  · simp [madeCells]
  · intro i h1 h2
    simp [madeCells, Nat.mod_one]

theorem make_u8 (n : Nat) (hn : n ≤ 281474976710656) (w : World) : (Instr.makeSlice 41 (.int .i64 (n : Int)) (.int .i64 (n : Int))).run Tryz.prog w = .ok (.slice (some ⟨w.heap.size, 0, none⟩) n n) (w.alloc (.cells (Array.replicate n (.int .u8 0)) 5)) := by
  obtain ⟨i, hi, h0, h1, h2⟩ := info_parts info_u8
  have := run_make (P := Tryz.prog) w 41 5 i (.int .u8 0) Tryz.underlying41 hi h0 .i64 .i64 n n (by omega) (by omega) (by rw [h2]; omega) (by omega)
  rw [this, h1]
  simp [Value.cells, madeCells_one]

/-- A text's bytes as cells. -/
def encS (s : ByteArray) : Array Value := s.data.map fun b => .int .u8 (b.toNat : Int)
theorem size_encS (s : ByteArray) : (encS s).size = s.size := by simp [encS]

theorem setRow_past (w : World) (c c' : Array Value) (t : TypeId) (o : Obj) : ((w.alloc (.cells c t)).alloc o).setRow w.heap.size c' = (w.alloc (.cells c' t)).alloc o := by
  have e : (((w.heap.push (Obj.cells c t)).push o).modify w.heap.size fun x => match x with | .cells _ elem frozen => .cells c' elem frozen | o => o) = (w.heap.push (.cells c' t)).push o := by
    apply Array.ext_getElem?
    intro i
    rw [Array.getElem?_modify]
    simp only [Array.getElem?_push, Array.size_push]
    by_cases h1 : w.heap.size = i
    · subst h1; simp
    · by_cases h2 : i = w.heap.size + 1
      · subst h2; simp
      · have h3 : ¬ i = w.heap.size := fun h => h1 h.symm
        simp [h1, h2, h3]
  exact congrArg (fun h => World.mk h w.tape w.drawn w.os w.output) e

theorem copy_str_new (w : World) (s : ByteArray) (o : Obj) : (Builtin.copy_ #[41, 9] 3 #[.slice (some ⟨w.heap.size, 0, none⟩) s.size s.size, .string s]).run Tryz.prog ((w.alloc (.cells (Array.replicate s.size (.int .u8 0)) 5)).alloc o) =
    .ok (.int .i64 (s.size : Int)) ((w.alloc (.cells (encS s) 5)).alloc o) := by
  obtain ⟨i, hi, h0, h1, h2⟩ := info_parts info_u8
  have hb : ((w.alloc (.cells (Array.replicate s.size (.int .u8 0)) 5)).alloc o).heap[w.heap.size]? = some (.cells (Array.replicate s.size (.int .u8 0)) 5 (0, 0)) := (Blk.new w _ _).alloc o
  have hst := run_storeCells_at Tryz.prog w.heap.size 0 5 (encS s).toList 0 _ _ hb (by simp [encS]) (by simp [encS, Value.oneCell'])
  have e1 : List.take (0 + 0) (Array.replicate s.size (Value.int .u8 0)).toList ++ (encS s).toList ++ List.drop (0 + 0 + (encS s).toList.length) (Array.replicate s.size (Value.int .u8 0)).toList = (encS s).toList := by
    simp [encS]
  rw [e1, Array.toArray_toList, setRow_past] at hst
  simp [Builtin.copy_, run_underlying Tryz.underlying41, Builtin.lenOf, Builtin.firstCells, sizeOf, typeInfo, hi, goInt]
  have e3 : List.take s.size (List.map (fun b => Value.int IntKind.u8 (b.toNat : Int)) s.data.toList) = (encS s).toList := by
    rw [List.take_of_length_le (by simp)]
    simp [encS]
  rw [e3, hst]
  rfl

theorem smallB_smallB (b : UInt8) : smallB (smallB b) = smallB b := by
  have h : ∀ n : Fin 256, smallB (smallB (UInt8.ofNat n.val)) = smallB (UInt8.ofNat n.val) := by decide +kernel
  have := h ⟨b.toNat, by have := b.toNat_lt; omega⟩
  simpa using this
theorem smallB_len (b : UInt8) (h : b.toNat ≤ 63) : smallB b = b := by
  unfold smallB
  rw [if_neg]
  intro hc
  have := UInt8.le_iff_toNat_le.1 hc.1
  simp at this
  omega

set_option maxRecDepth 100000 in
theorem small_any (b : UInt8) (w : World) : Calls Tryz.prog 63 #[.int .u8 (b.toNat : Int)] w fun e w' => e = .returned (.int .u8 ((smallB b).toNat : Int)) ∧ w = w' := by
  have hlt := b.toNat_lt
  by_cases h : 65 ≤ b.toNat ∧ b.toNat ≤ 90
  · have hs : ((smallB b).toNat : Int) = bits .or .u8 (b.toNat : Int) 32 := by
      have e : smallB b = b ||| 32 := if_pos ⟨UInt8.le_iff_toNat_le.2 (by simpa using h.1), UInt8.le_iff_toNat_le.2 (by simpa using h.2)⟩
      have e2 := u8_or_nat b.toNat 32 (by omega) (by omega)
      rw [e, UInt8.toNat_or]
      exact e2.symm
    have HS := Lib.hid hs
    have q1 : decide ((65 : Int) ≤ (b.toNat : Int)) = true := by simp; omega
    have q2 : decide ((b.toNat : Int) ≤ 90) = true := by simp; omega
    clear h hs
    go_enter Tryz.func63, Tryz.ntmps63
    go_wp2
    go_ret
    refine ⟨?_, rfl⟩
    rw [HS.out]
    rfl
  · have hs : smallB b = b := by
      apply if_neg
      intro hc
      have h1 := UInt8.le_iff_toNat_le.1 hc.1
      have h2 := UInt8.le_iff_toNat_le.1 hc.2
      simp at h1 h2
      omega
    have HS := Lib.hid hs
    clear hs
    by_cases h65 : 65 ≤ b.toNat
    · have q1 : decide ((65 : Int) ≤ (b.toNat : Int)) = true := by simp; omega
      have q2 : decide ((b.toNat : Int) ≤ 90) = false := by simp; omega
      clear h
      go_enter Tryz.func63, Tryz.ntmps63
      go_wp2
      go_ret
      refine ⟨?_, rfl⟩
      rw [HS.out]
      rfl
    · have q1 : decide ((65 : Int) ≤ (b.toNat : Int)) = false := by simp; omega
      clear h
      go_enter Tryz.func63, Tryz.ntmps63
      go_wp2
      go_ret
      refine ⟨?_, rfl⟩
      rw [HS.out]
      rfl

/-- One byte of a text set. -/
def bset (t : ByteArray) (k : Nat) (b : UInt8) : ByteArray := ⟨t.data.setIfInBounds k b⟩
theorem size_bset (t : ByteArray) (k : Nat) (b : UInt8) : (bset t k b).size = t.size := by
  show (t.data.setIfInBounds k b).size = t.data.size
  simp
theorem encS_bset (t : ByteArray) (k : Nat) (b : UInt8) : encS (bset t k b) = (encS t).setIfInBounds k (.int .u8 (b.toNat : Int)) := by
  unfold encS bset
  apply Array.ext_getElem?
  intro i
  simp only [Array.getElem?_map, Array.getElem?_setIfInBounds, Array.size_map]
  split
  · split <;> rfl
  · rfl
theorem encS_get (t : ByteArray) (k : Nat) (h : k < t.size) : (encS t)[k]? = some (.int .u8 ((byt t k).toNat : Int)) := by
  have h' : k < t.data.size := h
  simp only [encS, byt, List.getD, Array.getElem?_map, Array.getElem?_toList, Array.getElem?_eq_getElem h', Option.map_some, Option.getD_some]
theorem byt_bset (t : ByteArray) (k j : Nat) (b : UInt8) (hk : k < t.size) : byt (bset t k b) j = if k = j then b else byt t j := by
  have h' : k < t.data.size := hk
  unfold byt bset
  simp only [List.getD, Array.getElem?_toList, Array.getElem?_setIfInBounds]
  split <;> simp_all
theorem bytes_ext {s t : ByteArray} (h : s.size = t.size) (hb : ∀ j, j < s.size → byt s j = byt t j) : s = t := by
  cases s with
  | mk a =>
    cases t with
    | mk b =>
      congr 1
      apply Array.ext h
      intro i h1 h2
      have := hb i h1
      simpa [byt, List.getD, h1, h2] using this

theorem conv_bytes_string (w : World) (g n c : Nat) (t : ByteArray) (h : Blk w g (encS t) 5) (hn : n = t.size) : (convert 41 9 (.slice (some ⟨g, 0, none⟩) n c)).run Tryz.prog w = .ok (.string t) w := by
  have := run_convert_bytes_arg (P := Tryz.prog) w 41 5 Tryz.underlying41 Tryz.underlying5 g 0 n c (t.data.toList.map fun b => (b.toNat : Int)) (by simp [hn]) (by
    intro i hi
    have hi' : i < t.data.size := by rw [hn] at hi; exact hi
    rw [Nat.zero_add, h.cell i, encS_get t i hi']
    simp only [byt, List.getD, List.getElem?_map, Array.getElem?_toList, Array.getElem?_eq_getElem hi', Option.map_some, Option.getD_some]) 9 Tryz.underlying9
  have e : strOfNums (t.data.toList.map fun b => (b.toNat : Int)) = t := by
    cases t with
    | mk d =>
      show (⟨((d.toList.map fun b => (b.toNat : Int)).map fun n => UInt8.ofNat n.toNat).toArray⟩ : ByteArray) = ⟨d⟩
      rw [List.map_map]
      have e : ((fun n : Int => UInt8.ofNat n.toNat) ∘ fun b : UInt8 => (b.toNat : Int)) = id := by
        funext b
        simp
      rw [e, List.map_id]
  rw [this, e]
end Go.Proofs.YtdmfbcfhfopipaaGreatDoor
