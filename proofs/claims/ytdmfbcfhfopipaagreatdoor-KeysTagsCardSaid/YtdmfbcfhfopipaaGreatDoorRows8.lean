/- A row of bytes, as a walk sees it. -/
import Derived.Test.YtdmfbcfhfopipaaGreatDoorLower
namespace Go.Proofs.YtdmfbcfhfopipaaGreatDoor
open Go.RowKit

/-- A row that holds these bytes, none of them frozen. -/
def BytesAt (w : World) (b : Nat) (t : ByteArray) : Prop := ∀ j, j < t.size → w.cell? ⟨b, j, none⟩ = some (.int .u8 ((byt t j).toNat : Int)) ∧ w.frozen? ⟨b, j, none⟩ = false
theorem BytesAt.set {w : World} {b : Nat} {t : ByteArray} (h : BytesAt w b t) (k : Nat) (x : UInt8) (hk : k < t.size) : BytesAt (w.setCell ⟨b, k, none⟩ (.int .u8 (x.toNat : Int))) b (bset t k x) := by
  intro j hj
  rw [size_bset] at hj
  rw [byt_bset t k j x hk]
  refine ⟨?_, by rw [World.frozen?_setCell]; exact (h j hj).2⟩
  by_cases e : k = j
  · subst e
    rw [if_pos rfl]
    exact World.cell?_setCell_same _ _ _ (h k hk).1
  · rw [if_neg e, World.cell?_setCell_other _ _ _ _ (by intro h; cases h; exact e rfl)]
    exact (h j hj).1
theorem BytesAt.below {w w' : World} {b : Nat} {t : ByteArray} (h : BytesAt w b t) (hb : Below w.heap.size w w') (hlt : b < w.heap.size) : BytesAt w' b t := fun j hj =>
  ⟨by rw [hb.cell (p := ⟨b, j, none⟩) hlt]; exact (h j hj).1, by rw [hb.frozen (p := ⟨b, j, none⟩) hlt]; exact (h j hj).2⟩
theorem BytesAt.new (w : World) (t : ByteArray) : BytesAt (Lib.bytesWorld w 5 t) w.heap.size t := by
  intro j hj
  refine ⟨Lib.bytesWorld_cell w 5 t j hj, ?_⟩
  have hs : (Lib.bytesCells w 5 t).size = t.size + (grownCap w t.size 0 5 - t.size) := by simp only [Lib.bytesCells, Array.size_append, Array.size_map, Array.size_replicate]; rfl
  simp only [World.frozen?, Lib.bytesWorld_at_new, hs]
  simp; omega
theorem BytesAt.string {w : World} {g : Nat} {t : ByteArray} (h : BytesAt w g t) (n c : Nat) (hn : n = t.size) : (convert 41 9 (.slice (some ⟨g, 0, none⟩) n c)).run Tryz.prog w = .ok (.string t) w := by
  have := run_convert_bytes_arg (P := Tryz.prog) w 41 5 Tryz.underlying41 Tryz.underlying5 g 0 n c (t.data.toList.map fun b => (b.toNat : Int)) (by simp [hn]) (by
    intro i hi
    have hi' : i < t.data.size := by rw [hn] at hi; exact hi
    rw [Nat.zero_add, (h i hi').1]
    simp only [byt, List.getD, List.getElem?_map, Array.getElem?_toList, Array.getElem?_eq_getElem hi', Option.map_some, Option.getD_some]) 9 Tryz.underlying9
  have e : strOfNums (t.data.toList.map fun b => (b.toNat : Int)) = t := by
    cases t with
    | mk d =>
      show (⟨((d.toList.map fun b => (b.toNat : Int)).map fun n => UInt8.ofNat n.toNat).toArray⟩ : ByteArray) = ⟨d⟩
      rw [List.map_map]
      have e : ((fun n : Int => UInt8.ofNat n.toNat) ∘ fun b : UInt8 => (b.toNat : Int)) = id := by
        funext b
        simp
      rw [e, List.map_id]
  rw [this, e]

end Go.Proofs.YtdmfbcfhfopipaaGreatDoor
