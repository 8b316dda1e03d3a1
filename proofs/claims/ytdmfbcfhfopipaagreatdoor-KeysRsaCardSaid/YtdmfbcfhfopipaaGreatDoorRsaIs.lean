/- The law's own comparison of a number with the document's: the same digits give true. -/
import Derived.Test.YtdmfbcfhfopipaaGreatDoorNatBytes
namespace Go.Proofs.YtdmfbcfhfopipaaGreatDoor
open Go.RowKit

set_option maxRecDepth 100000 in
theorem is_same (v : Value) (l : List W32) (A : Option Addr) (c : Nat) (w : World) (lo lo' : Nat) (hv : NatV lo w v l) (hl : l.length ≤ 100000) (hc : l.length ≤ c) (hA : DigsAt lo' w A l) :
    Calls Tryz.prog 20 #[v, .slice A l.length c] w fun e w' => e = .returned (.bool true) ∧ Below w.heap.size w w' := by
  have hnb := fun W (hb : Below w.heap.size w W) => nat_bytes v l W lo (hv.below hb) hl
  have hrb := fun W (hb : Below w.heap.size w W) => ref_bytes A c l W hc hl lo' (hA.below hb)
  obtain ⟨A1, c1, rfl, _, _, _⟩ := hv
  generalize bytesL l = S at hnb hrb
  have hb0 : Below w.heap.size w (w.alloc (.cells #[.slice A1 l.length c1] 45)) := (Below.refl _ w).alloc (Nat.le_refl _) _
  have hx0 : Blk (w.alloc (.cells #[.slice A1 l.length c1] 45)) w.heap.size #[.slice A1 l.length c1] 45 := Blk.new w _ _
  have c0 : (w.alloc (.cells #[.slice A1 l.length c1] 45)).cell? ⟨w.heap.size, 0, none⟩ = some (.slice A1 l.length c1) := hx0.cell 0
  have HN := Lib.hid hnb; have HR := Lib.hid hrb; have HB := Lib.hid hb0
  clear hnb hrb hb0 hx0 hA
  go_enter Tryz.func20, Tryz.ntmps20
  go_wp2_with (go_at_call 42; refine (Hid.out (p := _) ?_))
  refine Lib.hid ?_
  clear c0
  refine (HN.out _ HB.out).mono ?_
  rintro e w1 ⟨rfl, hb⟩
  have HB1 := Lib.hid (HB.out.trans (hb.mono HB.out.size))
  clear hb HB
  simp only []
  go_wp2_with (go_at_call 43; refine (Hid.out (p := _) ?_))
  refine Lib.hid ?_
  refine (HR.out _ HB1.out).mono ?_
  rintro e w2 ⟨rfl, hb⟩
  have HB2 := Lib.hid (HB1.out.trans (hb.mono HB1.out.size))
  clear hb HB1
  simp only []
  go_wp2_with fail
  go_ret
  exact ⟨rfl, HB2.out⟩
end Go.Proofs.YtdmfbcfhfopipaaGreatDoor
