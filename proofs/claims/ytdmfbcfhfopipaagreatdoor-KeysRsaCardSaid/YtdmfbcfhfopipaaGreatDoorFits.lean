/- keys.Fits, walked. -/
import Derived.Test.YtdmfbcfhfopipaaGreatDoorOf
namespace Go.Proofs.YtdmfbcfhfopipaaGreatDoor
open Go.RowKit

def fitsB (owner d : ByteArray) (x : DsD) : Bool := decide ((keysOf owner d x.kind).2 = 0) && decide ((keysOf owner d x.kind).1 = x)

theorem toList_iff (a b : ByteArray) : a.toList = b.toList ↔ a = b := by
  constructor
  · intro h
    rw [ByteArray.toList_eq, ByteArray.toList_eq] at h
    exact ByteArray.ext (Array.toList_inj.1 h)
  · intro h; rw [h]

set_option maxRecDepth 100000 in
set_option maxHeartbeats 1000000 in
theorem keys_fits (owner d : ByteArray) (x : DsD) (w : World) :
    Calls Tryz.prog 17 #[.string owner, .string d, x.v] w fun e w' => e = .returned (.bool (fitsB owner d x)) ∧ Below w.heap.size w w' := by
  have hof := keys_of owner d x.kind
  have hfi : fitsB owner d x = (decide ((keysOf owner d x.kind).2 = 0) && decide ((keysOf owner d x.kind).1 = x)) := rfl
  rw [hfi]
  clear hfi
  generalize (keysOf owner d x.kind).2 = err at hof ⊢
  generalize (keysOf owner d x.kind).1 = y at hof ⊢
  obtain ⟨xt, xa, xk, xd⟩ := x
  obtain ⟨yt, ya, yk, yd⟩ := y
  simp only [DsD.v, DsD.cells, DsD.mk.injEq] at hof ⊢
  have HO := Lib.hid hof
  clear hof
  go_enter Tryz.func17, Tryz.ntmps17
  go_wp2_with (go_at_call 14; refine (HO.out _).mono ?_; rintro e w1 ⟨rfl, hB⟩; have hx : Blk w1 w.heap.size #[.int .i64 xt, .int .i64 xa, .int .i64 xk, .string xd] 23 := (Blk.new w #[.int .i64 xt, .int .i64 xa, .int .i64 xk, .string xd] 23).below hB (by simp); have c0 : ∀ o, (w1.alloc o).cell? ⟨w.heap.size, 0, none⟩ = some (.int .i64 xt) := fun o => (hx.alloc o).cell 0; have c1 : ∀ o, (w1.alloc o).cell? ⟨w.heap.size, 1, none⟩ = some (.int .i64 xa) := fun o => (hx.alloc o).cell 1; have c2 : ∀ o, (w1.alloc o).cell? ⟨w.heap.size, 2, none⟩ = some (.int .i64 xk) := fun o => (hx.alloc o).cell 2; have c3 : ∀ o, (w1.alloc o).cell? ⟨w.heap.size, 3, none⟩ = some (.string xd) := fun o => (hx.alloc o).cell 3; have hB1 : Below w.heap.size w w1 := ((Below.refl w.heap.size w).alloc (Nat.le_refl _) _).trans (hB.mono (by simp)); clear hx hB; replace hB1 := Lib.hid hB1)
  all_goals (go_ret; exact ⟨by have htl := toList_iff yd xd; simp_all, hB1.out.alloc hB1.out.size _⟩)
end Go.Proofs.YtdmfbcfhfopipaaGreatDoor
