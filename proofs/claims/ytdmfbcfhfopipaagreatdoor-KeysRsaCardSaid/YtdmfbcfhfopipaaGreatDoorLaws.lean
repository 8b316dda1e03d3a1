/- Laws of single operations on whole variables: alloc, load, box. -/
import Derived.Test.YtdmfbcfhfopipaaGreatDoorBase
import Derived.Laws.Tables
import Derived.Deep.WholeRow
namespace Go.Proofs.YtdmfbcfhfopipaaGreatDoor
open Go.RowKit
theorem wpList_alloc {P : Program} {ops : Array Oper} {rest : List Oper} {o : Oper} {a : Act} {w : World} {Q : Exit → Act → World → Prop} (hgd : o.guard = none) (t : TypeId) (ho : o.op = .alloc t) (z : Value) (hz : ∀ w, (zeroValue t).run P w = .ok z w)
    (h : wpList P ops Q rest (a.put o.dst (.pointer (some ⟨w.heap.size, 0, none⟩))) (w.alloc (.cells z.cells t))) : wpList P ops Q (o :: rest) a w := by
  refine wpList_plain hgd fun K hK => ?_
  unfold Oper.wp execOp
  simp only [ho]
  simp [go_sem, hz]
  exact hK _ _ h

theorem Blk.setRow {w : World} {b : Nat} {old : Array Value} {t : TypeId} (h : Blk w b old t) (cs : Array Value) : Blk (w.setRow b cs) b cs t := setRow_heap w b old cs t (0, 0) h
theorem Blk.setRowOther {w : World} {b c : Nat} {old : Array Value} {t : TypeId} (h : Blk w b old t) (hne : b ≠ c) (cs : Array Value) : Blk (w.setRow c cs) b old t := by
  unfold Blk; rw [setRow_other _ _ _ _ hne]; exact h
section
variable {P : Program} {ops : Array Oper} {rest : List Oper} {o : Oper} {a : Act} {w : World} {Q : Exit → Act → World → Prop}
theorem wpList_load (hgd : o.guard = none) (ty : TypeId) (x : Operand) (ho : o.op = .load ty x) (p : Addr) (v : Value) (hx : a.eval x = .pointer (some p)) (hl : (loadVar ty p).run P w = .ok v w)
    (h : wpList P ops Q rest (a.put o.dst v) w) : wpList P ops Q (o :: rest) a w := by
  refine wpList_plain hgd fun K hK => ?_
  unfold Oper.wp execOp
  simp only [ho, hx, Instr.loadAt, Instr.sureAddr, Sem.run_bind, Sem.run_pure, Result.andThen_ok, hl]
  exact hK _ _ h
theorem wpList_box (hgd : o.guard = none) (ty : TypeId) (x : Operand) (ho : o.op = .box ty x) (v : Value) (hx : a.eval x = v)
    (h : wpList P ops Q rest (a.put o.dst (.pointer (some ⟨w.heap.size, 0, none⟩))) (w.alloc (.cells v.cells ty))) : wpList P ops Q (o :: rest) a w := by
  refine wpList_plain hgd fun K hK => ?_
  unfold Oper.wp execOp
  simp only [ho, hx]
  simp [go_sem]
  exact hK _ _ h
end

end Go.Proofs.YtdmfbcfhfopipaaGreatDoor
