/- Small laws on memory and lists that all walks of this seat use. -/
import Derived.Test.YtdmfbcfhfopipaaGreatDoorProg
import Derived.WalkKit
import Derived.WalkLawsBesides
import Derived.WalkSpells
import Derived.Lib.Hide
import Derived.Lib.ConvBytes
import Derived.Deep.QuietTactic
import Derived.BigQuiet
import Derived.Deep.LoopGhost
import Derived.Deep.DeepFit
namespace Go.Proofs.YtdmfbcfhfopipaaGreatDoor
open Go.RowKit

/-- Block b holds these cells and may be written. -/
def Blk (w : World) (b : Nat) (cs : Array Value) (t : TypeId) : Prop := w.heap[b]? = some (.cells cs t (0, 0))

theorem Blk.cell {w : World} {b : Nat} {cs : Array Value} {t : TypeId} (h : Blk w b cs t) (j : Nat) : w.cell? ⟨b, j, none⟩ = cs[j]? := cell_of_row w b j cs t (0, 0) h
theorem Blk.free {w : World} {b : Nat} {cs : Array Value} {t : TypeId} (h : Blk w b cs t) (j : Nat) : w.frozen? ⟨b, j, none⟩ = false := frozen_of_row w b j cs t h
theorem Blk.lt {w : World} {b : Nat} {cs : Array Value} {t : TypeId} (h : Blk w b cs t) : b < w.heap.size := lt_of_block h
theorem Blk.set {w : World} {b : Nat} {cs : Array Value} {t : TypeId} (h : Blk w b cs t) (j : Nat) (v : Value) : Blk (w.setCell ⟨b, j, none⟩ v) b (cs.setIfInBounds j v) t := heap_setCell_same w b j cs t v h
theorem Blk.other {w : World} {b : Nat} {cs : Array Value} {t : TypeId} (h : Blk w b cs t) {p : Addr} (hp : b ≠ p.block) (v : Value) : Blk (w.setCell p v) b cs t := by
  unfold Blk; rw [heap_setCell_other _ _ _ _ hp]; exact h
theorem Blk.below {w w' : World} {B b : Nat} {cs : Array Value} {t : TypeId} (h : Blk w b cs t) (hb : Below B w w') (hlt : b < B) : Blk w' b cs t := by
  unfold Blk; rw [hb.block b hlt]; exact h
theorem Blk.alloc {w : World} {b : Nat} {cs : Array Value} {t : TypeId} (h : Blk w b cs t) (o : Obj) : Blk (w.alloc o) b cs t := by
  unfold Blk; rw [Below.heap_alloc _ _ _ h.lt]; exact h
theorem Blk.new (w : World) (cs : Array Value) (t : TypeId) : Blk (w.alloc (.cells cs t)) w.heap.size cs t := by show (w.heap.push _)[w.heap.size]? = _; simp
theorem Blk.drew {w : World} {b : Nat} {cs : Array Value} {t : TypeId} (h : Blk w b cs t) : Blk w.drew b cs t := h

/-- Of what was there only block b may have turned. -/
structure Only (b : Nat) (w w' : World) : Prop where
  os : w'.os = w.os
  tape : w'.tape = w.tape
  output : w'.output = w.output
  size : w.heap.size ≤ w'.heap.size
  block : ∀ k, k < w.heap.size → k ≠ b → w'.heap[k]? = w.heap[k]?

theorem Only.refl (b : Nat) (w : World) : Only b w w := ⟨rfl, rfl, rfl, Nat.le_refl _, fun _ _ _ => rfl⟩
theorem Only.trans {b : Nat} {u v w : World} (h : Only b u v) (k : Only b v w) : Only b u w :=
  ⟨k.os.trans h.os, k.tape.trans h.tape, k.output.trans h.output, Nat.le_trans h.size k.size, fun i hi hb => (k.block i (Nat.lt_of_lt_of_le hi h.size) hb).trans (h.block i hi hb)⟩
theorem Only.of_below {b : Nat} {w w' : World} (h : Below w.heap.size w w') : Only b w w' := ⟨h.os, h.tape, h.output, h.size, fun k hk _ => h.block k hk⟩
theorem Only.below {b : Nat} {w w' : World} (h : Only b w w') (hb : b < w.heap.size) : Below b w w' := ⟨h.os, h.tape, h.output, h.size, fun k hk => h.block k (by omega) (by omega)⟩
theorem Only.belowOf {b B : Nat} {w w' : World} (h : Only b w w') (hB : B ≤ b) (hs : B ≤ w.heap.size) : Below B w w' := ⟨h.os, h.tape, h.output, h.size, fun k hk => h.block k (by omega) (by omega)⟩
theorem Only.setCell {b : Nat} {w : World} (p : Addr) (hp : p.block = b) (v : Value) : Only b w (w.setCell p v) := ⟨rfl, rfl, rfl, by simp, fun k _ hb => heap_setCell_other _ _ _ _ (by omega)⟩
theorem Only.alloc {b : Nat} (w : World) (o : Obj) : Only b w (w.alloc o) := Only.of_below ((Below.refl _ w).alloc (Nat.le_refl _) o)
theorem Blk.only {w w' : World} {b c : Nat} {cs : Array Value} {t : TypeId} (h : Blk w c cs t) (hb : Only b w w') (hne : c ≠ b) : Blk w' c cs t := by
  unfold Blk; rw [hb.block c h.lt hne]; exact h

theorem Only.setNew {b : Nat} {w w' : World} (h : Only b w w') {p : Addr} (hp : w.heap.size ≤ p.block) (v : Value) : Only b w (w'.setCell p v) :=
  ⟨h.os, h.tape, h.output, by simpa using h.size, fun k hk hb => by rw [heap_setCell_other _ _ _ _ (by omega)]; exact h.block k hk hb⟩
theorem Only.allocNew {b : Nat} {w w' : World} (h : Only b w w') (o : Obj) : Only b w (w'.alloc o) := h.trans (Only.alloc _ _)
theorem Only.drew {b : Nat} {w w' : World} (h : Only b w w') : Only b w w'.drew := ⟨h.os, h.tape, h.output, h.size, h.block⟩

theorem below_bytesWorld (w : World) (e : TypeId) (s : ByteArray) : Below w.heap.size w (Lib.bytesWorld w e s) :=
  ⟨rfl, rfl, rfl, by rw [Lib.bytesWorld_size]; omega, fun k hk => Lib.bytesWorld_at_old w e s k hk⟩

theorem info_Key : (Tryz.prog.info? 67).map (·.size) = some 4 := by kernel_rfl

theorem conv_string_bytes (w : World) (s : ByteArray) : (convert 9 41 (.string s)).run Tryz.prog w = .ok (.slice (some ⟨w.heap.size, 0, none⟩) s.size (grownCap w s.size 0 5)) (Lib.bytesWorld w 5 s) :=
  Lib.run_convert_string_bytes (P := Tryz.prog) w 9 41 5 s Tryz.underlying9 Tryz.underlying41 Tryz.underlying5

theorem makeFunc_run (fn : Fn) (first cap : Array Value) (w : World) : (Instr.makeFunc fn first cap).run Tryz.prog w = .ok (.func fn first cap) w := rfl

section results
variable {P : Program}
/-- What a result variable holds at the end. -/
def RvOk (P : Program) (tmps : Array Value) (w : World) : ResultVar → Value → Prop
  | .tmp t, v => tmps.getD t undef = v
  | .cell a t, v => ∃ g, tmps.getD a undef = .pointer (some g) ∧ (loadVar t g).run P w = .ok v w

def rvSem (tmps : Array Value) : ResultVar → Sem Value
  | .tmp t => pure (tmps.getD t undef)
  | .cell a t => do loadVar t (← asAddr (tmps.getD a undef))

theorem rvSem_run {tmps : Array Value} {w : World} {r : ResultVar} {v : Value} (h : RvOk P tmps w r v) : (rvSem tmps r).run P w = .ok v w := by
  cases r with
  | tmp t =>
    simp only [rvSem, RvOk] at h ⊢
    rw [h]; rfl
  | cell a t =>
    simp only [rvSem, RvOk] at h ⊢
    obtain ⟨g, hg, hl⟩ := h
    rw [hg, Sem.run_bind]
    simp only [asAddr, Sem.run_pure, Result.andThen_ok]
    exact hl

theorem results_eq (fn : Func) (tmps : Array Value) : results fn tmps = (do let vs ← fn.results.mapM (rvSem tmps); pure (if h : vs.size = 1 then vs[0] else .tuple vs)) := by
  have e : (fun x => match x with
      | ResultVar.tmp t => (pure (tmps.getD t undef) : Sem Value)
      | ResultVar.cell a t => do loadVar t (← asAddr (tmps.getD a undef))) = rvSem tmps := by
    funext x; cases x <;> rfl
  unfold results
  rw [← e]
  rfl

theorem results1 {fn : Func} {tmps : Array Value} {w : World} {r : ResultVar} {v : Value} (h : fn.results = #[r]) (h1 : RvOk P tmps w r v) : (results fn tmps).run P w = .ok v w := by
  rw [results_eq, h]; simp [rvSem_run h1]
theorem results2 {fn : Func} {tmps : Array Value} {w : World} {r s : ResultVar} {v u : Value} (h : fn.results = #[r, s]) (h1 : RvOk P tmps w r v) (h2 : RvOk P tmps w s u) : (results fn tmps).run P w = .ok (.tuple #[v, u]) w := by
  rw [results_eq, h]; simp [Sem.run_bind, rvSem_run h1, rvSem_run h2]
theorem results3 {fn : Func} {tmps : Array Value} {w : World} {r s q : ResultVar} {v u x : Value} (h : fn.results = #[r, s, q]) (h1 : RvOk P tmps w r v) (h2 : RvOk P tmps w s u) (h3 : RvOk P tmps w q x) : (results fn tmps).run P w = .ok (.tuple #[v, u, x]) w := by
  rw [results_eq, h]; simp [Sem.run_bind, rvSem_run h1, rvSem_run h2, rvSem_run h3]

theorem loadVar_blk {w : World} {g : Nat} {t ty : TypeId} {cs : Array Value} {d : TypeDesc} (hg : Blk w g cs t) (hu : P.underlying ty = some d) (hd : (match d with | .struct _ | .array _ _ => true | _ => false) = true)
    (hi : (P.info? ty).map (·.size) = some cs.size) : (loadVar ty ⟨g, 0, none⟩).run P w = .ok (.agg cs) w := run_loadVar_row w g t ty cs (0, 0) d hg hu hd hi
theorem loadVar_int {w : World} {g : Nat} {t ty : TypeId} {v : Value} {k : IntKind} (hg : Blk w g #[v] t) (hu : P.underlying ty = some (.int k)) : (loadVar ty ⟨g, 0, none⟩).run P w = .ok v w := by
  have hagg : (isAgg ty).run P w = .ok false w := by
    unfold isAgg
    rw [Sem.run_bind, run_underlying hu w]
    rfl
  have hc : w.cell? ⟨g, 0, none⟩ = some v := hg.cell 0
  simp [loadVar, Sem.run_bind, hagg, go_sem, hc]
end results

/-- A string's byte (0 beyond). -/
def byt (s : ByteArray) (k : Nat) : UInt8 := s.data.toList.getD k 0

theorem ret_int {k : IntKind} {a b : Int} (h : a = b) : Ending.returned (.int k a) = .returned (.int k b) := by rw [h]

end Go.Proofs.YtdmfbcfhfopipaaGreatDoor
