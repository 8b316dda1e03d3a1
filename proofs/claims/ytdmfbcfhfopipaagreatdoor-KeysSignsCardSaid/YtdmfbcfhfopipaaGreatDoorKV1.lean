import Derived.WalkKit
import Derived.Test.YtdmfbcfhfopipaaGreatDoorProg
import Derived.WalkLawsBesides
import Derived.WalkSpells
import Derived.Lib.Hide
import Derived.Lib.ConvBytes
import Derived.Deep.QuietTactic
import Derived.BigQuiet
import Derived.Deep.LoopGhost
import Derived.Deep.DeepFit
import Derived.Laws.Tables
import Derived.Deep.WholeRow
import Derived.RangeFuncNested
import Derived.RangeFuncBound
import Derived.RangeFuncCalls
import Derived.RangeFuncLeaves
import Derived.Shelf.Abstract
import Derived.Shelf.RegionOpen
import Derived.OwnWalkIn
import Derived.TacticsInMore
import Derived.LoopNIn
import Derived.LoopIn
import Derived.Deep.AppendLies
import Derived.Maps.AppendAt
import Derived.OwnWalk
import Derived.OrdersIn
import Derived.TacticsIn
/- Laws on bits of whole numbers. -/
namespace Go.Proofs.YtdmfbcfhfopipaaGreatDoor
open Go.RowKit

theorem ofInt_i64 (a : Nat) (ha : a < 18446744073709551616) : (BitVec.ofInt 64 (a : Int)).toNat = a := by
  rw [BitVec.ofInt_natCast, BitVec.toNat_ofNat]; exact Nat.mod_eq_of_lt (by omega)
theorem i64_or_nat (a b : Nat) (ha : a < 9223372036854775808) (hb : b < 9223372036854775808) : bits .or .i64 (a : Int) (b : Int) = ((a ||| b : Nat) : Int) := by
  have hx : a ||| b < 2 ^ 63 := Nat.or_lt_two_pow (by omega) (by omega)
  show IntKind.i64.wrap ((BitVec.ofInt 64 (a : Int) ||| BitVec.ofInt 64 (b : Int)).toNat : Int) = _
  rw [BitVec.toNat_or, ofInt_i64 a (by omega), ofInt_i64 b (by omega), IntKind.wrap_i64]
  omega
theorem i64_and_nat (a b : Nat) (ha : a < 9223372036854775808) (hb : b < 9223372036854775808) : bits .and .i64 (a : Int) (b : Int) = ((a &&& b : Nat) : Int) := by
  have hx : a &&& b < 2 ^ 63 := Nat.and_lt_two_pow _ (by omega)
  show IntKind.i64.wrap ((BitVec.ofInt 64 (a : Int) &&& BitVec.ofInt 64 (b : Int)).toNat : Int) = _
  rw [BitVec.toNat_and, ofInt_i64 a (by omega), ofInt_i64 b (by omega), IntKind.wrap_i64]
  omega
theorem i64_xor_nat (a b : Nat) (ha : a < 9223372036854775808) (hb : b < 9223372036854775808) : bits .xor .i64 (a : Int) (b : Int) = ((a ^^^ b : Nat) : Int) := by
  have hx : a ^^^ b < 2 ^ 63 := Nat.xor_lt_two_pow (by omega) (by omega)
  show IntKind.i64.wrap ((BitVec.ofInt 64 (a : Int) ^^^ BitVec.ofInt 64 (b : Int)).toNat : Int) = _
  rw [BitVec.toNat_xor, ofInt_i64 a (by omega), ofInt_i64 b (by omega), IntKind.wrap_i64]
  omega

/-- 'v << 8 | b'. -/
theorem shl8_or (v b : Int) (h0 : 0 ≤ v) (h1 : v < 36028797018963968) (hb0 : 0 ≤ b) (hb : b < 256) : bits .or .i64 (wrap64 (v * 256)) (wrap64 b) = v * 256 + b := by
  obtain ⟨V, rfl⟩ := Int.eq_ofNat_of_zero_le h0
  obtain ⟨B, rfl⟩ := Int.eq_ofNat_of_zero_le hb0
  have e1 : wrap64 ((V : Int) * 256) = ((V * 256 : Nat) : Int) := by unfold wrap64; omega
  have e2 : wrap64 (B : Int) = ((B : Nat) : Int) := by unfold wrap64; omega
  rw [e1, e2, i64_or_nat _ _ (by omega) (by omega), nat_join 8 (V * 256) B (by omega) (by omega)]
  omega
end Go.Proofs.YtdmfbcfhfopipaaGreatDoor

/- Small laws on memory and lists that all walks of this seat use. -/
namespace Go.Proofs.YtdmfbcfhfopipaaGreatDoor
open Go.RowKit

/-- Block b holds these cells and may be written. -/
def Blk (w : World) (b : Nat) (cs : Array Value) (t : TypeId) : Prop := w.heap[b]? = some (.cells cs t (0, 0))

theorem Blk.cell {w : World} {b : Nat} {cs : Array Value} {t : TypeId} (h : Blk w b cs t) (j : Nat) : w.cell? ⟨b, j, none⟩ = cs[j]? := cell_of_row w b j cs t (0, 0) h
theorem Blk.free {w : World} {b : Nat} {cs : Array Value} {t : TypeId} (h : Blk w b cs t) (j : Nat) : w.frozen? ⟨b, j, none⟩ = false := frozen_of_row w b j cs t h
theorem Blk.lt {w : World} {b : Nat} {cs : Array Value} {t : TypeId} (h : Blk w b cs t) : b < w.heap.size := lt_of_block h
theorem Blk.set {w : World} {b : Nat} {cs : Array Value} {t : TypeId} (h : Blk w b cs t) (j : Nat) (v : Value) : Blk (w.setCell ⟨b, j, none⟩ v) b (cs.setIfInBounds j v) t := heap_setCell_same w b j cs t v h
theorem Blk.other {w : World} {b : Nat} {cs : Array Value} {t : TypeId} (h : Blk w b cs t) {p : Addr} (hp : b ≠ p.block) (v : Value) : Blk (w.setCell p v) b cs t := by
  unfold Blk; rw [heap_setCell_other _ _ _ _ hp]; exact h
theorem Blk.below {w w' : World} {B b : Nat} {cs : Array Value} {t : TypeId} (h : Blk w b cs t) (hb : Below B w w') (hlt : b < B) : Blk w' b cs t := by
  unfold Blk; rw [hb.block b hlt]; exact h
theorem Blk.alloc {w : World} {b : Nat} {cs : Array Value} {t : TypeId} (h : Blk w b cs t) (o : Obj) : Blk (w.alloc o) b cs t := by
  unfold Blk; rw [Below.heap_alloc _ _ _ h.lt]; exact h
theorem Blk.new (w : World) (cs : Array Value) (t : TypeId) : Blk (w.alloc (.cells cs t)) w.heap.size cs t := by show (w.heap.push _)[w.heap.size]? = _; simp
theorem Blk.drew {w : World} {b : Nat} {cs : Array Value} {t : TypeId} (h : Blk w b cs t) : Blk w.drew b cs t := h

/-- Of what was there only block b may have turned. -/
structure Only (b : Nat) (w w' : World) : Prop where
  os : w'.os = w.os
  tape : w'.tape = w.tape
  output : w'.output = w.output
  size : w.heap.size ≤ w'.heap.size
  block : ∀ k, k < w.heap.size → k ≠ b → w'.heap[k]? = w.heap[k]?

theorem Only.refl (b : Nat) (w : World) : Only b w w := ⟨rfl, rfl, rfl, Nat.le_refl _, fun _ _ _ => rfl⟩
theorem Only.trans {b : Nat} {u v w : World} (h : Only b u v) (k : Only b v w) : Only b u w :=
  ⟨k.os.trans h.os, k.tape.trans h.tape, k.output.trans h.output, Nat.le_trans h.size k.size, fun i hi hb => (k.block i (Nat.lt_of_lt_of_le hi h.size) hb).trans (h.block i hi hb)⟩
theorem Only.of_below {b : Nat} {w w' : World} (h : Below w.heap.size w w') : Only b w w' := ⟨h.os, h.tape, h.output, h.size, fun k hk _ => h.block k hk⟩
theorem Only.below {b : Nat} {w w' : World} (h : Only b w w') (hb : b < w.heap.size) : Below b w w' := ⟨h.os, h.tape, h.output, h.size, fun k hk => h.block k (by omega) (by omega)⟩
theorem Only.belowOf {b B : Nat} {w w' : World} (h : Only b w w') (hB : B ≤ b) (hs : B ≤ w.heap.size) : Below B w w' := ⟨h.os, h.tape, h.output, h.size, fun k hk => h.block k (by omega) (by omega)⟩
theorem Only.setCell {b : Nat} {w : World} (p : Addr) (hp : p.block = b) (v : Value) : Only b w (w.setCell p v) := ⟨rfl, rfl, rfl, by simp, fun k _ hb => heap_setCell_other _ _ _ _ (by omega)⟩
theorem Only.alloc {b : Nat} (w : World) (o : Obj) : Only b w (w.alloc o) := Only.of_below ((Below.refl _ w).alloc (Nat.le_refl _) o)
theorem Blk.only {w w' : World} {b c : Nat} {cs : Array Value} {t : TypeId} (h : Blk w c cs t) (hb : Only b w w') (hne : c ≠ b) : Blk w' c cs t := by
  unfold Blk; rw [hb.block c h.lt hne]; exact h

theorem Only.setNew {b : Nat} {w w' : World} (h : Only b w w') {p : Addr} (hp : w.heap.size ≤ p.block) (v : Value) : Only b w (w'.setCell p v) :=
  ⟨h.os, h.tape, h.output, by simpa using h.size, fun k hk hb => by rw [heap_setCell_other _ _ _ _ (by omega)]; exact h.block k hk hb⟩
theorem Only.allocNew {b : Nat} {w w' : World} (h : Only b w w') (o : Obj) : Only b w (w'.alloc o) := h.trans (Only.alloc _ _)
theorem Only.drew {b : Nat} {w w' : World} (h : Only b w w') : Only b w w'.drew := ⟨h.os, h.tape, h.output, h.size, h.block⟩

theorem below_bytesWorld (w : World) (e : TypeId) (s : ByteArray) : Below w.heap.size w (Lib.bytesWorld w e s) :=
  ⟨rfl, rfl, rfl, by rw [Lib.bytesWorld_size]; omega, fun k hk => Lib.bytesWorld_at_old w e s k hk⟩

theorem info_Key : (Tryz.prog.info? 67).map (·.size) = some 4 := by kernel_rfl

theorem conv_string_bytes (w : World) (s : ByteArray) : (convert 9 41 (.string s)).run Tryz.prog w = .ok (.slice (some ⟨w.heap.size, 0, none⟩) s.size (grownCap w s.size 0 5)) (Lib.bytesWorld w 5 s) :=
  Lib.run_convert_string_bytes (P := Tryz.prog) w 9 41 5 s Tryz.underlying9 Tryz.underlying41 Tryz.underlying5

theorem makeFunc_run (fn : Fn) (first cap : Array Value) (w : World) : (Instr.makeFunc fn first cap).run Tryz.prog w = .ok (.func fn first cap) w := rfl

section results
variable {P : Program}
/-- What a result variable holds at the end. -/
def RvOk (P : Program) (tmps : Array Value) (w : World) : ResultVar → Value → Prop
  | .tmp t, v => tmps.getD t undef = v
  | .cell a t, v => ∃ g, tmps.getD a undef = .pointer (some g) ∧ (loadVar t g).run P w = .ok v w

def rvSem (tmps : Array Value) : ResultVar → Sem Value
  | .tmp t => pure (tmps.getD t undef)
  | .cell a t => do loadVar t (← asAddr (tmps.getD a undef))

theorem rvSem_run {tmps : Array Value} {w : World} {r : ResultVar} {v : Value} (h : RvOk P tmps w r v) : (rvSem tmps r).run P w = .ok v w := by
  cases r with
  | tmp t =>
    simp only [rvSem, RvOk] at h ⊢
    rw [h]; rfl
  | cell a t =>
    simp only [rvSem, RvOk] at h ⊢
    obtain ⟨g, hg, hl⟩ := h
    rw [hg, Sem.run_bind]
    simp only [asAddr, Sem.run_pure, Result.andThen_ok]
    exact hl

theorem results_eq (fn : Func) (tmps : Array Value) : results fn tmps = (do let vs ← fn.results.mapM (rvSem tmps); pure (if h : vs.size = 1 then vs[0] else .tuple vs)) := by
  have e : (fun x => match x with
      | ResultVar.tmp t => (pure (tmps.getD t undef) : Sem Value)
      | ResultVar.cell a t => do loadVar t (← asAddr (tmps.getD a undef))) = rvSem tmps := by
    funext x; cases x <;> rfl
  unfold results
  rw [← e]
  rfl

theorem results1 {fn : Func} {tmps : Array Value} {w : World} {r : ResultVar} {v : Value} (h : fn.results = #[r]) (h1 : RvOk P tmps w r v) : (results fn tmps).run P w = .ok v w := by
  rw [results_eq, h]; simp [rvSem_run h1]
theorem results2 {fn : Func} {tmps : Array Value} {w : World} {r s : ResultVar} {v u : Value} (h : fn.results = #[r, s]) (h1 : RvOk P tmps w r v) (h2 : RvOk P tmps w s u) : (results fn tmps).run P w = .ok (.tuple #[v, u]) w := by
  rw [results_eq, h]; simp [Sem.run_bind, rvSem_run h1, rvSem_run h2]
theorem results3 {fn : Func} {tmps : Array Value} {w : World} {r s q : ResultVar} {v u x : Value} (h : fn.results = #[r, s, q]) (h1 : RvOk P tmps w r v) (h2 : RvOk P tmps w s u) (h3 : RvOk P tmps w q x) : (results fn tmps).run P w = .ok (.tuple #[v, u, x]) w := by
  rw [results_eq, h]; simp [Sem.run_bind, rvSem_run h1, rvSem_run h2, rvSem_run h3]

theorem loadVar_blk {w : World} {g : Nat} {t ty : TypeId} {cs : Array Value} {d : TypeDesc} (hg : Blk w g cs t) (hu : P.underlying ty = some d) (hd : (match d with | .struct _ | .array _ _ => true | _ => false) = true)
    (hi : (P.info? ty).map (·.size) = some cs.size) : (loadVar ty ⟨g, 0, none⟩).run P w = .ok (.agg cs) w := run_loadVar_row w g t ty cs (0, 0) d hg hu hd hi
theorem loadVar_int {w : World} {g : Nat} {t ty : TypeId} {v : Value} {k : IntKind} (hg : Blk w g #[v] t) (hu : P.underlying ty = some (.int k)) : (loadVar ty ⟨g, 0, none⟩).run P w = .ok v w := by
  have hagg : (isAgg ty).run P w = .ok false w := by
    unfold isAgg
    rw [Sem.run_bind, run_underlying hu w]
    rfl
  have hc : w.cell? ⟨g, 0, none⟩ = some v := hg.cell 0
  simp [loadVar, Sem.run_bind, hagg, go_sem, hc]
end results

/-- A string's byte (0 beyond). -/
def byt (s : ByteArray) (k : Nat) : UInt8 := s.data.toList.getD k 0

theorem ret_int {k : IntKind} {a b : Int} (h : a = b) : Ending.returned (.int k a) = .returned (.int k b) := by rw [h]

end Go.Proofs.YtdmfbcfhfopipaaGreatDoor

/- Words of 32 bits; bits.RotateLeft32, digest.mix, digest.keys. -/
namespace Go.Proofs.YtdmfbcfhfopipaaGreatDoor
open Go.RowKit

abbrev W32 := BitVec 32
/-- A word as the model's whole number. -/
def wd (x : W32) : Int := (x.toNat : Int)
def vw (x : W32) : Value := .int .u32 (wd x)
theorem wd_lit (n : Nat) (h : n < 4294967296) : wd (BitVec.ofNat 32 n) = (n : Int) := by simp [wd]; omega
theorem wd_nonneg (x : W32) : 0 ≤ wd x := by simp [wd]
theorem wd_lt (x : W32) : wd x < 4294967296 := by have := x.isLt; simp only [wd]; omega
theorem wd_inj {x y : W32} (h : wd x = wd y) : x = y := by apply BitVec.eq_of_toNat_eq; simp only [wd] at h; omega
theorem ofInt_wd (x : W32) : BitVec.ofInt 32 (wd x) = x := by simp [wd]
theorem wd_xor (x y : W32) : bits .xor .u32 (wd x) (wd y) = wd (x ^^^ y) := by
  show IntKind.u32.wrap ((BitVec.ofInt 32 (wd x) ^^^ BitVec.ofInt 32 (wd y)).toNat : Int) = _
  rw [ofInt_wd, ofInt_wd, IntKind.wrap_u32]; have := (x ^^^ y).isLt; simp only [wd]; omega
theorem wd_or (x y : W32) : bits .or .u32 (wd x) (wd y) = wd (x ||| y) := by
  show IntKind.u32.wrap ((BitVec.ofInt 32 (wd x) ||| BitVec.ofInt 32 (wd y)).toNat : Int) = _
  rw [ofInt_wd, ofInt_wd, IntKind.wrap_u32]; have := (x ||| y).isLt; simp only [wd]; omega
theorem wd_and (x y : W32) : bits .and .u32 (wd x) (wd y) = wd (x &&& y) := by
  show IntKind.u32.wrap ((BitVec.ofInt 32 (wd x) &&& BitVec.ofInt 32 (wd y)).toNat : Int) = _
  rw [ofInt_wd, ofInt_wd, IntKind.wrap_u32]; have := (x &&& y).isLt; simp only [wd]; omega
theorem wd_add (x y : W32) : IntKind.u32.wrap (wd x + wd y) = wd (x + y) := by
  rw [IntKind.wrap_u32]; simp only [wd, BitVec.toNat_add]; omega
theorem wd_shl (x : W32) (n : Nat) : wd x * 2 ^ n % 4294967296 = wd (x <<< n) := by
  have e2 : ((x.toNat : Int) * 2 ^ n) = ((x.toNat * 2 ^ n : Nat) : Int) := by push_cast; rfl
  simp only [wd, BitVec.toNat_shiftLeft, Nat.shiftLeft_eq]
  rw [e2, show (2 ^ 32 : Nat) = 4294967296 from rfl]
  omega
theorem wd_shr (x : W32) (n : Nat) : wd x / 2 ^ n = wd (x >>> n) := by
  simp only [wd, BitVec.toNat_ushiftRight, Nat.shiftRight_eq_div_pow]
  push_cast; rfl

/-- The turn of a word to the left (k mod 32). -/
def rotW (x : W32) (k : Nat) : W32 := (x <<< k) ||| (x >>> (32 - k))
def rotS (k : Int) : Nat := (k % 32).toNat
theorem rotS_le (k : Int) : rotS k < 32 := by unfold rotS; omega
theorem and31 (k : Int) : bits .and .u64 (IntKind.u64.wrap k) 31 = (rotS k : Int) := by
  have h1 := rotS_le k
  have hk : ∃ n : Nat, IntKind.u64.wrap k = (n : Int) ∧ n < 18446744073709551616 ∧ n % 32 = rotS k := by
    refine ⟨(IntKind.u64.wrap k).toNat, ?_, ?_, ?_⟩ <;> rw [IntKind.wrap_u64] <;> (try unfold rotS) <;> omega
  obtain ⟨n, e, hn, hm⟩ := hk
  rw [e]
  show IntKind.u64.wrap ((BitVec.ofInt 64 (n : Int) &&& BitVec.ofInt 64 ((31 : Nat) : Int)).toNat : Int) = _
  rw [BitVec.toNat_and, ofInt_i64 n (by omega), ofInt_i64 31 (by omega), show (31 : Nat) = 2 ^ 5 - 1 from rfl, Nat.and_two_pow_sub_one_eq_mod, IntKind.wrap_u64]
  omega

theorem rot_any (x : W32) (k : Int) (w : World) : Calls Tryz.prog 83 #[.int .u32 (wd x), .int .i64 k] w fun e w' => e = .returned (.int .u32 (wd (rotW x (rotS k)))) ∧ w = w' := by
  have hs := and31 k
  have h1 := rotS_le k
  have q1 := wd_shl x (rotS k)
  have q3 : IntKind.u64.wrap (32 - (rotS k : Int)) = ((32 - rotS k : Nat) : Int) := by rw [IntKind.wrap_u64]; omega
  have q2 := wd_shr x (32 - rotS k)
  have q4 : bits .or .u32 (wd (x <<< rotS k)) (wd (x >>> (32 - rotS k))) = wd (rotW x (rotS k)) := wd_or _ _
  generalize hq : rotW x (rotS k) = r at q4 ⊢
  have q1' := Lib.hid hq; clear hq
  go_enter Tryz.func83, Tryz.ntmps83
  go_wp2_with fail
  go_ret
  exact ⟨rfl, rfl⟩

/-- Three turns. -/
def mixW (x : W32) (a b c : Int) : W32 := (rotW x (rotS (-a)) ^^^ rotW x (rotS (-b))) ^^^ rotW x (rotS (-c))
theorem mix_any (x : W32) (a b c : Int) (w : World) (ha : 0 ≤ a ∧ a < 64) (hb : 0 ≤ b ∧ b < 64) (hc : 0 ≤ c ∧ c < 64) :
    Calls Tryz.prog 84 #[.int .u32 (wd x), .int .i64 a, .int .i64 b, .int .i64 c] w fun e w' => e = .returned (.int .u32 (wd (mixW x a b c))) ∧ w = w' := by
  have q1 : IntKind.i64.wrap (-a) = -a := IntWalk.i64_in _ (by omega)
  have q2 : IntKind.i64.wrap (-b) = -b := IntWalk.i64_in _ (by omega)
  have q3 : IntKind.i64.wrap (-c) = -c := IntWalk.i64_in _ (by omega)
  have q4 := wd_xor
  have q5 : (rotW x (rotS (-a)) ^^^ rotW x (rotS (-b))) ^^^ rotW x (rotS (-c)) = mixW x a b c := rfl
  go_enter Tryz.func84, Tryz.ntmps84
  go_wp2_with (go_at_call 83; refine (rot_any _ _ _).mono ?_; rintro e w' ⟨rfl, rfl⟩)
  go_ret
  exact ⟨rfl, rfl⟩
end Go.Proofs.YtdmfbcfhfopipaaGreatDoor

/- Laws of single operations on whole variables: alloc, load, box. -/
namespace Go.Proofs.YtdmfbcfhfopipaaGreatDoor
open Go.RowKit
theorem wpList_alloc {P : Program} {ops : Array Oper} {rest : List Oper} {o : Oper} {a : Act} {w : World} {Q : Exit → Act → World → Prop} (hgd : o.guard = none) (t : TypeId) (ho : o.op = .alloc t) (z : Value) (hz : ∀ w, (zeroValue t).run P w = .ok z w)
    (h : wpList P ops Q rest (a.put o.dst (.pointer (some ⟨w.heap.size, 0, none⟩))) (w.alloc (.cells z.cells t))) : wpList P ops Q (o :: rest) a w := by
  refine wpList_plain hgd fun K hK => ?_
  unfold Oper.wp execOp
  simp only [ho]
  simp [go_sem, hz]
  exact hK _ _ h

theorem Blk.setRow {w : World} {b : Nat} {old : Array Value} {t : TypeId} (h : Blk w b old t) (cs : Array Value) : Blk (w.setRow b cs) b cs t := setRow_heap w b old cs t (0, 0) h
theorem Blk.setRowOther {w : World} {b c : Nat} {old : Array Value} {t : TypeId} (h : Blk w b old t) (hne : b ≠ c) (cs : Array Value) : Blk (w.setRow c cs) b old t := by
  unfold Blk; rw [setRow_other _ _ _ _ hne]; exact h
section
variable {P : Program} {ops : Array Oper} {rest : List Oper} {o : Oper} {a : Act} {w : World} {Q : Exit → Act → World → Prop}
theorem wpList_load (hgd : o.guard = none) (ty : TypeId) (x : Operand) (ho : o.op = .load ty x) (p : Addr) (v : Value) (hx : a.eval x = .pointer (some p)) (hl : (loadVar ty p).run P w = .ok v w)
    (h : wpList P ops Q rest (a.put o.dst v) w) : wpList P ops Q (o :: rest) a w := by
  refine wpList_plain hgd fun K hK => ?_
  unfold Oper.wp execOp
  simp only [ho, hx, Instr.loadAt, Instr.sureAddr, Sem.run_bind, Sem.run_pure, Result.andThen_ok, hl]
  exact hK _ _ h
theorem wpList_box (hgd : o.guard = none) (ty : TypeId) (x : Operand) (ho : o.op = .box ty x) (v : Value) (hx : a.eval x = v)
    (h : wpList P ops Q rest (a.put o.dst (.pointer (some ⟨w.heap.size, 0, none⟩))) (w.alloc (.cells v.cells ty))) : wpList P ops Q (o :: rest) a w := by
  refine wpList_plain hgd fun K hK => ?_
  unfold Oper.wp execOp
  simp only [ho, hx]
  simp [go_sem]
  exact hK _ _ h
end

end Go.Proofs.YtdmfbcfhfopipaaGreatDoor

/- name.labels: the iterator over a name's labels, and its contract. -/
namespace Go.Proofs.YtdmfbcfhfopipaaGreatDoor
open Go.RowKit Go.Shelf
attribute [local go_sem] Oper.semAt_some

/-- The labels of a text from a place on, each with its place, as long as there are some. -/
def labs (s : ByteArray) : Nat → Nat → List (Nat × ByteArray)
  | 0, _ => []
  | f + 1, p => if p < s.size ∧ byt s p ≠ 0 ∧ (byt s p).toNat ≤ 63 ∧ p + 1 + (byt s p).toNat ≤ s.size then
      (p, s.extract (p + 1) (p + 1 + (byt s p).toNat)) :: labs s f (p + 1 + (byt s p).toNat) else []
def labels (s : ByteArray) : List (Nat × ByteArray) := labs s (s.size + 1) 0

/-- One of the labels of s. -/
def Lab (s : ByteArray) : Type := { x : Nat × ByteArray // x ∈ labels s }
def encLab {s : ByteArray} (x : Lab s) : Array Value := #[.int .i64 (x.1.1 : Int), .string x.1.2]
def labPre {s : ByteArray} (l : List (Lab s)) : List (Nat × ByteArray) := l.map (·.1)
theorem labPre_snoc {s : ByteArray} (l : List (Lab s)) (x : Lab s) : labPre (l ++ [x]) = labPre l ++ [x.1] := by simp [labPre]

/-- What a round of the loop must keep for the iterator: the block that holds the name. -/
def KeepsBlk (b : Nat) (W W' : World) : Prop := ∀ cs t, Blk W b cs t → Blk W' b cs t
theorem keepsBlk_t {b : Nat} {A B C : World} (h : KeepsBlk b A B) (k : KeepsBlk b B C) : KeepsBlk b A C := fun cs t hb => k cs t (h cs t hb)
theorem keepsBlk_b {b : Nat} {w : World} (W : World) (l : Nat) (o o' : Obj) (_ : w.heap.size ≤ l) (h : W.heap[l]? = some o) (ho : o.isCells = false) (_ : o.isWalk = false) : KeepsBlk b W (W.putObj l o') := by
  intro cs t hb
  have hne : l ≠ b := by
    intro e
    subst e
    unfold Blk at hb
    rw [hb] at h
    cases h
    simp [Obj.isCells] at ho
  unfold Blk at hb ⊢
  rw [World.putObj_heap_other (by omega)]
  exact hb
theorem KeepsBlk.refl (b : Nat) (W : World) : KeepsBlk b W W := fun _ _ h => h
theorem KeepsBlk.set {b : Nat} (W : World) (p : Addr) (v : Value) (h : b ≠ p.block) : KeepsBlk b W (W.setCell p v) := fun _ _ hb => hb.other h v

theorem byt_get (s : ByteArray) (k : Nat) (h : k < s.size) : s.data[k]'(by simpa using h) = byt s k := by
  simp [byt, List.getD, List.getElem?_eq_getElem (show k < s.data.toList.length by simpa using h)]

theorem labels1_stops (F : Fence) (n : Nat) (h6 : F.fn 152) (hro : F.round = none) (hn : 1 ≤ n) (Bn : Nat) (s : ByteArray) (w : World) (hs : s.size ≤ 9223372036854775000) (hB : Blk w Bn #[.string s] 9) :
    SeqStopsK F n Tryz.prog 152 #[.pointer (some ⟨Bn, 0, none⟩)] encLab (KeepsBlk Bn) (fun (xs : List (Lab s)) => labPre xs = labels s) (fun pre => labPre pre <+: labels s) (labels s).length w := by
  intro l J Jx W hW hJ hJx hY h0
  have hBW := hB.below hW hB.lt
  refine callsIn_of_wp Tryz.func152 rfl h6 ?_ hro
  simp only [Tryz.ntmps152, List.size_toArray, List.length_cons, List.length_nil, Nat.reduceAdd, Nat.reduceSub, Array.replicate_succ, Array.replicate_zero, List.push_toArray, List.append_toArray, List.nil_append, List.cons_append]
  have HB := Lib.hid hBW; have HY := Lib.hid hY; clear hBW hB hY
  gi_wp2
  gi_loopw [3] (fun i wr => ∃ (p f : Nat) (pre : List (Lab s)), i = .int .i64 p ∧ Hid (labels s = labPre pre ++ labs s f p) ∧ s.size < p + f ∧ Blk wr Bn #[.string s] 9 ∧ J pre wr)
    (fun i _ => s.size - (intOf i).toNat)
  case atStart => exact ⟨0, s.size + 1, [], rfl, rfl, by omega, HB.out, h0⟩
  case round =>
    obtain ⟨p, f, pre, rfl, hx, hf, hb, hj⟩ := hrel
    have hc : wr.cell? ⟨Bn, 0, none⟩ = some (.string s) := hb.cell 0
    have HBr := Lib.hid hb; clear hb
    by_cases h1 : p < s.size
    · have hg : s[p] = byt s p := byt_get s p h1
      have h255 : ((s[p]).toNat : Int) ≤ 255 := by have := (s[p]).toNat_lt; omega
      obtain ⟨f, rfl⟩ : ∃ g, f = g + 1 := ⟨f - 1, by omega⟩
      have hlab : labs s (f + 1) p = if p < s.size ∧ byt s p ≠ 0 ∧ (byt s p).toNat ≤ 63 ∧ p + 1 + (byt s p).toNat ≤ s.size then (p, s.extract (p + 1) (p + 1 + (byt s p).toNat)) :: labs s f (p + 1 + (byt s p).toNat) else [] := rfl
      rw [← hg] at hlab
      have hzero : s[p] = 0 ↔ (s[p]).toNat = 0 := by
        constructor
        · intro h; rw [h]; rfl
        · intro h; exact UInt8.toNat_inj.1 (by rw [h]; rfl)
      by_cases hgo : (s[p]).toNat ≠ 0 ∧ (s[p]).toNat ≤ 63 ∧ p + 1 + (s[p]).toNat ≤ s.size
      · rw [if_pos ⟨h1, fun h => hgo.1 (hzero.1 h), hgo.2.1, hgo.2.2⟩] at hlab
        have hx1 : labels s = (labPre pre ++ [(p, s.extract (p + 1) (p + 1 + (s[p]).toNat))]) ++ labs s f (p + 1 + (s[p]).toNat) := by rw [hx.out, hlab]; simp
        obtain ⟨X, hX⟩ : ∃ X : Lab s, X.1 = (p, s.extract (p + 1) (p + 1 + (s[p]).toNat)) := ⟨⟨(p, s.extract (p + 1) (p + 1 + (s[p]).toNat)), by rw [hx1]; simp⟩, rfl⟩
        have hx2 : labels s = labPre (pre ++ [X]) ++ labs s f (p + 1 + (s[p]).toNat) := by rw [labPre_snoc, hX]; exact hx1
        have hlen : pre.length < (labels s).length := by rw [hx2]; simp [labPre]
        have hy0 := HY.out pre X wr hj hlen
        simp only [encLab, hX] at hy0
        clear hX hx1
        have HX := Lib.hid hx2
        have q1 : (((s[p]).toNat : Int) != 0) = true := by simp; omega
        have q2 : ((s[p]).toNat : Int) ≤ 63 := by omega
        have q3 : (p : Int) + 1 + ((s[p]).toNat : Int) ≤ s.size := by omega
        have hxt : ((p : Int) + 1 + ((s[p]).toNat : Int)).toNat = p + 1 + (s[p]).toNat := by omega
        have hxt2 : ((p : Int) + 1).toNat = p + 1 := by omega
        obtain ⟨fn, tmps, assign, body, hy, hR⟩ := hy0
        have HR := Lib.hid hR
        clear hx2 hlen hlab hzero hgo hx hg hR
        gi_wp2_with fail
        refine HR.out.mono ?_
        rintro e W3 (⟨rfl, hJ3, hk3⟩ | ⟨rfl, hJx3⟩)
        · have hb3 := hk3 _ _ HBr.out
          have HB3 := Lib.hid hb3
          clear hb3 hk3
          gi_wp2
          go_roundw
          case rel => exact ⟨p + 1 + (s[p]).toNat, f, pre ++ [X], by go_num, HX, by omega, HB3.out, hJ3⟩
          case measure => simp [intOf]; omega
        · gi_wp2
          refine bodyPost_ret (results_none rfl _ _ _) rfl ?_
          exact ⟨⟨_, rfl⟩, .inr ⟨pre ++ [X], ⟨labs s f (p + 1 + (s[p]).toNat), HX.out.symm⟩, hJx3⟩⟩
      · rw [if_neg (fun h => hgo ⟨fun e => h.2.1 (hzero.2 e), h.2.2.1, h.2.2.2⟩)] at hlab
        have hfin : labels s = labPre pre := by rw [hx.out, hlab, List.append_nil]
        have HF := Lib.hid hfin
        clear hfin hlab hx hf hg
        by_cases hz : (s[p]).toNat = 0
        · have q1 : (((s[p]).toNat : Int) != 0) = false := by simp; omega
          clear hzero hgo hz
          gi_wp2
          go_end0
          exact ⟨⟨_, rfl⟩, .inl ⟨pre, HF.out.symm, hj⟩⟩
        · have q1 : (((s[p]).toNat : Int) != 0) = true := by simp; omega
          by_cases h63 : (s[p]).toNat ≤ 63
          · have q2 : ((s[p]).toNat : Int) ≤ 63 := by omega
            have q3 : (s.size : Int) < (p : Int) + 1 + ((s[p]).toNat : Int) := by omega
            clear hzero hgo hz h63
            gi_wp2
            refine ⟨fun _ h => (by cases h), ?_⟩
            gi_wp2
            refine bodyPost_ret (results_none rfl _ _ _) rfl ?_
            exact ⟨⟨_, rfl⟩, .inl ⟨pre, HF.out.symm, hj⟩⟩
          · have q2 : (63 : Int) < ((s[p]).toNat : Int) := by omega
            clear hzero hgo hz h63
            gi_wp2
            refine ⟨fun _ h => (by cases h), ?_⟩
            gi_wp2
            refine bodyPost_ret (results_none rfl _ _ _) rfl ?_
            exact ⟨⟨_, rfl⟩, .inl ⟨pre, HF.out.symm, hj⟩⟩
    · have e : labs s f p = [] := by
        cases f with
        | zero => rfl
        | succ f => simp [labs, h1]
      have hfin : labels s = labPre pre := by rw [hx.out, e, List.append_nil]
      have HF := Lib.hid hfin; clear hfin e hx hf
      gi_wp2
      go_end0
      exact ⟨⟨_, rfl⟩, .inl ⟨pre, HF.out.symm, hj⟩⟩

theorem labels_any (s : ByteArray) (w : World) : Calls Tryz.prog 62 #[.string s] w fun e w' => e = .returned (.func (.func 152) #[] #[.pointer (some ⟨w.heap.size, 0, none⟩)]) ∧ w' = w.alloc (.cells #[.string s] 9) := by
  have hmf := makeFunc_run
  go_enter Tryz.func62, Tryz.ntmps62
  go_wp2
  go_ret
  exact ⟨rfl, rfl⟩

/-- Is a text a name? -/
def endOf (l : List (Nat × ByteArray)) : Nat := match l.getLast? with | none => 0 | some x => x.1 + 1 + x.2.size
def nameEnd (s : ByteArray) : Nat := endOf (labels s)
def nameRight (s : ByteArray) : Bool := decide (s.size ≠ 0 ∧ s.size ≤ 255) && decide (nameEnd s + 1 = s.size) && (byt s (nameEnd s) == 0)
theorem endOf_snoc (l : List (Nat × ByteArray)) (x : Nat × ByteArray) : endOf (l ++ [x]) = x.1 + 1 + x.2.size := by simp [endOf]

theorem labs_le (s : ByteArray) : ∀ (f p : Nat) (x : Nat × ByteArray), x ∈ labs s f p → p ≤ x.1 ∧ x.1 + 1 + x.2.size ≤ s.size ∧ x.2 = s.extract (x.1 + 1) (x.1 + 1 + x.2.size) ∧ 1 ≤ x.2.size ∧ x.2.size ≤ 63 ∧ (byt s x.1).toNat = x.2.size := by
  intro f
  induction f with
  | zero => intro p x h; simp [labs] at h
  | succ f ih =>
    intro p x h
    rw [labs] at h
    split at h
    · rename_i hc
      rcases List.mem_cons.1 h with h | h
      · subst h
        have e : (s.extract (p + 1) (p + 1 + (byt s p).toNat)).size = (byt s p).toNat := by rw [ByteArray.size_extract]; omega
        have hz : (byt s p).toNat ≠ 0 := fun h => hc.2.1 (UInt8.toNat_inj.1 (by rw [h]; rfl))
        simp only [e]
        exact ⟨Nat.le_refl _, by omega, trivial, by omega, by omega, trivial⟩
      · have := ih _ x h
        exact ⟨by omega, this.2⟩
    · simp at h
theorem labels_le (s : ByteArray) (x : Nat × ByteArray) (h : x ∈ labels s) : x.1 + 1 + x.2.size ≤ s.size ∧ x.2 = s.extract (x.1 + 1) (x.1 + 1 + x.2.size) ∧ 1 ≤ x.2.size ∧ x.2.size ≤ 63 ∧ (byt s x.1).toNat = x.2.size := (labs_le s _ 0 x h).2
theorem nameEnd_le (s : ByteArray) : nameEnd s ≤ s.size := by
  unfold nameEnd endOf
  cases h : (labels s).getLast? with
  | none => simp
  | some x => exact (labels_le s x (List.mem_of_getLast? h)).1

/-- Blocks abide what turns others than cells. -/
theorem Blk.kept {W W' : World} {row : Option Nat} {b : Nat} {cs : Array Value} {t : TypeId} (h : Blk W b cs t) (hg : W.grownBy W' row) (hrow : ∀ r, row = some r → ∃ o : Obj, W.heap[r]? = some o ∧ o.isCells = false) : Blk W' b cs t := by
  unfold Blk
  rw [hg.block b h.lt]
  · exact h
  · intro e
    obtain ⟨o, ho, hc⟩ := hrow b e.symm
    unfold Blk at h
    rw [h] at ho
    cases ho
    simp [Obj.isCells] at hc
end Go.Proofs.YtdmfbcfhfopipaaGreatDoor

/- name.Right. -/
namespace Go.Proofs.YtdmfbcfhfopipaaGreatDoor
open Go.RowKit Go.Shelf
attribute [local go_sem] Oper.semAt_some

set_option maxRecDepth 100000 in
theorem name_right_in (s : ByteArray) (w : World) (h1 : s.size ≠ 0) (h255 : s.size ≤ 255) :
    CallsIn Fence.wide 4 Tryz.prog 32 #[.string s] w fun e w' => e = .returned (.bool (nameRight s)) ∧ Below w.heap.size w w' := by
  have hro : Fence.wide.round = none := rfl
  have hn1 : 1 ≤ 4 := by omega
  refine callsIn_of_wp_marks Tryz.func32 rfl trivial ?_ hro
  simp only [Tryz.ntmps32, List.size_toArray, List.length_cons, List.length_nil, Nat.reduceAdd, Nat.reduceSub, Array.replicate_succ, Array.replicate_zero, List.push_toArray, List.append_toArray, List.nil_append, List.cons_append]
  have q1 : ((s.size : Int) == 0) = false := beq_eq_false_iff_ne.2 (by omega)
  have q2 : decide ((255 : Int) < s.size) = false := by simp; omega
  gi_wp2_with (refine ⟨trivial, ?_⟩; gi_at_call 62; refine (callsIn_wide.2 (labels_any _ _)).mono ?_; rintro e w' ⟨rfl, rfl⟩)
  have hB0 : Below w.heap.size w ((w.alloc (.cells #[.int .i64 0] 3)).alloc (.cells #[.string s] 9)) := ((Below.refl _ w).alloc (Nat.le_refl _) _).alloc (by simp) _
  have b0 : Blk ((w.alloc (.cells #[.int .i64 0] 3)).alloc (.cells #[.string s] 9)) w.heap.size #[.int .i64 0] 3 := (Blk.new w _ _).alloc _
  have b1 : Blk ((w.alloc (.cells #[.int .i64 0] 3)).alloc (.cells #[.string s] 9)) (w.heap.size + 1) #[.string s] 9 := by
    have := Blk.new (w.alloc (.cells #[.int .i64 0] 3)) #[.string s] 9
    simpa using this
  refine wpIn_rangeFunc_ownF (α := Lab s) (ps := #[16, 17]) hro hn1 (gf := 152) (lb := #[.pointer (some ⟨w.heap.size + 1, 0, none⟩)]) rfl trivial (enters_of Tryz.func152 (by kernel_rfl) rfl)
    (labels1_stops Fence.wide 3 trivial hro (by omega) (w.heap.size + 1) s _ (by omega) b1) keepsBlk_t keepsBlk_b (Below.refl _ _) (fun _ => rfl)
    (fun pre W => Blk W w.heap.size #[.int .i64 (endOf (labPre pre) : Int)] 3 ∧ Below w.heap.size w W)
    (fun _ _ _ => False)
    (OwnFrom.and (Own.from (fun s A B row hs hg hr => hs.kept hg hr) _) (ownFrom_below (Nat.le_refl _) (by simp; omega)))
    (fun _ _ _ _ _ hs _ _ => hs)
    ⟨b0, hB0⟩
    (fun x => { tmps := #[.string s, undef, .bool false, .pointer (some ⟨w.heap.size, 0, none⟩), .int .i64 (x.1.1 : Int), .string x.1.2, .string s, .int .i64 s.size, .bool false, .bool false, .string s, .int .i64 s.size, .bool false, .bool false, .string s, .func (.func 152) #[] #[.pointer (some ⟨w.heap.size + 1, 0, none⟩)], .int .i64 (x.1.1 : Int), .string x.1.2, undef, undef, undef, undef, undef, undef, undef, undef, undef, undef, undef, undef, undef, undef, undef, undef], defers := [] }) ?assign ?body ?done ?stop
  case assign =>
    intro l x W K hK
    simp only [encLab]
    gi_wp2
    exact hK
  case body =>
    rintro l pre x W ⟨hb, hB⟩ _
    have hx := labels_le s x.1 x.2
    have hc : W.cell? ⟨w.heap.size, 0, none⟩ = some (.int .i64 (endOf (labPre pre) : Int)) := hb.cell 0
    have hf := hb.free 0
    have e1 : ((x.1.1 : Int) + 1 + (x.1.2.size : Int)) = (endOf (labPre (pre ++ [x])) : Int) := by rw [labPre_snoc, endOf_snoc]; omega
    have HE := Lib.hid e1; have HB := Lib.hid hb
    have x1 : (x.1.1 : Int) + 1 + x.1.2.size ≤ 255 := by omega
    clear e1 hb hx
    gi_wp2
    rw [HE.out]
    exact ⟨KeepsOthers.setCell _ _ _, KeepsBlk.set _ _ _ (by simp), HB.out.set 0 _, hB.setCell (p := ⟨w.heap.size, 0, none⟩) (Nat.le_refl _) _⟩
  case done =>
    rintro D ys W hD hS ⟨hb, hB⟩ hK
    rw [hS] at hb
    have hc : W.cell? ⟨w.heap.size, 0, none⟩ = some (.int .i64 (nameEnd s : Int)) := hb.cell 0
    have hle := nameEnd_le s
    clear hS hb
    by_cases he : nameEnd s + 1 = s.size
    · have q3 : ((nameEnd s : Int) == (s.size : Int) - 1) = true := beq_iff_eq.2 (by omega)
      have q4 : (1 : Int) ≤ s.size := by omega
      have hl1 : nameEnd s < s.size := by omega
      have hg : s[nameEnd s]'hl1 = byt s (nameEnd s) := byt_get s (nameEnd s) hl1
      have hr : nameRight s = (((s[nameEnd s]'hl1).toNat : Int) == 0) := by
        rw [hg, nameRight]
        simp only [he, h1, h255, ne_eq, not_false_eq_true, and_self, decide_true, Bool.true_and]
        rw [Bool.eq_iff_iff]
        simp only [beq_iff_eq]
        constructor
        · intro h; rw [h]; rfl
        · intro h; exact UInt8.toNat_inj.1 (by have : (byt s (nameEnd s)).toNat = 0 := by omega
                                               rw [this]; rfl)
      have HR := Lib.hid hr
      clear hr hg he hle
      gi_wp2
      refine ⟨by simp, .inl ⟨_, _, rfl, run_takeDeferred hK, ?_⟩⟩
      refine ⟨_, results_tmp rfl _ _ _, ?_, hB.trans (belowK_b (w := w) (Nat.le_refl _) W D _ _ (by simp at hD; omega) hK rfl rfl)⟩
      rw [HR.out]
      rfl
    · have q3 : ((nameEnd s : Int) == (s.size : Int) - 1) = false := beq_eq_false_iff_ne.2 (by omega)
      have hr : nameRight s = false := by simp [nameRight, he]
      have HR := Lib.hid hr
      clear hr he hle
      gi_wp2
      refine ⟨by simp, .inl ⟨_, _, rfl, run_takeDeferred hK, ?_⟩⟩
      refine ⟨_, results_tmp rfl _ _ _, ?_, hB.trans (belowK_b (w := w) (Nat.le_refl _) W D _ _ (by simp at hD; omega) hK rfl rfl)⟩
      rw [HR.out]
      rfl
  case stop =>
    rintro D c pre W _ _ h _
    exact h.elim

set_option maxRecDepth 100000 in
theorem name_right (s : ByteArray) (w : World) : Calls Tryz.prog 32 #[.string s] w fun e w' => e = .returned (.bool (nameRight s)) ∧ Below w.heap.size w w' := by
  by_cases h : s.size ≠ 0 ∧ s.size ≤ 255
  · exact callsIn_wide.1 (name_right_in s w h.1 h.2)
  · have hr : nameRight s = false := by rw [nameRight, decide_eq_false h]; rfl
    rw [hr]
    have hlen : s.size = 0 ∨ 255 < s.size := by omega
    clear hr h
    rcases hlen with h | h
    · have q1 : ((s.size : Int) == 0) = true := beq_iff_eq.2 (by omega)
      go_enter Tryz.func32, Tryz.ntmps32
      go_wp2
      go_ret
      exact ⟨rfl, Below.refl _ _⟩
    · have q1 : ((s.size : Int) == 0) = false := beq_eq_false_iff_ne.2 (by omega)
      have q2 : decide ((255 : Int) < s.size) = true := by simp; omega
      go_enter Tryz.func32, Tryz.ntmps32
      go_wp2
      go_ret
      exact ⟨rfl, Below.refl _ _⟩
end Go.Proofs.YtdmfbcfhfopipaaGreatDoor

/- name.Lower. -/
namespace Go.Proofs.YtdmfbcfhfopipaaGreatDoor
open Go.RowKit Go.Shelf
attribute [local go_sem] Oper.semAt_some

/-- A byte as a small letter. -/
def smallB (b : UInt8) : UInt8 := if 65 ≤ b ∧ b ≤ 90 then b ||| 32 else b

theorem info_u8 : (Tryz.prog.info? 5).map (fun i => (i.zero, i.size, i.bytes)) = some (some (.int .u8 0), 1, 1) := by kernel_rfl

theorem madeCells_one (z : Value) (n : Nat) : madeCells #[z] n = Array.replicate n z := by
  apply Array.ext
  · simp [madeCells]
  · intro i h1 h2
    simp [madeCells, Nat.mod_one]

theorem make_u8 (n : Nat) (hn : n ≤ 281474976710656) (w : World) : (Instr.makeSlice 41 (.int .i64 (n : Int)) (.int .i64 (n : Int))).run Tryz.prog w = .ok (.slice (some ⟨w.heap.size, 0, none⟩) n n) (w.alloc (.cells (Array.replicate n (.int .u8 0)) 5)) := by
  obtain ⟨i, hi, h0, h1, h2⟩ := info_parts info_u8
  have := run_make (P := Tryz.prog) w 41 5 i (.int .u8 0) Tryz.underlying41 hi h0 .i64 .i64 n n (by omega) (by omega) (by rw [h2]; omega) (by omega)
  rw [this, h1]
  simp [Value.cells, madeCells_one]

/-- A text's bytes as cells. -/
def encS (s : ByteArray) : Array Value := s.data.map fun b => .int .u8 (b.toNat : Int)
theorem size_encS (s : ByteArray) : (encS s).size = s.size := by simp [encS]

theorem setRow_past (w : World) (c c' : Array Value) (t : TypeId) (o : Obj) : ((w.alloc (.cells c t)).alloc o).setRow w.heap.size c' = (w.alloc (.cells c' t)).alloc o := by
  have e : (((w.heap.push (Obj.cells c t)).push o).modify w.heap.size fun x => match x with | .cells _ elem frozen => .cells c' elem frozen | o => o) = (w.heap.push (.cells c' t)).push o := by
    apply Array.ext_getElem?
    intro i
    rw [Array.getElem?_modify]
    simp only [Array.getElem?_push, Array.size_push]
    by_cases h1 : w.heap.size = i
    · subst h1; simp
    · by_cases h2 : i = w.heap.size + 1
      · subst h2; simp
      · have h3 : ¬ i = w.heap.size := fun h => h1 h.symm
        simp [h1, h2, h3]
  exact congrArg (fun h => World.mk h w.tape w.drawn w.os w.output) e

theorem copy_str_new (w : World) (s : ByteArray) (o : Obj) : (Builtin.copy_ #[41, 9] 3 #[.slice (some ⟨w.heap.size, 0, none⟩) s.size s.size, .string s]).run Tryz.prog ((w.alloc (.cells (Array.replicate s.size (.int .u8 0)) 5)).alloc o) =
    .ok (.int .i64 (s.size : Int)) ((w.alloc (.cells (encS s) 5)).alloc o) := by
  obtain ⟨i, hi, h0, h1, h2⟩ := info_parts info_u8
  have hb : ((w.alloc (.cells (Array.replicate s.size (.int .u8 0)) 5)).alloc o).heap[w.heap.size]? = some (.cells (Array.replicate s.size (.int .u8 0)) 5 (0, 0)) := (Blk.new w _ _).alloc o
  have hst := run_storeCells_at Tryz.prog w.heap.size 0 5 (encS s).toList 0 _ _ hb (by simp [encS]) (by simp [encS, Value.oneCell'])
  have e1 : List.take (0 + 0) (Array.replicate s.size (Value.int .u8 0)).toList ++ (encS s).toList ++ List.drop (0 + 0 + (encS s).toList.length) (Array.replicate s.size (Value.int .u8 0)).toList = (encS s).toList := by
    simp [encS]
  rw [e1, Array.toArray_toList, setRow_past] at hst
  simp [Builtin.copy_, run_underlying Tryz.underlying41, Builtin.lenOf, Builtin.firstCells, sizeOf, typeInfo, hi, goInt]
  have e3 : List.take s.size (List.map (fun b => Value.int IntKind.u8 (b.toNat : Int)) s.data.toList) = (encS s).toList := by
    rw [List.take_of_length_le (by simp)]
    simp [encS]
  rw [e3, hst]
  rfl

theorem smallB_smallB (b : UInt8) : smallB (smallB b) = smallB b := by
  have h : ∀ n : Fin 256, smallB (smallB (UInt8.ofNat n.val)) = smallB (UInt8.ofNat n.val) := by decide +kernel
  have := h ⟨b.toNat, by have := b.toNat_lt; omega⟩
  simpa using this
theorem smallB_len (b : UInt8) (h : b.toNat ≤ 63) : smallB b = b := by
  unfold smallB
  rw [if_neg]
  intro hc
  have := UInt8.le_iff_toNat_le.1 hc.1
  simp at this
  omega

set_option maxRecDepth 100000 in
theorem small_any (b : UInt8) (w : World) : Calls Tryz.prog 63 #[.int .u8 (b.toNat : Int)] w fun e w' => e = .returned (.int .u8 ((smallB b).toNat : Int)) ∧ w = w' := by
  have hlt := b.toNat_lt
  by_cases h : 65 ≤ b.toNat ∧ b.toNat ≤ 90
  · have hs : ((smallB b).toNat : Int) = bits .or .u8 (b.toNat : Int) 32 := by
      have e : smallB b = b ||| 32 := if_pos ⟨UInt8.le_iff_toNat_le.2 (by simpa using h.1), UInt8.le_iff_toNat_le.2 (by simpa using h.2)⟩
      have e2 := u8_or_nat b.toNat 32 (by omega) (by omega)
      rw [e, UInt8.toNat_or]
      exact e2.symm
    have HS := Lib.hid hs
    have q1 : decide ((65 : Int) ≤ (b.toNat : Int)) = true := by simp; omega
    have q2 : decide ((b.toNat : Int) ≤ 90) = true := by simp; omega
    clear h hs
    go_enter Tryz.func63, Tryz.ntmps63
    go_wp2
    go_ret
    refine ⟨?_, rfl⟩
    rw [HS.out]
    rfl
  · have hs : smallB b = b := by
      apply if_neg
      intro hc
      have h1 := UInt8.le_iff_toNat_le.1 hc.1
      have h2 := UInt8.le_iff_toNat_le.1 hc.2
      simp at h1 h2
      omega
    have HS := Lib.hid hs
    clear hs
    by_cases h65 : 65 ≤ b.toNat
    · have q1 : decide ((65 : Int) ≤ (b.toNat : Int)) = true := by simp; omega
      have q2 : decide ((b.toNat : Int) ≤ 90) = false := by simp; omega
      clear h
      go_enter Tryz.func63, Tryz.ntmps63
      go_wp2
      go_ret
      refine ⟨?_, rfl⟩
      rw [HS.out]
      rfl
    · have q1 : decide ((65 : Int) ≤ (b.toNat : Int)) = false := by simp; omega
      clear h
      go_enter Tryz.func63, Tryz.ntmps63
      go_wp2
      go_ret
      refine ⟨?_, rfl⟩
      rw [HS.out]
      rfl

/-- One byte of a text set. -/
def bset (t : ByteArray) (k : Nat) (b : UInt8) : ByteArray := ⟨t.data.setIfInBounds k b⟩
theorem size_bset (t : ByteArray) (k : Nat) (b : UInt8) : (bset t k b).size = t.size := by
  show (t.data.setIfInBounds k b).size = t.data.size
  simp
theorem encS_bset (t : ByteArray) (k : Nat) (b : UInt8) : encS (bset t k b) = (encS t).setIfInBounds k (.int .u8 (b.toNat : Int)) := by
  unfold encS bset
  apply Array.ext_getElem?
  intro i
  simp only [Array.getElem?_map, Array.getElem?_setIfInBounds, Array.size_map]
  split
  · split <;> rfl
  · rfl
theorem encS_get (t : ByteArray) (k : Nat) (h : k < t.size) : (encS t)[k]? = some (.int .u8 ((byt t k).toNat : Int)) := by
  have h' : k < t.data.size := h
  simp only [encS, byt, List.getD, Array.getElem?_map, Array.getElem?_toList, Array.getElem?_eq_getElem h', Option.map_some, Option.getD_some]
theorem byt_bset (t : ByteArray) (k j : Nat) (b : UInt8) (hk : k < t.size) : byt (bset t k b) j = if k = j then b else byt t j := by
  have h' : k < t.data.size := hk
  unfold byt bset
  simp only [List.getD, Array.getElem?_toList, Array.getElem?_setIfInBounds]
  split <;> simp_all
theorem bytes_ext {s t : ByteArray} (h : s.size = t.size) (hb : ∀ j, j < s.size → byt s j = byt t j) : s = t := by
  cases s with
  | mk a =>
    cases t with
    | mk b =>
      congr 1
      apply Array.ext h
      intro i h1 h2
      have := hb i h1
      simpa [byt, List.getD, h1, h2] using this

theorem conv_bytes_string (w : World) (g n c : Nat) (t : ByteArray) (h : Blk w g (encS t) 5) (hn : n = t.size) : (convert 41 9 (.slice (some ⟨g, 0, none⟩) n c)).run Tryz.prog w = .ok (.string t) w := by
  have := run_convert_bytes_arg (P := Tryz.prog) w 41 5 Tryz.underlying41 Tryz.underlying5 g 0 n c (t.data.toList.map fun b => (b.toNat : Int)) (by simp [hn]) (by
    intro i hi
    have hi' : i < t.data.size := by rw [hn] at hi; exact hi
    rw [Nat.zero_add, h.cell i, encS_get t i hi']
    simp only [byt, List.getD, List.getElem?_map, Array.getElem?_toList, Array.getElem?_eq_getElem hi', Option.map_some, Option.getD_some]) 9 Tryz.underlying9
  have e : strOfNums (t.data.toList.map fun b => (b.toNat : Int)) = t := by
    cases t with
    | mk d =>
      show (⟨((d.toList.map fun b => (b.toNat : Int)).map fun n => UInt8.ofNat n.toNat).toArray⟩ : ByteArray) = ⟨d⟩
      rw [List.map_map]
      have e : ((fun n : Int => UInt8.ofNat n.toNat) ∘ fun b : UInt8 => (b.toNat : Int)) = id := by
        funext b
        simp
      rw [e, List.map_id]
  rw [this, e]
end Go.Proofs.YtdmfbcfhfopipaaGreatDoor

/- Rows of bytes that a call appends to; digest.tell, digest.keys. -/
namespace Go.Proofs.YtdmfbcfhfopipaaGreatDoor
open Go.RowKit

section
variable {P : Program} {ops : Array Oper} {rest : List Oper} {o : Oper} {a : Act} {Q : Exit → Act → World → Prop}
theorem ownBase {w : World} {base size n : Nat} {e : TypeId} {v : Value} {xs : List Value} (h : w.ownsRow base e size v n xs) : ∀ k, v.ownBlock = some k → base ≤ k := by
  intro k hk
  rcases h.2 with ⟨rfl, _⟩ | ⟨g, cap, cur, rfl, hb, _⟩
  · cases hk
  · obtain rfl : g = k := by simpa [Value.ownBlock] using hk
    exact hb

/-- 'append(v, a, b ..)', the new ones in a block of their own. -/
theorem own_append {w0 W : World} (base : Nat) (cs : Array Value) (hgd : o.guard = none) (s x : Operand) (t e : TypeId) (z : Value) (bytes : Nat)
    (ho : o.op = .call { callee := .builtin .append, args := #[s, x], argTypes := #[t, t] })
    (ht : P.underlying t = some (.slice e)) (hinfo : (P.info? e).map (fun i => (i.zero, i.size, i.bytes)) = some (some z, 1, bytes)) (hz : z.cells.size = 1)
    (v : Value) (xs : List Value) (m c : Nat) (hs : a.eval s = v) (hx : a.eval x = .slice (some ⟨W.heap.size, 0, none⟩) m c) (hm : m = cs.size) (h1 : ∀ u ∈ cs.toList, u.oneCell' = true)
    (HO : W.ownsRow base e 1 v xs.length xs) (HB : Below base w0 W) (hbase : base ≤ W.heap.size) (hb0 : 0 < bytes) (hl : (xs.length + m) * bytes ≤ 140737488355328)
    (h : ∀ v1 w1, w1.ownsRow base e 1 v1 (xs ++ cs.toList).length (xs ++ cs.toList) → Below base w0 w1 → base ≤ w1.heap.size → wpList P ops Q rest (a.put o.dst v1) w1) :
    wpList P ops Q (o :: rest) a (W.alloc (.cells cs e)) := by
  obtain ⟨i0, hi, hzz⟩ := Option.map_eq_some_iff.1 hinfo
  simp only [Prod.mk.injEq] at hzz
  obtain ⟨hz0, hz1, hz2⟩ := hzz
  have hlen : xs.length + m ≤ 140737488355328 := Nat.le_trans (Nat.le_mul_of_pos_right _ hb0) hl
  refine wpList_append_own_at (W.alloc (.cells cs e)) hgd s x t ho base e i0 z 1 bytes ht hi hz0 hz1 hz2 hz (by omega) v xs.length xs hs (HO.alloc _) ⟨W.heap.size, 0, none⟩ m c cs.toList hx (by simp [hm])
    (World.news_of_block (cs := cs) (t := e) (fr := (0, 0)) (heap_alloc_new W _)) h1 (by simp only [maxLen]; omega) hl (by simp; omega) ?_
  intro v1 w1 hown hg _ hat
  have hB := (HB.alloc hbase (.cells cs e)).grown hg (by simp; omega) (ownBase HO)
  refine h v1 w1 (by simpa [hm] using hown) hB (Nat.le_trans (by simp; omega) hg.size)
end

def bv (b : UInt8) : Value := .int .u8 (b.toNat : Int)
/-- v holds these bytes, in a row of the call's own. -/
def OwnB (base : Nat) (v : Value) (l : List UInt8) (w : World) : Prop := w.ownsRow base 5 1 v l.length (l.map bv)
theorem OwnB.nil (base : Nat) (w : World) : OwnB base (.slice none 0 0) [] w := ⟨rfl, .inl ⟨rfl, rfl⟩⟩

theorem OwnB.string {base : Nat} {v : Value} {l : List UInt8} {w : World} (h : OwnB base v l w) : (convert 41 9 v).run Tryz.prog w = .ok (.string ⟨l.toArray⟩) w := by
  rcases h.2 with ⟨rfl, h0⟩ | ⟨g, cap, cur, rfl, _, hg, hn, _, hsz, htk⟩
  · obtain rfl : l = [] := List.eq_nil_of_length_eq_zero (by simpa using h0)
    exact run_convert_bytes_nil (P := Tryz.prog) w 41 5 Tryz.underlying41 Tryz.underlying5 0 0 9 Tryz.underlying9
  · have := run_convert_bytes_arg (P := Tryz.prog) w 41 5 Tryz.underlying41 Tryz.underlying5 g 0 l.length cap (l.map fun b => (b.toNat : Int)) (by simp) (by
      intro i hi
      rw [Nat.zero_add, cell_of_row w g i cur 5 (0, 0) hg]
      have e : cur.toList[i]? = (l.map bv)[i]? := by
        rw [← htk, List.getElem?_take, if_pos (by simpa using hi)]
      rw [← Array.getElem?_toList, e]
      simp [bv, hi]) 9 Tryz.underlying9
    have e : strOfNums (l.map fun b => (b.toNat : Int)) = ⟨l.toArray⟩ := by
      show (⟨((l.map fun b => (b.toNat : Int)).map fun n => UInt8.ofNat n.toNat).toArray⟩ : ByteArray) = ⟨l.toArray⟩
      rw [List.map_map]
      have e : ((fun n : Int => UInt8.ofNat n.toNat) ∘ fun b : UInt8 => (b.toNat : Int)) = id := by
        funext b
        simp
      rw [e, List.map_id]
    rw [this, e]

theorem info_u8b : (Tryz.prog.info? 5).map (fun i => (i.zero, i.size, i.bytes)) = some (some (.int .u8 0), 1, 1) := by kernel_rfl

theorem ownB_append {ops : Array Oper} {rest : List Oper} {o : Oper} {a : Act} {Q : Exit → Act → World → Prop} {base : Nat} {v : Value} {l : List UInt8} {w0 W : World} (HO : OwnB base v l W) (HB : Below base w0 W) (hbase : base ≤ W.heap.size) (bs : List UInt8) (hl : l.length + bs.length ≤ 140737488355328)
    (hgd : o.guard = none) (s x : Operand) (ho : o.op = .call { callee := .builtin .append, args := #[s, x], argTypes := #[41, 41] }) (cs : Array Value) (m c : Nat) (hs : a.eval s = v) (hx : a.eval x = .slice (some ⟨W.heap.size, 0, none⟩) m c) (hcs : cs = (bs.map bv).toArray) (hm : m = bs.length)
    (h : ∀ v1 w1, OwnB base v1 (l ++ bs) w1 → Below base w0 w1 → base ≤ w1.heap.size → wpList Tryz.prog ops Q rest (a.put o.dst v1) w1) : wpList Tryz.prog ops Q (o :: rest) a (W.alloc (.cells cs 5)) := by
  subst hcs hm
  refine own_append base _ hgd s x 41 5 (.int .u8 0) 1 ho Tryz.underlying41 info_u8b rfl v (l.map bv) bs.length c hs hx (by simp) (by intro u hu; simp at hu; obtain ⟨b, _, rfl⟩ := hu; rfl) (by simpa [OwnB] using HO) HB hbase (by omega) (by simpa using hl) ?_
  intro v1 w1 h1 h2 h3
  exact h v1 w1 (by simpa [OwnB] using h1) h2 h3

/-- Words in cells. -/
def encW (l : List W32) : Array Value := (l.map vw).toArray
theorem encW_size (l : List W32) : (encW l).size = l.length := by simp [encW]
theorem encW_get (l : List W32) (i : Nat) (h : i < l.length) : (encW l)[i]? = some (.int .u32 (wd (l.getD i 0))) := by
  simp [encW, vw, List.getD, List.getElem?_eq_getElem h]
theorem encW_set (l : List W32) (i : Nat) (x : W32) : (encW l).setIfInBounds i (.int .u32 (wd x)) = encW (l.set i x) := by
  simp [encW, vw, List.map_set]

def by8 (x : W32) : UInt8 := UInt8.ofNat x.toNat
theorem by8_int (x : W32) : wd x % 256 = ((by8 x).toNat : Int) := by simp [wd, by8]
/-- A word's four bytes. -/
def four (x : W32) : List UInt8 := [by8 (x >>> 24), by8 (x >>> 16), by8 (x >>> 8), by8 x]
def tellW (l : List W32) : List UInt8 := l.flatMap four
theorem tellW_len (l : List W32) : (tellW l).length = 4 * l.length := by
  induction l with
  | nil => rfl
  | cons a l ih => simp only [tellW, List.flatMap_cons, List.length_append, List.length_cons] at *; simp [four, ih]; omega
theorem tellW_take (l : List W32) (i : Nat) (h : i < l.length) : tellW (l.take (i + 1)) = tellW (l.take i) ++ four (l.getD i 0) := by
  rw [List.take_succ_eq_append_getElem h]
  simp only [tellW, List.flatMap_append, List.flatMap_cons, List.flatMap_nil, List.append_nil, List.getD, List.getElem?_eq_getElem h, Option.getD_some]

set_option maxRecDepth 100000 in
theorem tell_any (l : List W32) (g c : Nat) (t : TypeId) (w : World) (hl : l.length ≤ 4294967296) (hb : Blk w g (encW l) t) : Calls Tryz.prog 85 #[.slice (some ⟨g, 0, none⟩) l.length c] w fun e w' => e = .returned (.string ⟨(tellW l).toArray⟩) ∧ Below w.heap.size w w' := by
  have HC := Lib.hid (fun W (h : Below w.heap.size w W) i (hi : i < l.length) => show W.cell? ⟨g, i, none⟩ = some (.int .u32 (wd (l.getD i 0))) from by rw [(hb.below h hb.lt).cell i, encW_get l i hi])
  clear hb
  go_enter Tryz.func85, Tryz.ntmps85
  go_wp2
  go_loopw [3, 8] (fun v i wr => ∃ k : Nat, k ≤ l.length ∧ i = .int .i64 k ∧ Hid (OwnB w.heap.size v (tellW (l.take k)) wr) ∧ Hid (Below w.heap.size w wr ∧ w.heap.size ≤ wr.heap.size)) (fun _ i _ => l.length - (intOf i).toNat)
  case atStart => exact ⟨0, Nat.zero_le _, rfl, Lib.hid (OwnB.nil _ _), Lib.hid ⟨Below.refl _ _, Nat.le_refl _⟩⟩
  case round =>
    obtain ⟨k, hk, rfl, hO, hB⟩ := hrel
    by_cases hlt : k < l.length
    · have hcell := HC.out wr hB.out.1 k hlt
      generalize hx : l.getD k 0 = x at hcell
      have Hx := Lib.hid hx; clear hx
      have s1 : wd x / (16777216 : Int) = wd (x >>> (24 : Nat)) := wd_shr x 24
      have s2 : wd x / (65536 : Int) = wd (x >>> (16 : Nat)) := wd_shr x 16
      have s3 : wd x / (256 : Int) = wd (x >>> (8 : Nat)) := wd_shr x 8
      have s4 := by8_int
      have hlk := (tellW_len (l.take k)).trans (by rw [List.length_take, Nat.min_eq_left hk])
      have HL := Lib.hid hlk; clear hlk
      have info := info_u8b
      go_wp2_with (at_builtin; go_loud (refine ownB_append hO.out hB.out.1 hB.out.2 (four x) (by have := HL.out; simp only [four, List.length_cons, List.length_nil]; omega) rfl _ _ rfl _ 4 4 rfl rfl rfl rfl ?_))
      intro v1 w1 h1 h2 h3
      have ht : tellW (l.take (k + 1)) = tellW (l.take k) ++ four x := by rw [tellW_take l k hlt, Hx.out]
      rw [← ht] at h1
      have H1 := Lib.hid h1; have H2 := Lib.hid (And.intro h2 h3)
      clear h1 h2 h3 ht hO hB
      go_wp2
      go_roundw
      case rel => exact ⟨k + 1, by omega, by go_num, H1, H2⟩
      case measure => simp [intOf]; omega
    · obtain rfl : k = l.length := by omega
      rw [List.take_length] at hO
      have hcv := hO.out.string
      have HV := Lib.hid hB.out.1
      go_wp2
      go_ret
      exact ⟨rfl, HV.out⟩

/-- The words of the rounds of SHA-256. -/
def K256 : List W32 := [0x428a2f98, 0x71374491, 0xb5c0fbcf, 0xe9b5dba5, 0x3956c25b, 0x59f111f1, 0x923f82a4, 0xab1c5ed5, 0xd807aa98, 0x12835b01, 0x243185be, 0x550c7dc3, 0x72be5d74, 0x80deb1fe, 0x9bdc06a7, 0xc19bf174,
  0xe49b69c1, 0xefbe4786, 0x0fc19dc6, 0x240ca1cc, 0x2de92c6f, 0x4a7484aa, 0x5cb0a9dc, 0x76f988da, 0x983e5152, 0xa831c66d, 0xb00327c8, 0xbf597fc7, 0xc6e00bf3, 0xd5a79147, 0x06ca6351, 0x14292967,
  0x27b70a85, 0x2e1b2138, 0x4d2c6dfc, 0x53380d13, 0x650a7354, 0x766a0abb, 0x81c2c92e, 0x92722c85, 0xa2bfe8a1, 0xa81a664b, 0xc24b8b70, 0xc76c51a3, 0xd192e819, 0xd6990624, 0xf40e3585, 0x106aa070,
  0x19a4c116, 0x1e376c08, 0x2748774c, 0x34b0bcb5, 0x391c0cb3, 0x4ed8aa4a, 0x5b9cca4f, 0x682e6ff3, 0x748f82ee, 0x78a5636f, 0x84c87814, 0x8cc70208, 0x90befffa, 0xa4506ceb, 0xbef9a3f7, 0xc67178f2]
theorem K256_enc : encW K256 = #[.int .u32 1116352408, .int .u32 1899447441, .int .u32 3049323471, .int .u32 3921009573, .int .u32 961987163, .int .u32 1508970993, .int .u32 2453635748, .int .u32 2870763221, .int .u32 3624381080, .int .u32 310598401, .int .u32 607225278, .int .u32 1426881987, .int .u32 1925078388, .int .u32 2162078206, .int .u32 2614888103, .int .u32 3248222580,
  .int .u32 3835390401, .int .u32 4022224774, .int .u32 264347078, .int .u32 604807628, .int .u32 770255983, .int .u32 1249150122, .int .u32 1555081692, .int .u32 1996064986, .int .u32 2554220882, .int .u32 2821834349, .int .u32 2952996808, .int .u32 3210313671, .int .u32 3336571891, .int .u32 3584528711, .int .u32 113926993, .int .u32 338241895,
  .int .u32 666307205, .int .u32 773529912, .int .u32 1294757372, .int .u32 1396182291, .int .u32 1695183700, .int .u32 1986661051, .int .u32 2177026350, .int .u32 2456956037, .int .u32 2730485921, .int .u32 2820302411, .int .u32 3259730800, .int .u32 3345764771, .int .u32 3516065817, .int .u32 3600352804, .int .u32 4094571909, .int .u32 275423344,
  .int .u32 430227734, .int .u32 506948616, .int .u32 659060556, .int .u32 883997877, .int .u32 958139571, .int .u32 1322822218, .int .u32 1537002063, .int .u32 1747873779, .int .u32 1955562222, .int .u32 2024104815, .int .u32 2227730452, .int .u32 2361852424, .int .u32 2428436474, .int .u32 2756734187, .int .u32 3204031479, .int .u32 3329325298] := by
  rfl

theorem K256_ones : (encW K256).all (·.oneCell') = true := by kernel_rfl
theorem info_K256 : (Tryz.prog.info? 125).map (·.size) = some (encW K256).size := by kernel_rfl
set_option maxRecDepth 100000 in
theorem keys_any (w : World) : Calls Tryz.prog 80 #[] w fun e w' => e = .returned (.agg (encW K256)) ∧ Below w.heap.size w w' := by
  go_enter Tryz.func80, Tryz.ntmps80
  apply wp_seq
  apply wp_region
  change wpList _ _ _ (_ :: []) _ _
  refine wpList_alloc rfl _ rfl (.agg (encW (List.replicate 64 0))) (fun w => by kernel_rfl) ?_
  change Code.wp _ _ _ _ _
  apply wp_seq
  apply wp_region
  change wpList _ _ _ (_ :: _ :: []) _ _
  refine wpList_build rfl 125 _ rfl (by kernel_rfl) ?_
  refine wpList_store_row rfl 125 _ _ rfl w.heap.size (encW K256) rfl (congrArg Value.agg (by kernel_rfl)) 125 (encW (List.replicate 64 0)) (Blk.new w _ _) info_K256 rfl K256_ones ?_
  change Code.wp _ _ _ _ _
  rw [World.setRow_alloc_new]
  have hl := loadVar_blk (P := Tryz.prog) (ty := 125) (Blk.new w (encW K256) 125) Tryz.underlying125 rfl info_K256
  apply wp_ret
  refine ⟨by rfl, .agg (encW K256), results1 rfl (r := .cell 0 125) ⟨⟨w.heap.size, 0, none⟩, by rfl, hl⟩, rfl, (Below.refl _ w).alloc (Nat.le_refl _) _⟩
end Go.Proofs.YtdmfbcfhfopipaaGreatDoor

/- A region that draws its order: its first n operations only read (and call what only reads), in whatever order; what stands behind them waits for all of them, one behind the other. One walk serves every order; of a fence, too. -/
namespace Go.Proofs.YtdmfbcfhfopipaaGreatDoor
open Go.RowKit

section
variable {md : Region.Mode} {ops : Array Oper}

/-- wpAny and its fenced twin, over whatever a step is. -/
def anyG (md : Region.Mode) (ops : Array Oper) (Op1 : Nat → (Act → World → Prop) → Act → World → Prop) (Qn : Act → World → Prop) : Nat → Array Bool → Act → World → Prop
  | 0, listed, a, w => Region.ready md ops listed = [] ∧ Qn a w
  | f + 1, listed, a, w => (Region.ready md ops listed = [] → Qn a w) ∧ ∀ i ∈ Region.ready md ops listed, Op1 i (anyG md ops Op1 Qn f (listed.setIfInBounds i true)) a w

theorem anyG_wpAny {P : Program} {Q : Exit → Act → World → Prop} : ∀ (f : Nat) (listed : Array Bool), anyG md ops (wpOp P ops Q) (Q .normal) f listed = wpAny P md ops Q f listed
  | 0, _ => rfl
  | f + 1, listed => by
    funext a w
    simp only [anyG, wpAny, anyG_wpAny f]
theorem anyG_wpAnyIn {F : Fence} {n : Nat} {P : Program} {Q : Exit → Act → World → Prop} : ∀ (f : Nat) (listed : Array Bool), anyG md ops (wpOpIn F n P ops Q) (Q .normal) f listed = wpAnyIn F n P md ops Q f listed
  | 0, _ => rfl
  | f + 1, listed => by
    funext a w
    simp only [anyG, wpAnyIn, anyG_wpAnyIn f]

/-- Each operation from n on waits for every one ahead of it; the edges lead back. -/
def tailB (md : Region.Mode) (ops : Array Oper) (n : Nat) : Bool :=
  (List.range ops.size).all fun t => match ops[t]? with
    | none => true
    | some o => o.after.all (fun e => decide (e.on < t)) && (decide (t < n) || (List.range t).all fun i => o.after.any fun e => Region.binds md e && e.on == i)

theorem tailB_back {n t : Nat} {o : Oper} (h : tailB md ops n = true) (ho : ops[t]? = some o) : ∀ e ∈ o.after, e.on < t := by
  have hlt : t < ops.size := (Array.getElem?_eq_some_iff.1 ho).1
  have h1 := List.all_eq_true.1 h t (List.mem_range.2 hlt)
  simp only [ho, Bool.and_eq_true] at h1
  intro e he
  have := Array.all_eq_true'.1 h1.1 e he
  simpa using this
theorem tailB_waits {n t : Nat} {o : Oper} (h : tailB md ops n = true) (ho : ops[t]? = some o) (hn : n ≤ t) : ∀ i, i < t → ∃ e ∈ o.after, Region.binds md e = true ∧ e.on = i := by
  have hlt : t < ops.size := (Array.getElem?_eq_some_iff.1 ho).1
  have h1 := List.all_eq_true.1 h t (List.mem_range.2 hlt)
  simp only [ho, Bool.and_eq_true, Bool.or_eq_true, decide_eq_true_eq] at h1
  intro i hi
  rcases h1.2 with h2 | h2
  · omega
  · obtain ⟨e, he, hb⟩ := Array.any_eq_true'.1 (List.all_eq_true.1 h2 i (List.mem_range.2 hi))
    simp only [Bool.and_eq_true, beq_iff_eq] at hb
    exact ⟨e, he, hb.1, hb.2⟩

/-- What stands behind the first n, one behind the other. -/
def tailG (Op1 : Nat → (Act → World → Prop) → Act → World → Prop) (Qn : Act → World → Prop) (size : Nat) : Nat → Act → World → Prop
  | 0 => Qn
  | k + 1 => Op1 (size - (k + 1)) (tailG Op1 Qn size k)

theorem tail_any {Op1 : Nat → (Act → World → Prop) → Act → World → Prop} {Qn : Act → World → Prop} (hmono : ∀ i (K K' : Act → World → Prop) a w, (∀ a w, K a w → K' a w) → Op1 i K a w → Op1 i K' a w)
    {n : Nat} (hB : tailB md ops n = true) : ∀ (k f : Nat) (listed : Array Bool) (a : Act) (w : World), k ≤ f → n + k ≤ ops.size → listed.size = ops.size →
      (∀ i, i < ops.size - k → listed.getD i false = true) → (∀ i, ops.size - k ≤ i → i < ops.size → listed.getD i false = false) →
      tailG Op1 Qn ops.size k a w → anyG md ops Op1 Qn f listed a w := by
  intro k
  induction k with
  | zero =>
    intro f listed a w _ _ hsz hl _ h
    have hr : Region.ready md ops listed = [] := by
      apply List.eq_nil_iff_forall_not_mem.2
      intro i hi
      obtain ⟨hun, o, ho, _⟩ := mem_ready.1 hi
      have hlt : i < ops.size := (Array.getElem?_eq_some_iff.1 ho).1
      have := hl i (by omega)
      have hls : i < listed.size := by omega
      simp [hls] at hun this
      rw [hun] at this
      cases this
    cases f with
    | zero => exact ⟨hr, h⟩
    | succ f => exact ⟨fun _ => h, fun i hi => absurd hi (by rw [hr]; simp)⟩
  | succ k ih =>
    intro f listed a w hf hn hsz hl hu h
    obtain ⟨f, rfl⟩ : ∃ g, f = g + 1 := ⟨f - 1, by omega⟩
    have hm : ops.size - (k + 1) < ops.size := by omega
    have honly : ∀ i ∈ Region.ready md ops listed, i = ops.size - (k + 1) := by
      intro i hi
      obtain ⟨hun, o, ho, hall⟩ := mem_ready.1 hi
      have hlt : i < ops.size := (Array.getElem?_eq_some_iff.1 ho).1
      have hls : i < listed.size := by omega
      rcases Nat.lt_trichotomy i (ops.size - (k + 1)) with h1 | h1 | h1
      · have := hl i h1
        simp [hls] at hun this
        rw [hun] at this
        cases this
      · exact h1
      · obtain ⟨e, he, hb, hon⟩ := tailB_waits hB ho (by omega) _ h1
        have h2 := hall e he hb
        rw [hon, hu _ (Nat.le_refl _) hm] at h2
        cases h2
    have hready : ops.size - (k + 1) ∈ Region.ready md ops listed := by
      refine mem_ready.2 ⟨?_, ops[ops.size - (k + 1)], Array.getElem?_eq_getElem hm, fun e he _ => ?_⟩
      · have := hu _ (Nat.le_refl _) hm
        have hls : ops.size - (k + 1) < listed.size := by omega
        simp [hls] at this ⊢
        exact this
      · exact hl _ (tailB_back hB (Array.getElem?_eq_getElem hm) e he)
    refine ⟨fun h0 => absurd hready (by rw [h0]; simp), fun i hi => ?_⟩
    have hi' := honly i hi
    subst hi'
    refine hmono _ _ _ a w (fun a' w' h' => ih f _ a' w' (by omega) (by omega) (by simpa using hsz) ?_ ?_ h') h
    · intro i hi
      by_cases he : ops.size - (k + 1) = i
      · have hls : i < listed.size := by omega
        simp [he, hls]
      · have := hl i (by omega)
        simp only [Array.getD_eq_getD_getElem?, Array.getElem?_setIfInBounds, he, if_false] at this ⊢
        exact this
    · intro i h1 h2
      have he : ¬ ops.size - (k + 1) = i := by omega
      have := hu i (by omega) h2
      simp only [Array.getD_eq_getD_getElem?, Array.getElem?_setIfInBounds, he, if_false] at this ⊢
      exact this

/-- The first n operations. -/
def headOps (ops : Array Oper) (n : Nat) : Array Oper := (ops.toList.take n).toArray
theorem headOps_get {n i : Nat} (hi : i < n) : (headOps ops n)[i]? = ops[i]? := by simp [headOps, hi]
theorem headOps_size {n : Nat} (hn : n ≤ ops.size) : (headOps ops n).size = n := by simp [headOps]; omega

/-- Guards look back. -/
def guardB (ops : Array Oper) : Bool := (List.range ops.size).all fun i => match ops[i]? with
  | some o => (match o.guard with | some (j, _) => decide (j < i) | none => true)
  | none => true
theorem wanted_head {n i : Nat} {o : Oper} (hg : guardB ops = true) (hi : i < n) (ho : ops[i]? = some o) (t : Array Value) : Region.wanted o (yielded (headOps ops n) t) = Region.wanted o (yielded ops t) := by
  have hlt : i < ops.size := (Array.getElem?_eq_some_iff.1 ho).1
  have h1 := List.all_eq_true.1 hg i (List.mem_range.2 hlt)
  simp only [ho] at h1
  unfold Region.wanted
  split
  · rfl
  · rename_i j want hj
    simp only [hj, decide_eq_true_eq] at h1
    unfold yielded
    rw [headOps_get (by omega)]

theorem all_listed {n : Nat} (hB : tailB md ops n = true) (hn : n ≤ ops.size) {listed : Array Bool} (hsz : listed.size = n) (hr : Region.ready md (headOps ops n) listed = []) : ∀ i, i < n → listed.getD i false = true := by
  intro i
  induction i using Nat.strongRecOn with
  | _ i ih =>
    intro hi
    cases hl : listed.getD i false with
    | true => rfl
    | false =>
      exfalso
      have hlt : i < ops.size := by omega
      have hmem : i ∈ Region.ready md (headOps ops n) listed := by
        refine mem_ready.2 ⟨?_, ops[i], by rw [headOps_get hi]; exact Array.getElem?_eq_getElem hlt, fun e he _ => ?_⟩
        · have hls : i < listed.size := by omega
          simp [hls] at hl ⊢
          exact hl
        · have := tailB_back hB (Array.getElem?_eq_getElem hlt) e he
          exact ih e.on this (by omega)
      rw [hr] at hmem
      cases hmem

theorem getD_head {listed : Array Bool} {n k i : Nat} {d : Bool} (hsz : listed.size = n) (hi : i < n) : (listed ++ Array.replicate k false).getD i d = listed.getD i d := by
  simp only [Array.getD_eq_getD_getElem?]
  rw [Array.getElem?_append_left (by omega)]
theorem getD_tail {listed : Array Bool} {n k i : Nat} (hsz : listed.size = n) (h1 : n ≤ i) : (listed ++ Array.replicate k false).getD i false = false := by
  simp only [Array.getD_eq_getD_getElem?]
  rw [Array.getElem?_append_right (by omega)]
  rcases Nat.lt_or_ge (i - listed.size) k with h | h
  · simp [h]
  · simp [h]
theorem set_head {listed : Array Bool} {n k i : Nat} (hsz : listed.size = n) (hi : i < n) : (listed ++ Array.replicate k false).setIfInBounds i true = listed.setIfInBounds i true ++ Array.replicate k false := by
  apply Array.ext_getElem?
  intro j
  rw [Array.getElem?_setIfInBounds]
  by_cases hj : j < n
  · rw [Array.getElem?_append_left (by omega), Array.getElem?_append_left (by simp; omega), Array.getElem?_setIfInBounds]
    simp only [Array.size_append, Array.size_replicate]
    split
    · rw [if_pos (by omega), if_pos (by omega)]
    · rfl
  · rw [if_neg (by omega), Array.getElem?_append_right (by omega), Array.getElem?_append_right (by simp; omega)]
    simp

theorem head_any {P : Program} {C : World → Prop} {Op1 : Nat → (Act → World → Prop) → Act → World → Prop} {Qn : Act → World → Prop} (hmono : ∀ i (K K' : Act → World → Prop) a w, (∀ a w, K a w → K' a w) → Op1 i K a w → Op1 i K' a w)
    {n : Nat} (hB : tailB md ops n = true) (hn : n ≤ ops.size)
    (hq : ∀ i (K : Act → Prop) (K' : Act → World → Prop) a w, i < n → C w → (∀ a' w', C w' → K a' → K' a' w') → qOp P (headOps ops n) C i K a → Op1 i K' a w)
    {Qh : Act → Prop} (hQ : ∀ a w, C w → Qh a → tailG Op1 Qn ops.size (ops.size - n) a w) :
    ∀ (f : Nat) (listed : Array Bool) (a : Act) (w : World), C w → listed.size = n → wpAnyQ P md (headOps ops n) C Qh f listed a →
      anyG md ops Op1 Qn (f + (ops.size - n)) (listed ++ Array.replicate (ops.size - n) false) a w := by
  have hdone : ∀ (f : Nat) (listed : Array Bool) (a : Act) (w : World), C w → listed.size = n → Region.ready md (headOps ops n) listed = [] → Qh a →
      anyG md ops Op1 Qn (f + (ops.size - n)) (listed ++ Array.replicate (ops.size - n) false) a w := by
    intro f listed a w hC hsz hr h
    have hall := all_listed hB hn hsz hr
    refine tail_any hmono hB (ops.size - n) _ _ a w (by omega) (by omega) (by simp; omega) ?_ ?_ (hQ a w hC h)
    · intro i hi
      rw [getD_head hsz (by omega)]
      exact hall i (by omega)
    · intro i h1 _
      exact getD_tail hsz (by omega)
  intro f
  induction f with
  | zero =>
    intro listed a w hC hsz h
    exact hdone 0 listed a w hC hsz h.1 h.2
  | succ f ih =>
    intro listed a w hC hsz h
    cases hr : Region.ready md (headOps ops n) listed with
    | nil => exact hdone (f + 1) listed a w hC hsz hr (h.1 hr)
    | cons i0 rs =>
      have h0 : i0 ∈ Region.ready md (headOps ops n) listed := by rw [hr]; simp
      obtain ⟨hun0, o0, ho0, hall0⟩ := mem_ready.1 h0
      have hi0 : i0 < n := by have := (Array.getElem?_eq_some_iff.1 ho0).1; rw [headOps_size hn] at this; exact this
      have hls0 : i0 < listed.size := by omega
      have key : ∀ i, i ∈ Region.ready md ops (listed ++ Array.replicate (ops.size - n) false) → i < n ∧ i ∈ Region.ready md (headOps ops n) listed := by
        intro i hi
        obtain ⟨hun, o, ho, hall⟩ := mem_ready.1 hi
        by_cases hin : i < n
        · refine ⟨hin, mem_ready.2 ⟨by rw [getD_head hsz hin] at hun; exact hun, o, by rw [headOps_get hin]; exact ho, fun e he hb => ?_⟩⟩
          have := hall e he hb
          rw [getD_head hsz (by have := tailB_back hB ho e he; omega)] at this
          exact this
        · exfalso
          obtain ⟨e, he, hb, hon⟩ := tailB_waits hB ho (by omega) i0 (by omega)
          have := hall e he hb
          rw [hon, getD_head hsz hi0] at this
          simp [hls0] at hun0 this
          rw [this] at hun0
          cases hun0
      rw [show f + 1 + (ops.size - n) = (f + (ops.size - n)) + 1 by omega]
      refine ⟨fun hnil => ?_, fun i hi => ?_⟩
      · exfalso
        have : i0 ∈ Region.ready md ops (listed ++ Array.replicate (ops.size - n) false) := by
          refine mem_ready.2 ⟨by rw [getD_head hsz hi0]; exact hun0, o0, by rw [headOps_get hi0] at ho0; exact ho0, fun e he hb => ?_⟩
          rw [headOps_get hi0] at ho0
          rw [getD_head hsz (by have := tailB_back hB ho0 e he; omega)]
          exact hall0 e he hb
        rw [hnil] at this
        cases this
      · obtain ⟨hin, hmem⟩ := key i hi
        refine hq i _ _ a w hin hC (fun a' w' hC' h' => ?_) (h.2 i hmem)
        rw [set_head hsz hin]
        exact ih _ a' w' hC' (by simpa using hsz) h'
end

section
variable {P : Program} {C : World → Prop} {Q : Exit → Act → World → Prop} {a : Act} {w : World} {id : Nat} {ops : Array Oper} {n : Nat}

theorem tailG_wp : ∀ (k : Nat) (a : Act) (w : World), k ≤ ops.size → wpList P ops Q (ops.toList.drop (ops.size - k)) a w → tailG (wpOp P ops Q) (Q .normal) ops.size k a w := by
  intro k
  induction k with
  | zero =>
    intro a w _ h
    rw [Nat.sub_zero, List.drop_of_length_le (by simp)] at h
    exact h
  | succ k ih =>
    intro a w hk h
    have hlt : ops.size - (k + 1) < ops.size := by omega
    rw [List.drop_eq_getElem_cons (by simpa using hlt)] at h
    simp only [tailG, wpOp]
    rw [Array.getElem?_eq_getElem hlt]
    simp only [wpList, Array.getElem_toList] at h
    rw [show ops.size - (k + 1) + 1 = ops.size - k by omega] at h
    dsimp only
    split
    · rename_i hw
      rw [if_pos hw] at h
      exact h.imp (Oper.wp_mono (fun a w h => ih a w (by omega) h)) id
    · rename_i hw
      rw [if_neg hw] at h
      exact ih _ _ (by omega) h

theorem qOp_head {i : Nat} {K : Act → Prop} (hg : guardB ops = true) (hi : i < n) (h : qOp P (headOps ops n) C i K a) : qOp P ops C i K a := by
  unfold qOp at *
  rw [headOps_get hi] at h
  cases ho : ops[i]? with
  | none => simpa only [ho] using h
  | some o =>
    simp only [ho] at h ⊢
    rw [wanted_head hg hi ho] at h
    exact h

/-- **A region that draws: n operations that only read; behind them what waits for them.** -/
theorem wp_draw (n : Nat) {l : List Oper} (hm : P.follows .mixedOrders = true) (hB : tailB .any l.toArray n = true) (hG : guardB l.toArray = true) (hL : Region.lexB .any (headOps l.toArray n) = true) (hn : n ≤ l.length)
    (hC : C { w with drawn := w.drawn + 1 }) (h : wpQuiet P (l.take n).toArray C (fun a' => ∀ w', C w' → wpList P l.toArray Q (l.drop n) a' w') (l.take n) a) : (Code.region id l.toArray true).wp P Q a w := by
  simp only [Region.lexB, Bool.and_eq_true] at hL
  have hn' : n ≤ l.toArray.size := by simpa using hn
  rw [show (l.take n).toArray = headOps l.toArray n by simp [headOps]] at h
  refine wp_region_any hm ?_
  have hlen : (l.take n).length = n := by simp; omega
  have h1 := wpAnyQ_lex (P := P) (C := C) (md := .any) hL.1 (l.take n) 0 (Array.replicate n false) a (by intro j; simp [headOps]) (by rw [hlen]; have := hL.2; rw [headOps_size hn'] at this; exact this) h
  rw [hlen] at h1
  have h2 := head_any (P := P) (C := C) (md := .any) (Op1 := wpOp P l.toArray Q) (Qn := Q .normal) (fun i K K' a w hk hh => wpOp_mono hk hh) hB hn'
    (fun i K K' a w hi hC' hk hh => wpOp_of_qOp hC' hk (qOp_head hG hi hh))
    (Qh := fun a' => ∀ w', C w' → wpList P l.toArray Q (l.drop n) a' w')
    (fun a' w' hC' hh => tailG_wp _ a' w' (by omega) (by
      have := hh w' hC'
      rw [show l.toArray.size - (l.toArray.size - n) = n by omega]
      simpa using this)) n (Array.replicate n false) a _ hC (by simp) h1
  rw [anyG_wpAny] at h2
  have e : (Array.replicate n false ++ Array.replicate (l.toArray.size - n) false) = Array.replicate l.toArray.size false := by
    rw [Array.replicate_append_replicate]
    congr 1
    omega
  rw [e, show n + (l.toArray.size - n) = l.toArray.size by omega] at h2
  exact h2
end

section
variable {P : Program} {C : World → Prop} {Q : Exit → Act → World → Prop} {a : Act} {w : World} {id : Nat} {ops : Array Oper} {n : Nat} {F : Fence} {d : Nat}

/-- A fence that lets everything by. -/
structure OpenFence (F : Fence) (d : Nat) (P : Program) : Prop where
  fn : ∀ f, F.fn f
  depth : F.depth = none
  calls : ∀ f args w R, Calls P f args w R → CallsIn F (d - 1) P f args w R
theorem openWide (d : Nat) (P : Program) : OpenFence Fence.wide d P := ⟨fun _ => trivial, rfl, fun _ _ _ _ h => callsIn_wide.2 h⟩
theorem openRound (l d : Nat) (P : Program) : OpenFence (Fence.wide.inRound l) d P := ⟨fun _ => trivial, rfl, fun _ _ _ _ h => CallsIn.inRound l (callsIn_wide.2 h)⟩

theorem wpOpIn_of_qOp (hF : OpenFence F d P) {i : Nat} {K : Act → Prop} {K' : Act → World → Prop} (hC : C w) (h : ∀ a w', C w' → K a → K' a w') (hh : qOp P ops C i K a) : wpOpIn F d P ops Q i K' a w := by
  unfold qOp at hh
  unfold wpOpIn
  split
  · rename_i ho; simp only [ho] at hh; exact h _ _ hC hh
  · rename_i o ho
    simp only [ho] at hh
    split
    · rename_i hw
      simp only [hw, if_true] at hh
      obtain ⟨v, h1, h2⟩ := hh
      have h3 := h1 w hC
      unfold Oper.quietAt at h3
      have hdef : ∀ c, o.op ≠ .defer c := by
        intro c hc
        unfold execOp at h3
        rw [hc] at h3
        simp only [Sem.run_bind] at h3
        cases hr : (resolve a.eval c o.type).run P w with
        | ok x w' => rw [hr] at h3; simp [Oper.quietUpon] at h3
        | halt x w' => rw [hr] at h3; simp [Oper.quietUpon] at h3
      have hs : Oper.semAt F.round a.eval o = execOp a.eval o := by
        cases F.round with
        | none => rfl
        | some l => exact Oper.semAt_some l _ _ hdef
      refine ⟨fun f _ => hF.fn f, ?_⟩
      rw [hs]
      generalize (execOp a.eval o).run P w = r at *
      cases r with
      | ok x w' =>
        cases x <;> simp only [Oper.quietUpon] at h3 <;> simp only [Oper.uponIn]
        case value u =>
          obtain ⟨e1, e2⟩ := h3
          rw [e1, e2]
          exact h _ _ hC h2
        case skip =>
          obtain ⟨e1, e2⟩ := h3
          rw [e1, ← e2]
          exact h _ _ hC h2
        case enter f args =>
          obtain ⟨e1, hc⟩ := h3
          rw [e1]
          refine ⟨fun hd => (by rw [hF.depth] at hd; cases hd), hF.calls _ _ _ _ (hc.mono ?_)⟩
          rintro e w'' ⟨he, hw''⟩
          subst he
          exact h _ _ hw'' h2
      | halt x w' => simp only [Oper.quietUpon] at h3
    · rename_i hw
      simp only [hw] at hh
      exact ⟨fun f _ => hF.fn f, h _ _ hC hh⟩

theorem tailG_wpIn : ∀ (k : Nat) (a : Act) (w : World), k ≤ ops.size → wpListIn F d P ops Q (ops.toList.drop (ops.size - k)) a w → tailG (wpOpIn F d P ops Q) (Q .normal) ops.size k a w := by
  intro k
  induction k with
  | zero =>
    intro a w _ h
    rw [Nat.sub_zero, List.drop_of_length_le (by simp)] at h
    exact h
  | succ k ih =>
    intro a w hk h
    have hlt : ops.size - (k + 1) < ops.size := by omega
    rw [List.drop_eq_getElem_cons (by simpa using hlt)] at h
    simp only [tailG, wpOpIn]
    rw [Array.getElem?_eq_getElem hlt]
    simp only [wpListIn, Array.getElem_toList] at h
    rw [show ops.size - (k + 1) + 1 = ops.size - k by omega] at h
    dsimp only
    split
    · rename_i hw
      rw [if_pos hw] at h
      exact Oper.wpIn_mono (fun a w h => ih a w (by omega) h) h
    · rename_i hw
      rw [if_neg hw] at h
      exact ⟨h.1, ih _ _ (by omega) h.2⟩

theorem wpIn_draw (hF : OpenFence F d P) (n : Nat) {l : List Oper} (hm : P.follows .mixedOrders = true) (hB : tailB .any l.toArray n = true) (hG : guardB l.toArray = true) (hL : Region.lexB .any (headOps l.toArray n) = true) (hn : n ≤ l.length)
    (hC : C { w with drawn := w.drawn + 1 }) (h : wpQuiet P (l.take n).toArray C (fun a' => ∀ w', C w' → wpListIn F d P l.toArray Q (l.drop n) a' w') (l.take n) a) : (Code.region id l.toArray true).wpIn F d P Q a w := by
  simp only [Region.lexB, Bool.and_eq_true] at hL
  have hn' : n ≤ l.toArray.size := by simpa using hn
  rw [show (l.take n).toArray = headOps l.toArray n by simp [headOps]] at h
  refine wpIn_region_any hm ?_
  have hlen : (l.take n).length = n := by simp; omega
  have h1 := wpAnyQ_lex (P := P) (C := C) (md := .any) hL.1 (l.take n) 0 (Array.replicate n false) a (by intro j; simp [headOps]) (by rw [hlen]; have := hL.2; rw [headOps_size hn'] at this; exact this) h
  rw [hlen] at h1
  have h2 := head_any (P := P) (C := C) (md := .any) (Op1 := wpOpIn F d P l.toArray Q) (Qn := Q .normal) (fun i K K' a w hk hh => wpOpIn_mono hk hh) hB hn'
    (fun i K K' a w hi hC' hk hh => wpOpIn_of_qOp hF hC' hk (qOp_head hG hi hh))
    (Qh := fun a' => ∀ w', C w' → wpListIn F d P l.toArray Q (l.drop n) a' w')
    (fun a' w' hC' hh => tailG_wpIn _ a' w' (by omega) (by
      have := hh w' hC'
      rw [show l.toArray.size - (l.toArray.size - n) = n by omega]
      simpa using this)) n (Array.replicate n false) a _ hC (by simp) h1
  rw [anyG_wpAnyIn] at h2
  have e : (Array.replicate n false ++ Array.replicate (l.toArray.size - n) false) = Array.replicate l.toArray.size false := by
    rw [Array.replicate_append_replicate]
    congr 1
    omega
  rw [e, show n + (l.toArray.size - n) = l.toArray.size by omega] at h2
  exact h2
end

/-- The class of the worlds after some draws, for both. -/
abbrev Drawn (w : World) : World → Prop := fun w' => ∃ n, w' = w.drewN n
end Go.Proofs.YtdmfbcfhfopipaaGreatDoor

/- data's source: bytes that are taken one behind the other; too few end in the panic of data.stop. -/
namespace Go.Proofs.YtdmfbcfhfopipaaGreatDoor
open Go.RowKit

theorem isType_any (n : Int) (w : World) : Calls Tryz.prog 50 #[.int .i64 n] w fun e w' => e = .returned (.bool (decide (0 ≤ n) && decide (n < 65536))) ∧ w = w' := by
  go_enter Tryz.func50, Tryz.ntmps50
  by_cases h : 0 ≤ n
  · have h' : decide (0 ≤ n) = true := by simpa using h
    go_wp2
    go_ret
    exact ⟨by simp [h], rfl⟩
  · have h' : decide (0 ≤ n) = false := by simpa using h
    go_wp2
    go_ret
    exact ⟨by simp, rfl⟩

def stopC : List PanicEntry := [{ v := .iface 191 (.agg #[]), recovered := false }]

theorem must_ok (p : Value) (w : World) : Calls Tryz.prog 154 #[p, .bool true] w fun e w' => e = .returned (.tuple #[]) ∧ w = w' := by
  go_enter Tryz.func154, Tryz.ntmps154
  go_wp2
  go_end0
  exact ⟨rfl, rfl⟩

theorem must_no (p : Value) (w : World) : Calls Tryz.prog 154 #[p, .bool false] w fun e w' => e = .panicked stopC ∧ w = w' := by
  go_enter Tryz.func154, Tryz.ntmps154
  go_wp2
  exact ⟨rfl, rfl, rfl⟩

/-- A source over s, in block b. -/
def Src (b : Nat) (s : ByteArray) (w : World) : Prop := Blk w b #[.string s] 194

theorem bytes_ok (b : Nat) (s : ByteArray) (n : Int) (w : World) (hS : Src b s w) (h0 : 0 ≤ n) (hn : n ≤ s.size) :
    Calls Tryz.prog 155 #[.pointer (some ⟨b, 0, none⟩), .int .i64 n] w fun e w' => e = .returned (.string (s.extract 0 n.toNat)) ∧ Src b (s.extract n.toNat s.size) w' ∧ Only b w w' := by
  have hc : w.cell? ⟨b, 0, none⟩ = some (.string s) := hS.cell 0
  have hf := hS.free 0
  have hq : Src b (s.extract n.toNat s.size) (w.setCell ⟨b, 0, none⟩ (.string (s.extract n.toNat s.size))) := hS.set 0 _
  clear hS
  have HQ := Lib.hid hq; clear hq
  go_enter Tryz.func155, Tryz.ntmps155
  go_wp2_with (go_at_call 154; refine (must_ok _ _).mono ?_; rintro e w' ⟨rfl, rfl⟩)
  go_ret
  exact ⟨rfl, HQ.out, Only.setCell ⟨b, 0, none⟩ rfl _⟩

theorem bytes_no (b : Nat) (s : ByteArray) (n : Int) (w : World) (hS : Src b s w) (hn : (s.size : Int) < n) :
    Calls Tryz.prog 155 #[.pointer (some ⟨b, 0, none⟩), .int .i64 n] w fun e w' => e = .panicked stopC ∧ w = w' := by
  have hc : w.cell? ⟨b, 0, none⟩ = some (.string s) := hS.cell 0
  clear hS
  have hd : decide (n ≤ (s.size : Int)) = false := by simpa using hn
  go_enter Tryz.func155, Tryz.ntmps155
  go_wp2_with (go_at_call 154; refine (must_no _ _).mono ?_; rintro e w' ⟨rfl, rfl⟩)
  exact ⟨rfl, rfl, rfl⟩

/-- A number of the bytes of a text, the great ones first. -/
def numL (l : List UInt8) : Int := l.foldl (fun (v : Int) (b : UInt8) => v * 256 + b.toNat) 0
def numOf (s : ByteArray) : Int := numL s.data.toList

theorem numOf_take (s : ByteArray) (k : Nat) (h : k < s.size) : numL (s.data.toList.take (k + 1)) = numL (s.data.toList.take k) * 256 + (s.data.toList.getD k 0).toNat := by
  unfold numL
  rw [List.take_succ_eq_append_getElem (by simpa using h), List.foldl_append]
  simp [List.getD, List.getElem?_eq_getElem (show k < s.data.toList.length by simpa using h)]

theorem numFold_bd : ∀ (l : List UInt8), 0 ≤ numL l ∧ numL l < 256 ^ l.length := by
  have key : ∀ (l : List UInt8) (a m : Int), 0 ≤ a → a < m → 0 ≤ l.foldl (fun (v : Int) (b : UInt8) => v * 256 + b.toNat) a ∧ l.foldl (fun (v : Int) (b : UInt8) => v * 256 + b.toNat) a < m * 256 ^ l.length := by
    intro l
    induction l with
    | nil => intro a m h0 h1; simpa using ⟨h0, h1⟩
    | cons x l ih =>
      intro a m h0 h1
      have hx : (x.toNat : Int) < 256 := by have := x.toNat_lt; omega
      have := ih (a * 256 + x.toNat) (m * 256) (by omega) (by omega)
      simp only [List.foldl_cons, List.length_cons]
      refine ⟨this.1, ?_⟩
      have e : m * 256 * 256 ^ l.length = m * 256 ^ (l.length + 1) := by rw [Int.pow_succ]; rw [Int.mul_assoc, Int.mul_comm 256]
      rw [← e]; exact this.2
  intro l
  have := key l 0 1 (by omega) (by omega)
  simpa [numL] using this

set_option maxRecDepth 100000 in
theorem number_ok (b : Nat) (s : ByteArray) (n : Int) (w : World) (hS : Src b s w) (h0 : 0 ≤ n) (h7 : n ≤ 7) (hn : n ≤ s.size) :
    Calls Tryz.prog 74 #[.pointer (some ⟨b, 0, none⟩), .int .i64 n] w fun e w' => e = .returned (.int .i64 (numOf (s.extract 0 n.toNat))) ∧ Src b (s.extract n.toNat s.size) w' ∧ Only b w w' := by
  have hct := bytes_ok b s n w hS h0 hn
  clear hS
  obtain ⟨t, ht⟩ : ∃ t, t = s.extract 0 n.toNat := ⟨_, rfl⟩
  rw [← ht] at hct ⊢
  have hts : t.size ≤ 7 := by rw [ht, ByteArray.size_extract]; omega
  clear ht
  obtain ⟨r, hr⟩ : ∃ r, r = s.extract n.toNat s.size := ⟨_, rfl⟩
  rw [← hr] at hct ⊢
  clear hr h0 h7 hn
  have hcv := conv_string_bytes
  go_enter Tryz.func74, Tryz.ntmps74
  go_wp2_with (go_at_call 155; refine hct.mono ?_; clear hct; rintro e w1 ⟨rfl, hS1, hB1⟩)
  go_loop [5, 13] (fun v i => ∃ k : Nat, k ≤ t.size ∧ i = .int .i64 k ∧ v = .int .i64 (numL (t.data.toList.take k))) (fun _ i => t.size - (intOf i).toNat)
  case atStart => exact ⟨0, Nat.zero_le _, rfl, rfl⟩
  case round =>
    obtain ⟨k, hk, rfl, rfl⟩ := hrel
    have hbd := numFold_bd (t.data.toList.take k)
    have hlen : (t.data.toList.take k).length ≤ 6 ∨ k = t.size := by rw [List.length_take]; simp; omega
    by_cases hlt : k < t.size
    · have hcell := Lib.bytesWorld_cell w1 5 t k hlt
      have hs : numL (t.data.toList.take k) < 281474976710656 := by
        have h6 : (t.data.toList.take k).length ≤ 6 := by omega
        have : (256 : Int) ^ (t.data.toList.take k).length ≤ 256 ^ 6 := by
          have := Nat.pow_le_pow_right (show 256 > 0 by omega) h6
          exact_mod_cast this
        omega
      have hso := shl8_or _ (t.data.toList.getD k 0).toNat hbd.1 (by omega) (by omega) (by have := (t.data.toList.getD k 0).toNat_lt; omega)
      rw [← numOf_take t k hlt] at hso
      have HS := Lib.hid hso; clear hso hbd hs hlen
      go_wp2
      go_round
      case rel =>
        refine ⟨k + 1, by omega, by go_num, ?_⟩
        rw [← HS.out]
        simp [List.getD, List.getElem?_eq_getElem (show k < t.data.toList.length by simpa using hlt)]
      case measure => simp [intOf]; omega
    · obtain rfl : k = t.size := by omega
      clear hbd hlen
      go_wp2
      go_ret
      refine ⟨ret_int ?_, hS1.below (below_bytesWorld _ _ _) hS1.lt, hB1.trans (Only.of_below (below_bytesWorld _ _ _))⟩
      rw [List.take_of_length_le (by simp)]; rfl

theorem number_no (b : Nat) (s : ByteArray) (n : Int) (w : World) (hS : Src b s w) (hn : (s.size : Int) < n) :
    Calls Tryz.prog 74 #[.pointer (some ⟨b, 0, none⟩), .int .i64 n] w fun e w' => e = .panicked stopC ∧ w = w' := by
  have hct := bytes_no b s n w hS hn
  clear hS hn
  go_enter Tryz.func74, Tryz.ntmps74
  go_wp2_with (go_at_call 155; refine hct.mono ?_; clear hct; rintro e w1 ⟨rfl, rfl⟩)
  exact ⟨rfl, rfl, rfl⟩

theorem toList_isEmpty {s : ByteArray} (h : s.size ≠ 0) : s.toList.isEmpty = false := by
  rw [ByteArray.toList_eq]
  cases hs : s.data.toList with
  | nil =>
    have := congrArg List.length hs
    simp at this
    exact absurd (by simp [this]) h
  | cons x l => rfl

theorem size_empty {s : ByteArray} (h : s.size = 0) : s = ⟨#[]⟩ := by
  cases s with
  | mk d =>
    have : d = #[] := by simpa [ByteArray.size] using h
    rw [this]

theorem rest_ok (b : Nat) (s : ByteArray) (w : World) (hS : Src b s w) (hn : s.size ≠ 0) :
    Calls Tryz.prog 75 #[.pointer (some ⟨b, 0, none⟩)] w fun e w' => e = .returned (.string s) ∧ Src b ⟨#[]⟩ w' ∧ Only b w w' := by
  have hct := bytes_ok b s s.size w hS (by omega) (by omega)
  have e1 : s.extract 0 (s.size : Int).toNat = s := by simp
  have e2 : s.extract (s.size : Int).toNat s.size = ⟨#[]⟩ := size_empty (by simp)
  rw [e1, e2] at hct
  clear e1 e2
  have hc : w.cell? ⟨b, 0, none⟩ = some (.string s) := hS.cell 0
  have he := toList_isEmpty hn
  clear hS hn
  go_enter Tryz.func75, Tryz.ntmps75
  go_wp2_with (first | (go_at_call 154; refine (must_ok _ _).mono ?_; rintro e w' ⟨rfl, rfl⟩) | (go_at_call 155; refine hct.mono ?_; clear hct; rintro e w1 ⟨rfl, hS1, hB1⟩))
  go_ret
  exact ⟨rfl, hS1, hB1⟩

set_option maxRecDepth 100000 in
theorem rest_no (b : Nat) (w : World) (hS : Src b ⟨#[]⟩ w) :
    Calls Tryz.prog 75 #[.pointer (some ⟨b, 0, none⟩)] w fun e w' => e = .panicked stopC ∧ w = w' := by
  have hc : w.cell? ⟨b, 0, none⟩ = some (.string ⟨#[]⟩) := hS.cell 0
  clear hS
  go_enter Tryz.func75, Tryz.ntmps75
  go_wp2_with (go_at_call 154; refine (must_no _ _).mono ?_; rintro e w' ⟨rfl, rfl⟩)
  exact ⟨rfl, rfl, rfl⟩

/-- What a taker tells: a value and what is left; or the panic. -/
def Taken (b : Nat) (w : World) (ok : Prop) (v : Value) (r : ByteArray) (e : Ending) (w' : World) : Prop :=
  (ok ∧ e = .returned v ∧ Src b r w' ∧ Only b w w') ∨ (¬ ok ∧ e = .panicked stopC ∧ Only b w w')

theorem number_any (b : Nat) (s : ByteArray) (n : Int) (w : World) (hS : Src b s w) (h0 : 0 ≤ n) (h7 : n ≤ 7) :
    Calls Tryz.prog 74 #[.pointer (some ⟨b, 0, none⟩), .int .i64 n] w (Taken b w (n ≤ s.size) (.int .i64 (numOf (s.extract 0 n.toNat))) (s.extract n.toNat s.size)) := by
  by_cases h : n ≤ s.size
  · exact (number_ok b s n w hS h0 h7 h).mono fun e w' ⟨h1, h2, h3⟩ => .inl ⟨h, h1, h2, h3⟩
  · exact (number_no b s n w hS (by omega)).mono fun e w' ⟨h1, h2⟩ => .inr ⟨h, h1, h2 ▸ Only.refl _ _⟩

theorem bytes_any (b : Nat) (s : ByteArray) (n : Int) (w : World) (hS : Src b s w) (h0 : 0 ≤ n) :
    Calls Tryz.prog 155 #[.pointer (some ⟨b, 0, none⟩), .int .i64 n] w (Taken b w (n ≤ s.size) (.string (s.extract 0 n.toNat)) (s.extract n.toNat s.size)) := by
  by_cases h : n ≤ s.size
  · exact (bytes_ok b s n w hS h0 h).mono fun e w' ⟨h1, h2, h3⟩ => .inl ⟨h, h1, h2, h3⟩
  · exact (bytes_no b s n w hS (by omega)).mono fun e w' ⟨h1, h2⟩ => .inr ⟨h, h1, h2 ▸ Only.refl _ _⟩

theorem rest_any (b : Nat) (s : ByteArray) (w : World) (hS : Src b s w) :
    Calls Tryz.prog 75 #[.pointer (some ⟨b, 0, none⟩)] w (Taken b w (s.size ≠ 0) (.string s) ⟨#[]⟩) := by
  by_cases h : s.size ≠ 0
  · exact (rest_ok b s w hS h).mono fun e w' ⟨h1, h2, h3⟩ => .inl ⟨h, h1, h2, h3⟩
  · obtain rfl : s = ⟨#[]⟩ := size_empty (by omega)
    exact (rest_no b w hS).mono fun e w' ⟨h1, h2⟩ => .inr ⟨h, h1, h2 ▸ Only.refl _ _⟩
end Go.Proofs.YtdmfbcfhfopipaaGreatDoor

