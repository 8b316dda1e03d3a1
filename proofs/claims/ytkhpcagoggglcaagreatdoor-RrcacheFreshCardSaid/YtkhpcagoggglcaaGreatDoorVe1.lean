import Derived.Test.YtkhpcagoggglcaaGreatDoorProg
import Derived.WalkKit
import Derived.WalkLawsBesides
import Derived.WalkSpells
import Derived.Lib.Hide
import Derived.Lib.ConvBytes
import Derived.Deep.QuietTactic
import Derived.BigQuiet
import Derived.Deep.LoopGhost
import Derived.Deep.DeepFit
import Derived.Recover
import Derived.Defers
import Derived.RangeFuncNested
import Derived.RangeFuncBound
import Derived.RangeFuncCalls
import Derived.RangeFuncLeaves
import Derived.Shelf.Abstract
import Derived.Shelf.RegionOpen
import Derived.OwnWalkIn
import Derived.TacticsInMore
import Derived.LoopNIn
import Derived.LoopIn
import Derived.Laws.Tables
import Derived.Deep.WholeRow
/- Small laws on memory and lists that all walks of this seat use. -/
namespace Go.Proofs.YtkhpcagoggglcaaGreatDoor
open Go.RowKit

/-- Block b holds these cells and may be written. -/
def Blk (w : World) (b : Nat) (cs : Array Value) (t : TypeId) : Prop := w.heap[b]? = some (.cells cs t (0, 0))

theorem Blk.cell {w : World} {b : Nat} {cs : Array Value} {t : TypeId} (h : Blk w b cs t) (j : Nat) : w.cell? ⟨b, j, none⟩ = cs[j]? := cell_of_row w b j cs t (0, 0) h
theorem Blk.free {w : World} {b : Nat} {cs : Array Value} {t : TypeId} (h : Blk w b cs t) (j : Nat) : w.frozen? ⟨b, j, none⟩ = false := frozen_of_row w b j cs t h
theorem Blk.lt {w : World} {b : Nat} {cs : Array Value} {t : TypeId} (h : Blk w b cs t) : b < w.heap.size := lt_of_block h
theorem Blk.set {w : World} {b : Nat} {cs : Array Value} {t : TypeId} (h : Blk w b cs t) (j : Nat) (v : Value) : Blk (w.setCell ⟨b, j, none⟩ v) b (cs.setIfInBounds j v) t := heap_setCell_same w b j cs t v h
theorem Blk.other {w : World} {b : Nat} {cs : Array Value} {t : TypeId} (h : Blk w b cs t) {p : Addr} (hp : b ≠ p.block) (v : Value) : Blk (w.setCell p v) b cs t := by
  unfold Blk; rw [heap_setCell_other _ _ _ _ hp]; exact h
theorem Blk.below {w w' : World} {B b : Nat} {cs : Array Value} {t : TypeId} (h : Blk w b cs t) (hb : Below B w w') (hlt : b < B) : Blk w' b cs t := by
  unfold Blk; rw [hb.block b hlt]; exact h
theorem Blk.alloc {w : World} {b : Nat} {cs : Array Value} {t : TypeId} (h : Blk w b cs t) (o : Obj) : Blk (w.alloc o) b cs t := by
  unfold Blk; rw [Below.heap_alloc _ _ _ h.lt]; exact h
theorem Blk.new (w : World) (cs : Array Value) (t : TypeId) : Blk (w.alloc (.cells cs t)) w.heap.size cs t := by show (w.heap.push _)[w.heap.size]? = _; simp
theorem Blk.drew {w : World} {b : Nat} {cs : Array Value} {t : TypeId} (h : Blk w b cs t) : Blk w.drew b cs t := h

/-- Of what was there only block b may have turned. -/
structure Only (b : Nat) (w w' : World) : Prop where
  os : w'.os = w.os
  tape : w'.tape = w.tape
  output : w'.output = w.output
  size : w.heap.size ≤ w'.heap.size
  block : ∀ k, k < w.heap.size → k ≠ b → w'.heap[k]? = w.heap[k]?

theorem Only.refl (b : Nat) (w : World) : Only b w w := ⟨rfl, rfl, rfl, Nat.le_refl _, fun _ _ _ => rfl⟩
theorem Only.trans {b : Nat} {u v w : World} (h : Only b u v) (k : Only b v w) : Only b u w :=
  ⟨k.os.trans h.os, k.tape.trans h.tape, k.output.trans h.output, Nat.le_trans h.size k.size, fun i hi hb => (k.block i (Nat.lt_of_lt_of_le hi h.size) hb).trans (h.block i hi hb)⟩
theorem Only.of_below {b : Nat} {w w' : World} (h : Below w.heap.size w w') : Only b w w' := ⟨h.os, h.tape, h.output, h.size, fun k hk _ => h.block k hk⟩
theorem Only.below {b : Nat} {w w' : World} (h : Only b w w') (hb : b < w.heap.size) : Below b w w' := ⟨h.os, h.tape, h.output, h.size, fun k hk => h.block k (by omega) (by omega)⟩
theorem Only.belowOf {b B : Nat} {w w' : World} (h : Only b w w') (hB : B ≤ b) (hs : B ≤ w.heap.size) : Below B w w' := ⟨h.os, h.tape, h.output, h.size, fun k hk => h.block k (by omega) (by omega)⟩
theorem Only.setCell {b : Nat} {w : World} (p : Addr) (hp : p.block = b) (v : Value) : Only b w (w.setCell p v) := ⟨rfl, rfl, rfl, by simp, fun k _ hb => heap_setCell_other _ _ _ _ (by omega)⟩
theorem Only.alloc {b : Nat} (w : World) (o : Obj) : Only b w (w.alloc o) := Only.of_below ((Below.refl _ w).alloc (Nat.le_refl _) o)
theorem Blk.only {w w' : World} {b c : Nat} {cs : Array Value} {t : TypeId} (h : Blk w c cs t) (hb : Only b w w') (hne : c ≠ b) : Blk w' c cs t := by
  unfold Blk; rw [hb.block c h.lt hne]; exact h

theorem Only.setNew {b : Nat} {w w' : World} (h : Only b w w') {p : Addr} (hp : w.heap.size ≤ p.block) (v : Value) : Only b w (w'.setCell p v) :=
  ⟨h.os, h.tape, h.output, by simpa using h.size, fun k hk hb => by rw [heap_setCell_other _ _ _ _ (by omega)]; exact h.block k hk hb⟩
theorem Only.allocNew {b : Nat} {w w' : World} (h : Only b w w') (o : Obj) : Only b w (w'.alloc o) := h.trans (Only.alloc _ _)
theorem Only.drew {b : Nat} {w w' : World} (h : Only b w w') : Only b w w'.drew := ⟨h.os, h.tape, h.output, h.size, h.block⟩

theorem below_bytesWorld (w : World) (e : TypeId) (s : ByteArray) : Below w.heap.size w (Lib.bytesWorld w e s) :=
  ⟨rfl, rfl, rfl, by rw [Lib.bytesWorld_size]; omega, fun k hk => Lib.bytesWorld_at_old w e s k hk⟩

theorem info_Key : (Tryz.prog.info? 141).map (·.size) = some 4 := by kernel_rfl

theorem conv_string_bytes (w : World) (s : ByteArray) : (convert 9 82 (.string s)).run Tryz.prog w = .ok (.slice (some ⟨w.heap.size, 0, none⟩) s.size (grownCap w s.size 0 5)) (Lib.bytesWorld w 5 s) :=
  Lib.run_convert_string_bytes (P := Tryz.prog) w 9 82 5 s Tryz.underlying9 Tryz.underlying82 Tryz.underlying5

theorem makeFunc_run (fn : Fn) (first cap : Array Value) (w : World) : (Instr.makeFunc fn first cap).run Tryz.prog w = .ok (.func fn first cap) w := rfl

section results
variable {P : Program}
/-- What a result variable holds at the end. -/
def RvOk (P : Program) (tmps : Array Value) (w : World) : ResultVar → Value → Prop
  | .tmp t, v => tmps.getD t undef = v
  | .cell a t, v => ∃ g, tmps.getD a undef = .pointer (some g) ∧ (loadVar t g).run P w = .ok v w

def rvSem (tmps : Array Value) : ResultVar → Sem Value
  | .tmp t => pure (tmps.getD t undef)
  | .cell a t => do loadVar t (← asAddr (tmps.getD a undef))

theorem rvSem_run {tmps : Array Value} {w : World} {r : ResultVar} {v : Value} (h : RvOk P tmps w r v) : (rvSem tmps r).run P w = .ok v w := by
  cases r with
  | tmp t =>
    simp only [rvSem, RvOk] at h ⊢
    rw [h]; rfl
  | cell a t =>
    simp only [rvSem, RvOk] at h ⊢
    obtain ⟨g, hg, hl⟩ := h
    rw [hg, Sem.run_bind]
    simp only [asAddr, Sem.run_pure, Result.andThen_ok]
    exact hl

theorem results_eq (fn : Func) (tmps : Array Value) : results fn tmps = (do let vs ← fn.results.mapM (rvSem tmps); pure (if h : vs.size = 1 then vs[0] else .tuple vs)) := by
  have e : (fun x => match x with
      | ResultVar.tmp t => (pure (tmps.getD t undef) : Sem Value)
      | ResultVar.cell a t => do loadVar t (← asAddr (tmps.getD a undef))) = rvSem tmps := by
    funext x; cases x <;> rfl
  unfold results
  rw [← e]
  rfl

theorem results1 {fn : Func} {tmps : Array Value} {w : World} {r : ResultVar} {v : Value} (h : fn.results = #[r]) (h1 : RvOk P tmps w r v) : (results fn tmps).run P w = .ok v w := by
  rw [results_eq, h]; simp [rvSem_run h1]
theorem results2 {fn : Func} {tmps : Array Value} {w : World} {r s : ResultVar} {v u : Value} (h : fn.results = #[r, s]) (h1 : RvOk P tmps w r v) (h2 : RvOk P tmps w s u) : (results fn tmps).run P w = .ok (.tuple #[v, u]) w := by
  rw [results_eq, h]; simp [Sem.run_bind, rvSem_run h1, rvSem_run h2]
theorem results3 {fn : Func} {tmps : Array Value} {w : World} {r s q : ResultVar} {v u x : Value} (h : fn.results = #[r, s, q]) (h1 : RvOk P tmps w r v) (h2 : RvOk P tmps w s u) (h3 : RvOk P tmps w q x) : (results fn tmps).run P w = .ok (.tuple #[v, u, x]) w := by
  rw [results_eq, h]; simp [Sem.run_bind, rvSem_run h1, rvSem_run h2, rvSem_run h3]

theorem loadVar_blk {w : World} {g : Nat} {t ty : TypeId} {cs : Array Value} {d : TypeDesc} (hg : Blk w g cs t) (hu : P.underlying ty = some d) (hd : (match d with | .struct _ | .array _ _ => true | _ => false) = true)
    (hi : (P.info? ty).map (·.size) = some cs.size) : (loadVar ty ⟨g, 0, none⟩).run P w = .ok (.agg cs) w := run_loadVar_row w g t ty cs (0, 0) d hg hu hd hi
theorem loadVar_int {w : World} {g : Nat} {t ty : TypeId} {v : Value} {k : IntKind} (hg : Blk w g #[v] t) (hu : P.underlying ty = some (.int k)) : (loadVar ty ⟨g, 0, none⟩).run P w = .ok v w := by
  have hagg : (isAgg ty).run P w = .ok false w := by
    unfold isAgg
    rw [Sem.run_bind, run_underlying hu w]
    rfl
  have hc : w.cell? ⟨g, 0, none⟩ = some v := hg.cell 0
  simp [loadVar, Sem.run_bind, hagg, go_sem, hc]
end results

/-- A string's byte (0 beyond). -/
def byt (s : ByteArray) (k : Nat) : UInt8 := s.data.toList.getD k 0

theorem ret_int {k : IntKind} {a b : Int} (h : a = b) : Ending.returned (.int k a) = .returned (.int k b) := by rw [h]

end Go.Proofs.YtkhpcagoggglcaaGreatDoor

/- Laws on bits of whole numbers. -/
namespace Go.Proofs.YtkhpcagoggglcaaGreatDoor
open Go.RowKit

theorem ofInt_i64 (a : Nat) (ha : a < 18446744073709551616) : (BitVec.ofInt 64 (a : Int)).toNat = a := by
  rw [BitVec.ofInt_natCast, BitVec.toNat_ofNat]; exact Nat.mod_eq_of_lt (by omega)
theorem i64_or_nat (a b : Nat) (ha : a < 9223372036854775808) (hb : b < 9223372036854775808) : bits .or .i64 (a : Int) (b : Int) = ((a ||| b : Nat) : Int) := by
  have hx : a ||| b < 2 ^ 63 := Nat.or_lt_two_pow (by omega) (by omega)
  show IntKind.i64.wrap ((BitVec.ofInt 64 (a : Int) ||| BitVec.ofInt 64 (b : Int)).toNat : Int) = _
  rw [BitVec.toNat_or, ofInt_i64 a (by omega), ofInt_i64 b (by omega), IntKind.wrap_i64]
  omega
theorem i64_and_nat (a b : Nat) (ha : a < 9223372036854775808) (hb : b < 9223372036854775808) : bits .and .i64 (a : Int) (b : Int) = ((a &&& b : Nat) : Int) := by
  have hx : a &&& b < 2 ^ 63 := Nat.and_lt_two_pow _ (by omega)
  show IntKind.i64.wrap ((BitVec.ofInt 64 (a : Int) &&& BitVec.ofInt 64 (b : Int)).toNat : Int) = _
  rw [BitVec.toNat_and, ofInt_i64 a (by omega), ofInt_i64 b (by omega), IntKind.wrap_i64]
  omega
theorem i64_xor_nat (a b : Nat) (ha : a < 9223372036854775808) (hb : b < 9223372036854775808) : bits .xor .i64 (a : Int) (b : Int) = ((a ^^^ b : Nat) : Int) := by
  have hx : a ^^^ b < 2 ^ 63 := Nat.xor_lt_two_pow (by omega) (by omega)
  show IntKind.i64.wrap ((BitVec.ofInt 64 (a : Int) ^^^ BitVec.ofInt 64 (b : Int)).toNat : Int) = _
  rw [BitVec.toNat_xor, ofInt_i64 a (by omega), ofInt_i64 b (by omega), IntKind.wrap_i64]
  omega

/-- 'v << 8 | b'. -/
theorem shl8_or (v b : Int) (h0 : 0 ≤ v) (h1 : v < 36028797018963968) (hb0 : 0 ≤ b) (hb : b < 256) : bits .or .i64 (wrap64 (v * 256)) (wrap64 b) = v * 256 + b := by
  obtain ⟨V, rfl⟩ := Int.eq_ofNat_of_zero_le h0
  obtain ⟨B, rfl⟩ := Int.eq_ofNat_of_zero_le hb0
  have e1 : wrap64 ((V : Int) * 256) = ((V * 256 : Nat) : Int) := by unfold wrap64; omega
  have e2 : wrap64 (B : Int) = ((B : Nat) : Int) := by unfold wrap64; omega
  rw [e1, e2, i64_or_nat _ _ (by omega) (by omega), nat_join 8 (V * 256) B (by omega) (by omega)]
  omega
end Go.Proofs.YtkhpcagoggglcaaGreatDoor

/- data's source: bytes that are taken one behind the other; too few end in the panic of data.stop. -/
namespace Go.Proofs.YtkhpcagoggglcaaGreatDoor
open Go.RowKit

theorem isType_any (n : Int) (w : World) : Calls Tryz.prog 37 #[.int .i64 n] w fun e w' => e = .returned (.bool (decide (0 ≤ n) && decide (n < 65536))) ∧ w = w' := by
  go_enter Tryz.func37, Tryz.ntmps37
  by_cases h : 0 ≤ n
  · have h' : decide (0 ≤ n) = true := by simpa using h
    go_wp2
    go_ret
    exact ⟨by simp [h], rfl⟩
  · have h' : decide (0 ≤ n) = false := by simpa using h
    go_wp2
    go_ret
    exact ⟨by simp, rfl⟩

def stopC : List PanicEntry := [{ v := .iface 162 (.agg #[]), recovered := false }]

theorem must_ok (p : Value) (w : World) : Calls Tryz.prog 111 #[p, .bool true] w fun e w' => e = .returned (.tuple #[]) ∧ w = w' := by
  go_enter Tryz.func111, Tryz.ntmps111
  go_wp2
  go_end0
  exact ⟨rfl, rfl⟩

theorem must_no (p : Value) (w : World) : Calls Tryz.prog 111 #[p, .bool false] w fun e w' => e = .panicked stopC ∧ w = w' := by
  go_enter Tryz.func111, Tryz.ntmps111
  go_wp2
  exact ⟨rfl, rfl, rfl⟩

/-- A source over s, in block b. -/
def Src (b : Nat) (s : ByteArray) (w : World) : Prop := Blk w b #[.string s] 165

theorem bytes_ok (b : Nat) (s : ByteArray) (n : Int) (w : World) (hS : Src b s w) (h0 : 0 ≤ n) (hn : n ≤ s.size) :
    Calls Tryz.prog 112 #[.pointer (some ⟨b, 0, none⟩), .int .i64 n] w fun e w' => e = .returned (.string (s.extract 0 n.toNat)) ∧ Src b (s.extract n.toNat s.size) w' ∧ Only b w w' := by
  have hc : w.cell? ⟨b, 0, none⟩ = some (.string s) := hS.cell 0
  have hf := hS.free 0
  have hq : Src b (s.extract n.toNat s.size) (w.setCell ⟨b, 0, none⟩ (.string (s.extract n.toNat s.size))) := hS.set 0 _
  clear hS
  have HQ := Lib.hid hq; clear hq
  go_enter Tryz.func112, Tryz.ntmps112
  go_wp2_with (go_at_call 111; refine (must_ok _ _).mono ?_; rintro e w' ⟨rfl, rfl⟩)
  go_ret
  exact ⟨rfl, HQ.out, Only.setCell ⟨b, 0, none⟩ rfl _⟩

theorem bytes_no (b : Nat) (s : ByteArray) (n : Int) (w : World) (hS : Src b s w) (hn : (s.size : Int) < n) :
    Calls Tryz.prog 112 #[.pointer (some ⟨b, 0, none⟩), .int .i64 n] w fun e w' => e = .panicked stopC ∧ w = w' := by
  have hc : w.cell? ⟨b, 0, none⟩ = some (.string s) := hS.cell 0
  clear hS
  have hd : decide (n ≤ (s.size : Int)) = false := by simpa using hn
  go_enter Tryz.func112, Tryz.ntmps112
  go_wp2_with (go_at_call 111; refine (must_no _ _).mono ?_; rintro e w' ⟨rfl, rfl⟩)
  exact ⟨rfl, rfl, rfl⟩

/-- A number of the bytes of a text, the great ones first. -/
def numL (l : List UInt8) : Int := l.foldl (fun (v : Int) (b : UInt8) => v * 256 + b.toNat) 0
def numOf (s : ByteArray) : Int := numL s.data.toList

theorem numOf_take (s : ByteArray) (k : Nat) (h : k < s.size) : numL (s.data.toList.take (k + 1)) = numL (s.data.toList.take k) * 256 + (s.data.toList.getD k 0).toNat := by
  unfold numL
  rw [List.take_succ_eq_append_getElem (by simpa using h), List.foldl_append]
  simp [List.getD, List.getElem?_eq_getElem (show k < s.data.toList.length by simpa using h)]

theorem numFold_bd : ∀ (l : List UInt8), 0 ≤ numL l ∧ numL l < 256 ^ l.length := by
  have key : ∀ (l : List UInt8) (a m : Int), 0 ≤ a → a < m → 0 ≤ l.foldl (fun (v : Int) (b : UInt8) => v * 256 + b.toNat) a ∧ l.foldl (fun (v : Int) (b : UInt8) => v * 256 + b.toNat) a < m * 256 ^ l.length := by
    intro l
    induction l with
    | nil => intro a m h0 h1; simpa using ⟨h0, h1⟩
    | cons x l ih =>
      intro a m h0 h1
      have hx : (x.toNat : Int) < 256 := by have := x.toNat_lt; omega
      have := ih (a * 256 + x.toNat) (m * 256) (by omega) (by omega)
      simp only [List.foldl_cons, List.length_cons]
      refine ⟨this.1, ?_⟩
      have e : m * 256 * 256 ^ l.length = m * 256 ^ (l.length + 1) := by rw [Int.pow_succ]; rw [Int.mul_assoc, Int.mul_comm 256]
      rw [← e]; exact this.2
  intro l
  have := key l 0 1 (by omega) (by omega)
  simpa [numL] using this

set_option maxRecDepth 100000 in
theorem number_ok (b : Nat) (s : ByteArray) (n : Int) (w : World) (hS : Src b s w) (h0 : 0 ≤ n) (h7 : n ≤ 7) (hn : n ≤ s.size) :
    Calls Tryz.prog 44 #[.pointer (some ⟨b, 0, none⟩), .int .i64 n] w fun e w' => e = .returned (.int .i64 (numOf (s.extract 0 n.toNat))) ∧ Src b (s.extract n.toNat s.size) w' ∧ Only b w w' := by
  have hct := bytes_ok b s n w hS h0 hn
  clear hS
  obtain ⟨t, ht⟩ : ∃ t, t = s.extract 0 n.toNat := ⟨_, rfl⟩
  rw [← ht] at hct ⊢
  have hts : t.size ≤ 7 := by rw [ht, ByteArray.size_extract]; omega
  clear ht
  obtain ⟨r, hr⟩ : ∃ r, r = s.extract n.toNat s.size := ⟨_, rfl⟩
  rw [← hr] at hct ⊢
  clear hr h0 h7 hn
  have hcv := conv_string_bytes
  go_enter Tryz.func44, Tryz.ntmps44
  go_wp2_with (go_at_call 112; refine hct.mono ?_; clear hct; rintro e w1 ⟨rfl, hS1, hB1⟩)
  go_loop [5, 13] (fun v i => ∃ k : Nat, k ≤ t.size ∧ i = .int .i64 k ∧ v = .int .i64 (numL (t.data.toList.take k))) (fun _ i => t.size - (intOf i).toNat)
  case atStart => exact ⟨0, Nat.zero_le _, rfl, rfl⟩
  case round =>
    obtain ⟨k, hk, rfl, rfl⟩ := hrel
    have hbd := numFold_bd (t.data.toList.take k)
    have hlen : (t.data.toList.take k).length ≤ 6 ∨ k = t.size := by rw [List.length_take]; simp; omega
    by_cases hlt : k < t.size
    · have hcell := Lib.bytesWorld_cell w1 5 t k hlt
      have hs : numL (t.data.toList.take k) < 281474976710656 := by
        have h6 : (t.data.toList.take k).length ≤ 6 := by omega
        have : (256 : Int) ^ (t.data.toList.take k).length ≤ 256 ^ 6 := by
          have := Nat.pow_le_pow_right (show 256 > 0 by omega) h6
          exact_mod_cast this
        omega
      have hso := shl8_or _ (t.data.toList.getD k 0).toNat hbd.1 (by omega) (by omega) (by have := (t.data.toList.getD k 0).toNat_lt; omega)
      rw [← numOf_take t k hlt] at hso
      have HS := Lib.hid hso; clear hso hbd hs hlen
      go_wp2
      go_round
      case rel =>
        refine ⟨k + 1, by omega, by go_num, ?_⟩
        rw [← HS.out]
        simp [List.getD, List.getElem?_eq_getElem (show k < t.data.toList.length by simpa using hlt)]
      case measure => simp [intOf]; omega
    · obtain rfl : k = t.size := by omega
      clear hbd hlen
      go_wp2
      go_ret
      refine ⟨ret_int ?_, hS1.below (below_bytesWorld _ _ _) hS1.lt, hB1.trans (Only.of_below (below_bytesWorld _ _ _))⟩
      rw [List.take_of_length_le (by simp)]; rfl

theorem number_no (b : Nat) (s : ByteArray) (n : Int) (w : World) (hS : Src b s w) (hn : (s.size : Int) < n) :
    Calls Tryz.prog 44 #[.pointer (some ⟨b, 0, none⟩), .int .i64 n] w fun e w' => e = .panicked stopC ∧ w = w' := by
  have hct := bytes_no b s n w hS hn
  clear hS hn
  go_enter Tryz.func44, Tryz.ntmps44
  go_wp2_with (go_at_call 112; refine hct.mono ?_; clear hct; rintro e w1 ⟨rfl, rfl⟩)
  exact ⟨rfl, rfl, rfl⟩

theorem toList_isEmpty {s : ByteArray} (h : s.size ≠ 0) : s.toList.isEmpty = false := by
  rw [ByteArray.toList_eq]
  cases hs : s.data.toList with
  | nil =>
    have := congrArg List.length hs
    simp at this
    exact absurd (by simp [this]) h
  | cons x l => rfl

theorem size_empty {s : ByteArray} (h : s.size = 0) : s = ⟨#[]⟩ := by
  cases s with
  | mk d =>
    have : d = #[] := by simpa [ByteArray.size] using h
    rw [this]

theorem rest_ok (b : Nat) (s : ByteArray) (w : World) (hS : Src b s w) (hn : s.size ≠ 0) :
    Calls Tryz.prog 46 #[.pointer (some ⟨b, 0, none⟩)] w fun e w' => e = .returned (.string s) ∧ Src b ⟨#[]⟩ w' ∧ Only b w w' := by
  have hct := bytes_ok b s s.size w hS (by omega) (by omega)
  have e1 : s.extract 0 (s.size : Int).toNat = s := by simp
  have e2 : s.extract (s.size : Int).toNat s.size = ⟨#[]⟩ := size_empty (by simp)
  rw [e1, e2] at hct
  clear e1 e2
  have hc : w.cell? ⟨b, 0, none⟩ = some (.string s) := hS.cell 0
  have he := toList_isEmpty hn
  clear hS hn
  go_enter Tryz.func46, Tryz.ntmps46
  go_wp2_with (first | (go_at_call 111; refine (must_ok _ _).mono ?_; rintro e w' ⟨rfl, rfl⟩) | (go_at_call 112; refine hct.mono ?_; clear hct; rintro e w1 ⟨rfl, hS1, hB1⟩))
  go_ret
  exact ⟨rfl, hS1, hB1⟩

set_option maxRecDepth 100000 in
theorem rest_no (b : Nat) (w : World) (hS : Src b ⟨#[]⟩ w) :
    Calls Tryz.prog 46 #[.pointer (some ⟨b, 0, none⟩)] w fun e w' => e = .panicked stopC ∧ w = w' := by
  have hc : w.cell? ⟨b, 0, none⟩ = some (.string ⟨#[]⟩) := hS.cell 0
  clear hS
  go_enter Tryz.func46, Tryz.ntmps46
  go_wp2_with (go_at_call 111; refine (must_no _ _).mono ?_; rintro e w' ⟨rfl, rfl⟩)
  exact ⟨rfl, rfl, rfl⟩

/-- What a taker tells: a value and what is left; or the panic. -/
def Taken (b : Nat) (w : World) (ok : Prop) (v : Value) (r : ByteArray) (e : Ending) (w' : World) : Prop :=
  (ok ∧ e = .returned v ∧ Src b r w' ∧ Only b w w') ∨ (¬ ok ∧ e = .panicked stopC ∧ Only b w w')

theorem number_any (b : Nat) (s : ByteArray) (n : Int) (w : World) (hS : Src b s w) (h0 : 0 ≤ n) (h7 : n ≤ 7) :
    Calls Tryz.prog 44 #[.pointer (some ⟨b, 0, none⟩), .int .i64 n] w (Taken b w (n ≤ s.size) (.int .i64 (numOf (s.extract 0 n.toNat))) (s.extract n.toNat s.size)) := by
  by_cases h : n ≤ s.size
  · exact (number_ok b s n w hS h0 h7 h).mono fun e w' ⟨h1, h2, h3⟩ => .inl ⟨h, h1, h2, h3⟩
  · exact (number_no b s n w hS (by omega)).mono fun e w' ⟨h1, h2⟩ => .inr ⟨h, h1, h2 ▸ Only.refl _ _⟩

theorem bytes_any (b : Nat) (s : ByteArray) (n : Int) (w : World) (hS : Src b s w) (h0 : 0 ≤ n) :
    Calls Tryz.prog 112 #[.pointer (some ⟨b, 0, none⟩), .int .i64 n] w (Taken b w (n ≤ s.size) (.string (s.extract 0 n.toNat)) (s.extract n.toNat s.size)) := by
  by_cases h : n ≤ s.size
  · exact (bytes_ok b s n w hS h0 h).mono fun e w' ⟨h1, h2, h3⟩ => .inl ⟨h, h1, h2, h3⟩
  · exact (bytes_no b s n w hS (by omega)).mono fun e w' ⟨h1, h2⟩ => .inr ⟨h, h1, h2 ▸ Only.refl _ _⟩

theorem rest_any (b : Nat) (s : ByteArray) (w : World) (hS : Src b s w) :
    Calls Tryz.prog 46 #[.pointer (some ⟨b, 0, none⟩)] w (Taken b w (s.size ≠ 0) (.string s) ⟨#[]⟩) := by
  by_cases h : s.size ≠ 0
  · exact (rest_ok b s w hS h).mono fun e w' ⟨h1, h2, h3⟩ => .inl ⟨h, h1, h2, h3⟩
  · obtain rfl : s = ⟨#[]⟩ := size_empty (by omega)
    exact (rest_no b w hS).mono fun e w' ⟨h1, h2⟩ => .inr ⟨h, h1, h2 ▸ Only.refl _ _⟩
end Go.Proofs.YtkhpcagoggglcaaGreatDoor

/- data.Key: a key's parts out of its data. -/
namespace Go.Proofs.YtkhpcagoggglcaaGreatDoor
open Go.RowKit

/-- What a key has. -/
structure KeyD where
  flags : Int
  protocol : Int
  alg : Int
  pub : ByteArray
def KeyD.v (k : KeyD) : Value := .agg #[.int .i64 k.flags, .int .i64 k.protocol, .int .i64 k.alg, .string k.pub]
def KeyD.none : KeyD := ⟨0, 0, 0, ⟨#[]⟩⟩

/-- The key that data tell (at least five bytes, at most 2000). -/
def keyOfD (d : ByteArray) : KeyD := ⟨numOf (d.extract 0 2), numOf (d.extract 2 3), numOf (d.extract 3 4), d.extract 4 d.size⟩
def keyRight (d : ByteArray) : Bool := decide (5 ≤ d.size) && decide (d.size ≤ 2000)

theorem key1_any (b : Nat) (s : ByteArray) (w : World) (hS : Src b s w) :
    Calls Tryz.prog 162 #[.pointer (some ⟨b, 0, none⟩)] w (Taken b w (5 ≤ s.size) (keyOfD s).v ⟨#[]⟩) := by
  have h1 := fun w h => number_any b s 2 w h (by omega) (by omega)
  have h2 := fun w h => number_any b (s.extract 2 s.size) 1 w h (by omega) (by omega)
  have h3 := fun w h => number_any b (s.extract 3 s.size) 1 w h (by omega) (by omega)
  have h4 := fun w h => rest_any b (s.extract 4 s.size) w h
  have z2 : (s.extract 2 s.size).size = s.size - 2 := by simp
  have z3 : (s.extract 3 s.size).size = s.size - 3 := by simp
  have z4 : (s.extract 4 s.size).size = s.size - 4 := by simp
  have e1 : (s.extract 2 s.size).extract 1 (s.extract 2 s.size).size = s.extract 3 s.size := by simp [ByteArray.extract_extract]; congr 1; omega
  have e2 : (s.extract 3 s.size).extract 1 (s.extract 3 s.size).size = s.extract 4 s.size := by simp [ByteArray.extract_extract]; congr 1; omega
  have e3 : 3 ≤ s.size → (s.extract 2 s.size).extract 0 1 = s.extract 2 3 := by intro h; simp [ByteArray.extract_extract]; congr 1; omega
  have e4 : 4 ≤ s.size → (s.extract 3 s.size).extract 0 1 = s.extract 3 4 := by intro h; simp [ByteArray.extract_extract]; congr 1; omega
  simp only [Int.reduceToNat, e1, e2] at h1 h2 h3
  have hv : (keyOfD s).v = .agg #[.int .i64 (numOf (s.extract 0 2)), .int .i64 (numOf (s.extract 2 3)), .int .i64 (numOf (s.extract 3 4)), .string (s.extract 4 s.size)] := rfl
  have hv' : 5 ≤ s.size → (keyOfD s).v = .agg #[.int .i64 (numOf (s.extract 0 2)), .int .i64 (numOf ((s.extract 2 s.size).extract 0 1)), .int .i64 (numOf ((s.extract 3 s.size).extract 0 1)), .string (s.extract 4 s.size)] := by
    intro h; rw [hv, e3 (by omega), e4 (by omega)]
  clear e1 e2 e3 e4 hv
  generalize (keyOfD s).v = V at *
  have hne : w.heap.size ≠ b := by have := hS.lt; omega
  generalize numOf (s.extract 0 2) = f at *
  generalize numOf ((s.extract 2 s.size).extract 0 1) = p at *
  generalize numOf ((s.extract 3 s.size).extract 0 1) = a at *
  generalize s.extract 4 s.size = q at *
  generalize s.extract 3 s.size = s3 at *
  generalize s.extract 2 s.size = s2 at *
  have H1 := Lib.hid h1; have H2 := Lib.hid h2; have H3 := Lib.hid h3; have H4 := Lib.hid h4
  have HS := Lib.hid hS; have HV := Lib.hid hv'; have Z2 := Lib.hid z2; have Z3 := Lib.hid z3; have Z4 := Lib.hid z4
  clear h1 h2 h3 h4 hS hv' z2 z3 z4
  go_enter Tryz.func162, Tryz.ntmps162
  go_wp2_with fail
  refine (H1.out _ (HS.out.alloc _)).mono ?_
  rintro e w1 (⟨hn1, rfl, hS1, hO1⟩ | ⟨hn1, rfl, hO1⟩)
  case inr => exact ⟨rfl, .inr ⟨by omega, rfl, (Only.alloc w _).trans hO1⟩⟩
  have hB1 := (Blk.new w #[.int .i64 0, .int .i64 0, .int .i64 0, .string ⟨#[]⟩] 141).only hO1 hne
  have HQ1 := Lib.hid hS1; have HB1 := Lib.hid hB1; clear hS1 hB1
  go_wp2_with fail
  refine (H2.out _ HQ1.out).mono ?_
  rintro e w2 (⟨hn2, rfl, hS2, hO2⟩ | ⟨hn2, rfl, hO2⟩)
  case inr => exact ⟨rfl, .inr ⟨by have := Z2.out; omega, rfl, ((Only.alloc w _).trans hO1).trans hO2⟩⟩
  have HQ2 := Lib.hid hS2; have HB2 := Lib.hid (HB1.out.only hO2 hne); clear hS2 HB1
  go_wp2_with fail
  refine (H3.out _ HQ2.out).mono ?_
  rintro e w3 (⟨hn3, rfl, hS3, hO3⟩ | ⟨hn3, rfl, hO3⟩)
  case inr => exact ⟨rfl, .inr ⟨by have := Z3.out; omega, rfl, ((Only.alloc w _).trans hO1).trans (hO2.trans hO3)⟩⟩
  have HQ3 := Lib.hid hS3; have HB3 := Lib.hid (HB2.out.only hO3 hne); clear hS3 HB2
  go_wp2_with fail
  refine (H4.out _ HQ3.out).mono ?_
  rintro e w4 (⟨hn4, rfl, hS4, hO4⟩ | ⟨hn4, rfl, hO4⟩)
  case inr => exact ⟨rfl, .inr ⟨by have := Z4.out; omega, rfl, ((Only.alloc w _).trans hO1).trans (hO2.trans (hO3.trans hO4))⟩⟩
  have h5 : 5 ≤ s.size := by have := Z4.out; omega
  have HQ4 := Lib.hid hS4; have hB4 := (HB3.out.only hO4 hne); clear hS4 HB3
  have c0 : w4.cell? ⟨w.heap.size, 0, none⟩ = some (.int .i64 0) := hB4.cell 0
  have c1 : w4.cell? ⟨w.heap.size, 1, none⟩ = some (.int .i64 0) := hB4.cell 1
  have c2 : w4.cell? ⟨w.heap.size, 2, none⟩ = some (.int .i64 0) := hB4.cell 2
  have c3 : w4.cell? ⟨w.heap.size, 3, none⟩ = some (.string ⟨#[]⟩) := hB4.cell 3
  have f0 := fun j => hB4.free j
  clear H1 H2 H3 H4 HS HQ1 HQ2 HQ3
  go_wp2_with fail
  have hF : Blk ((((((((w4.setCell ⟨w.heap.size, 0, none⟩ (.int .i64 f)).setCell ⟨w.heap.size, 1, none⟩ (.int .i64 p)).setCell ⟨w.heap.size, 2, none⟩ (.int .i64 a)).setCell ⟨w.heap.size, 3, none⟩ (.string q)).setCell ⟨w.heap.size, 0, none⟩ (.int .i64 f)).setCell ⟨w.heap.size, 1, none⟩ (.int .i64 p)).setCell ⟨w.heap.size, 2, none⟩ (.int .i64 a)).setCell ⟨w.heap.size, 3, none⟩ (.string q)) w.heap.size #[.int .i64 f, .int .i64 p, .int .i64 a, .string q] 141 := by
    simpa using (((((((hB4.set 0 (.int .i64 f)).set 1 (.int .i64 p)).set 2 (.int .i64 a)).set 3 (.string q)).set 0 (.int .i64 f)).set 1 (.int .i64 p)).set 2 (.int .i64 a)).set 3 (.string q)
  refine bodyPost_ret (v := .agg #[.int .i64 f, .int .i64 p, .int .i64 a, .string q]) (results_cell_row rfl _ _ w.heap.size _ _ (0, 0) _ rfl hF Tryz.underlying141 rfl info_Key) rfl (.inl ⟨h5, by rw [HV.out h5], ?_, ?_⟩)
  · have n : b ≠ w.heap.size := fun h => hne h.symm
    iterate 8 refine Blk.other ?_ n _
    exact HQ4.out
  · iterate 8 refine Only.setNew ?_ (Nat.le_refl _) _
    exact ((Only.alloc w _).trans hO1).trans (hO2.trans (hO3.trans hO4))
end Go.Proofs.YtkhpcagoggglcaaGreatDoor

/- data.take at Key: what is taken, or ErrData. -/
namespace Go.Proofs.YtkhpcagoggglcaaGreatDoor
open Go.RowKit

theorem assert_stop (w : World) : (Instr.typeAssert (.iface 162 (.agg #[])) 20 162 true).run Tryz.prog w = .ok (.tuple #[.agg #[], .bool true]) w := by kernel_rfl

set_option maxRecDepth 100000 in
theorem take1_panic (B n m : Nat) (w : World) (h0 : Blk w n #[.int .i64 0, .int .i64 0, .int .i64 0, .string ⟨#[]⟩] 141) (h1 : Blk w m #[.int .i64 0] 25) (hne : n ≠ m) (hBn : B ≤ n) (hBm : B ≤ m) :
    CallsD Tryz.prog 197 #[.pointer (some ⟨n, 0, none⟩), .pointer (some ⟨m, 0, none⟩)] (.panicking [{ v := .iface 162 (.agg #[]), recovered := false }]) w fun e u' w' =>
      e = .returned (.tuple #[]) ∧ u' = .panicking [{ v := .iface 162 (.agg #[]), recovered := true }] ∧ Blk w' n #[.int .i64 0, .int .i64 0, .int .i64 0, .string ⟨#[]⟩] 141 ∧ Blk w' m #[.int .i64 6] 25 ∧ Below B w w' := by
  refine callsD_of_wpS Tryz.func197 rfl fun c₀ cs hu => ?_
  simp only [Tryz.ntmps197, List.size_toArray, List.length_cons, List.length_nil, Nat.reduceAdd, Nat.reduceSub, Array.replicate_succ, Array.replicate_zero, List.push_toArray, List.append_toArray, List.nil_append, List.cons_append]
  apply wpS_seq
  apply wpS_region
  simp [wpOpsS, go_sem, recoverD, hu, Exit.thenS]
  refine wpS_of_wp (wp_mono (Q := fun e a' w' => e = .normal ∧ a'.defers = [] ∧ Blk w' n #[.int .i64 0, .int .i64 0, .int .i64 0, .string ⟨#[]⟩] 141 ∧ Blk w' m #[.int .i64 6] 25 ∧ Below B w w') ?_ ?_)
  · have c0 : w.cell? ⟨n, 0, none⟩ = some (.int .i64 0) := h0.cell 0
    have c1 : w.cell? ⟨n, 1, none⟩ = some (.int .i64 0) := h0.cell 1
    have c2 : w.cell? ⟨n, 2, none⟩ = some (.int .i64 0) := h0.cell 2
    have c3 : w.cell? ⟨n, 3, none⟩ = some (.string ⟨#[]⟩) := h0.cell 3
    have c4 : w.cell? ⟨m, 0, none⟩ = some (.int .i64 0) := h1.cell 0
    have f0 := fun j => h0.free j
    have f1 := fun j => h1.free j
    have l0 := h0.lt
    have l1 := h1.lt
    have H0 := Lib.hid h0; have H1 := Lib.hid h1; clear h0 h1
    generalize hQ : (fun (e : Exit) (a' : Act) (w' : World) => e = Exit.normal ∧ a'.defers = [] ∧ Blk w' n #[.int .i64 0, .int .i64 0, .int .i64 0, .string ⟨#[]⟩] 141 ∧ Blk w' m #[.int .i64 6] 25 ∧ Below B w w') = Q
    have HQ := Lib.hid hQ; clear hQ
    have hta := assert_stop
    go_wp2
    rw [← HQ.out]
    refine ⟨rfl, rfl, ?_, ?_, ?_⟩
    · refine Blk.alloc (Blk.alloc (Blk.other ?_ hne _) _) _
      simpa using (((H0.out.set 0 (.int .i64 0)).set 1 (.int .i64 0)).set 2 (.int .i64 0)).set 3 (.string ⟨#[]⟩)
    · refine Blk.alloc (Blk.alloc (Blk.set (cs := #[.int .i64 0]) ?_ 0 _) _) _
      iterate 4 refine Blk.other ?_ (fun h => hne h.symm) _
      exact H1.out
    · refine Below.alloc (Below.alloc ?_ (by simp; omega) _) (by simp; omega) _
      refine Below.setCell ?_ (by simpa using hBm) _
      iterate 4 refine Below.setCell ?_ (by simpa using hBn) _
      exact Below.refl _ _
  · rintro e a w' ⟨rfl, hd, q⟩
    exact ⟨hd, _, rfl, _, results_none rfl _ _ _, rfl, rfl, q⟩


theorem take1_idle (n m : Nat) (w : World) :
    CallsD Tryz.prog 197 #[.pointer (some ⟨n, 0, none⟩), .pointer (some ⟨m, 0, none⟩)] .returning w fun e u' w' => e = .returned (.tuple #[]) ∧ u' = .returning ∧ w' = w := by
  refine callsD_of_wpS Tryz.func197 rfl fun c₀ cs hu => ?_
  simp only [Tryz.ntmps197, List.size_toArray, List.length_cons, List.length_nil, Nat.reduceAdd, Nat.reduceSub, Array.replicate_succ, Array.replicate_zero, List.push_toArray, List.append_toArray, List.nil_append, List.cons_append]
  apply wpS_seq
  apply wpS_region
  simp [wpOpsS, go_sem, recoverD, hu, Exit.thenS]
  refine wpS_of_wp (wp_mono (Q := fun e a' w' => e = .normal ∧ a'.defers = [] ∧ w' = w) ?_ ?_)
  · generalize hQ : (fun (e : Exit) (a' : Act) (w' : World) => e = Exit.normal ∧ a'.defers = [] ∧ w' = w) = Q
    have HQ := Lib.hid hQ; clear hQ
    go_wp2
    rw [← HQ.out]
    exact ⟨rfl, rfl, rfl⟩
  · rintro e a w' ⟨rfl, hd, rfl⟩
    cases c₀
    simp at hu
    subst hu
    exact ⟨hd, _, rfl, _, results_none rfl _ _ _, rfl, rfl, rfl⟩

def keyVal (d : ByteArray) : Value := (if keyRight d then keyOfD d else KeyD.none).v

def zKey : Array Value := #[.int .i64 0, .int .i64 0, .int .i64 0, .string ⟨#[]⟩]

/-- The world in which take calls its function. -/
def takeW (w : World) (d : ByteArray) : World := ((w.alloc (.cells zKey 141)).alloc (.cells #[.int .i64 0] 25)).alloc (.cells #[.string d] 165)
theorem takeW_src (w : World) (d : ByteArray) : Src (w.heap.size + 1 + 1) d (takeW w d) := by
  have := Blk.new ((w.alloc (.cells zKey 141)).alloc (.cells #[.int .i64 0] 25)) #[.string d] 165
  simpa [takeW, Src] using this
theorem takeW_key (w : World) (d : ByteArray) : Blk (takeW w d) w.heap.size zKey 141 := ((Blk.new w zKey 141).alloc _).alloc _
theorem takeW_err (w : World) (d : ByteArray) : Blk (takeW w d) (w.heap.size + 1) #[.int .i64 0] 25 := by
  have := (Blk.new (w.alloc (.cells zKey 141)) #[.int .i64 0] 25).alloc (.cells #[.string d] 165)
  simpa [takeW] using this
theorem takeW_below (w : World) (d : ByteArray) : Below w.heap.size w (takeW w d) := (((Below.refl _ w).alloc (Nat.le_refl _) _).alloc (by simp) _).alloc (by simp; omega) _

/-- Behind the door, where the body panicked. -/
theorem take_door_no (tmps : Array Value) (w w1 : World) (hk : Blk w1 w.heap.size zKey 141) (he : Blk w1 (w.heap.size + 1) #[.int .i64 0] 25) (hb : Below w.heap.size w w1)
    (h4 : tmps.getD 4 undef = .pointer (some ⟨w.heap.size, 0, none⟩)) (h5 : tmps.getD 5 undef = .pointer (some ⟨w.heap.size + 1, 0, none⟩)) :
    bodyPostD Tryz.prog Tryz.f161 (fun e w' => e = .returned (.tuple #[KeyD.none.v, .int .i64 6]) ∧ Below w.heap.size w w') (.panic stopC)
      { tmps := tmps, defers := [{ target := .fn (.func 197) #[.pointer (some ⟨w.heap.size, 0, none⟩), .pointer (some ⟨w.heap.size + 1, 0, none⟩)], args := #[] }] } w1 := by
  refine leaves_cons (f := 197) (args := #[.pointer (some ⟨w.heap.size, 0, none⟩), .pointer (some ⟨w.heap.size + 1, 0, none⟩)]) (by simp) (by simp [go_sem]) ?_
  refine (take1_panic w.heap.size _ _ w1 hk he (by omega) (Nat.le_refl _) (by omega)).mono ?_
  rintro e u' w2 ⟨rfl, rfl, hk2, he2, hb2⟩
  exact ⟨_, results2 rfl ⟨_, h4, loadVar_blk hk2 Tryz.underlying141 rfl info_Key⟩ ⟨_, h5, loadVar_int he2 Tryz.underlying25⟩, rfl, hb.trans hb2⟩

set_option maxRecDepth 100000 in
theorem take_key_no (d : ByteArray) (w : World) (h : keyRight d = false) :
    Calls Tryz.prog 161 #[.string d, .func (.func 162) #[] #[]] w fun e w' => e = .returned (.tuple #[KeyD.none.v, .int .i64 6]) ∧ Below w.heap.size w w' := by
  have hmf := makeFunc_run
  by_cases hd : d.size ≤ 2000
  · have hd' : decide ((d.size : Int) ≤ 2000) = true := by simp; omega
    have h5 : ¬ 5 ≤ d.size := by intro h5; simp [keyRight, hd, h5] at h
    have H5 := Lib.hid h5; clear h h5
    go_enter_defers Tryz.func161, Tryz.ntmps161
    go_wp2_with (go_at_call 111; refine (must_ok _ _).mono ?_; rintro e w' ⟨rfl, rfl⟩)
    refine (key1_any (w.heap.size + 1 + 1) d _ (takeW_src w d)).mono ?_
    rintro e w1 (⟨hn, rfl, hS, hO⟩ | ⟨hn, rfl, hO⟩)
    · exact absurd hn H5.out
    · exact take_door_no _ w w1 ((takeW_key w d).only hO (by omega)) ((takeW_err w d).only hO (by omega)) ((takeW_below w d).trans (hO.belowOf (by omega) (by simp [takeW]; omega))) rfl rfl
  · have hd' : decide ((d.size : Int) ≤ 2000) = false := by simp; omega
    clear h
    go_enter_defers Tryz.func161, Tryz.ntmps161
    go_wp2_with (go_at_call 111; refine (must_no _ _).mono ?_; rintro e w' ⟨rfl, rfl⟩)
    exact take_door_no _ w _ (takeW_key w d) (takeW_err w d) (takeW_below w d) rfl rfl

set_option maxRecDepth 100000 in
theorem take_key_yes (d : ByteArray) (w : World) (h : keyRight d = true) :
    Calls Tryz.prog 161 #[.string d, .func (.func 162) #[] #[]] w fun e w' => e = .returned (.tuple #[(keyOfD d).v, .int .i64 0]) ∧ Below w.heap.size w w' := by
  have hmf := makeFunc_run
  simp only [keyRight, Bool.and_eq_true, decide_eq_true_eq] at h
  have hd' : decide ((d.size : Int) ≤ 2000) = true := by simp; omega
  have H5 := Lib.hid h.1; clear h
  have hkey := fun w h => key1_any (w.heap.size + 1 + 1) d (takeW w d) h
  obtain ⟨f, p, a, q, hk⟩ : ∃ f p a q, (keyOfD d).v = .agg #[.int .i64 f, .int .i64 p, .int .i64 a, .string q] := ⟨_, _, _, _, rfl⟩
  rw [hk] at hkey ⊢
  have HK := Lib.hid hkey; clear hk hkey
  go_enter_defers Tryz.func161, Tryz.ntmps161
  go_wp2_with (go_at_call 111; refine (must_ok _ _).mono ?_; rintro e w' ⟨rfl, rfl⟩)
  refine (HK.out w (takeW_src w d)).mono ?_
  rintro e w1 (⟨hn, rfl, hS, hO⟩ | ⟨hn, rfl, hO⟩)
  case inr => exact absurd H5.out hn
  have hk1 := (takeW_key w d).only hO (by omega)
  have he1 := (takeW_err w d).only hO (by omega)
  have hB1 := (takeW_below w d).trans (hO.belowOf (B := w.heap.size) (by omega) (by simp [takeW]; omega))
  have c0 : w1.cell? ⟨w.heap.size, 0, none⟩ = some (.int .i64 0) := hk1.cell 0
  have c1 : w1.cell? ⟨w.heap.size, 1, none⟩ = some (.int .i64 0) := hk1.cell 1
  have c2 : w1.cell? ⟨w.heap.size, 2, none⟩ = some (.int .i64 0) := hk1.cell 2
  have c3 : w1.cell? ⟨w.heap.size, 3, none⟩ = some (.string ⟨#[]⟩) := hk1.cell 3
  have c4 : w1.cell? ⟨w.heap.size + 1, 0, none⟩ = some (.int .i64 0) := he1.cell 0
  have c5 : w1.cell? ⟨w.heap.size + 1 + 1, 0, none⟩ = some (.string ⟨#[]⟩) := hS.cell 0
  have f0 := fun j => hk1.free j
  have f1 := fun j => he1.free j
  have HK1 := Lib.hid hk1; have HE1 := Lib.hid he1; have HB1 := Lib.hid hB1
  clear hk1 he1 hB1 hO hS HK H5 hn
  go_wp2_with (go_at_call 111; refine (must_ok _ _).mono ?_; rintro e w' ⟨rfl, rfl⟩)
  refine leaves_cons (f := 197) (args := #[.pointer (some ⟨w.heap.size, 0, none⟩), .pointer (some ⟨w.heap.size + 1, 0, none⟩)]) (by simp) (by simp [go_sem]) ?_
  refine (take1_idle _ _ _).mono ?_
  rintro e u' w2 ⟨rfl, rfl, rfl⟩
  refine ⟨_, results2 rfl ⟨_, rfl, loadVar_blk (cs := #[.int .i64 f, .int .i64 p, .int .i64 a, .string q]) (t := 141) ?_ Tryz.underlying141 rfl info_Key⟩ ⟨_, rfl, loadVar_int (t := 25) (v := .int .i64 0) ?_ Tryz.underlying25⟩, rfl, ?_⟩
  · refine Blk.other ?_ (by simp) _
    simpa [zKey] using (((((((HK1.out.set 0 (.int .i64 f)).set 1 (.int .i64 p)).set 2 (.int .i64 a)).set 3 (.string q)).set 0 (.int .i64 f)).set 1 (.int .i64 p)).set 2 (.int .i64 a)).set 3 (.string q)
  · refine Blk.set (cs := #[.int .i64 0]) ?_ 0 _
    iterate 8 refine Blk.other ?_ (by simp) _
    exact HE1.out
  · refine Below.setCell ?_ (by simp) _
    iterate 8 refine Below.setCell ?_ (by exact Nat.le_refl _) _
    exact HB1.out

theorem data_key_yes (d : ByteArray) (w : World) (h : keyRight d = true) :
    Calls Tryz.prog 92 #[.string d] w fun e w' => e = .returned (.tuple #[(keyOfD d).v, .int .i64 0]) ∧ Below w.heap.size w w' := by
  have ht := fun w => take_key_yes d w h
  obtain ⟨f, p, a, q, hk⟩ : ∃ f p a q, (keyOfD d).v = .agg #[.int .i64 f, .int .i64 p, .int .i64 a, .string q] := ⟨_, _, _, _, rfl⟩
  rw [hk] at ht ⊢
  have HT := Lib.hid ht; clear hk ht h
  go_enter Tryz.func92, Tryz.ntmps92
  go_wp2_with fail
  refine (HT.out _).mono ?_
  rintro e w1 ⟨rfl, hb⟩
  have hk1 : Blk w1 w.heap.size zKey 141 := (Blk.new w zKey 141).below hb (by simp)
  have c0 : w1.cell? ⟨w.heap.size, 0, none⟩ = some (.int .i64 0) := hk1.cell 0
  have c1 : w1.cell? ⟨w.heap.size, 1, none⟩ = some (.int .i64 0) := hk1.cell 1
  have c2 : w1.cell? ⟨w.heap.size, 2, none⟩ = some (.int .i64 0) := hk1.cell 2
  have c3 : w1.cell? ⟨w.heap.size, 3, none⟩ = some (.string ⟨#[]⟩) := hk1.cell 3
  have f0 := fun j => hk1.free j
  have HK1 := Lib.hid hk1; clear hk1
  go_wp2
  refine bodyPost_ret (results2 rfl ⟨_, rfl, loadVar_blk (cs := #[.int .i64 f, .int .i64 p, .int .i64 a, .string q]) (t := 141) ?_ Tryz.underlying141 rfl info_Key⟩ rfl) rfl ⟨rfl, ?_⟩
  · simpa [zKey] using (((HK1.out.set 0 (.int .i64 f)).set 1 (.int .i64 p)).set 2 (.int .i64 a)).set 3 (.string q)
  · iterate 4 refine Below.setCell ?_ (by exact Nat.le_refl _) _
    exact ((Below.refl _ w).alloc (Nat.le_refl _) _).trans (hb.mono (by simp))

theorem data_key_no (d : ByteArray) (w : World) (h : keyRight d = false) :
    Calls Tryz.prog 92 #[.string d] w fun e w' => e = .returned (.tuple #[KeyD.none.v, .int .i64 6]) ∧ Below w.heap.size w w' := by
  have ht := fun w => take_key_no d w h
  have hk : KeyD.none.v = .agg #[.int .i64 0, .int .i64 0, .int .i64 0, .string ⟨#[]⟩] := rfl
  rw [hk] at ht ⊢
  have HT := Lib.hid ht; clear hk ht h
  go_enter Tryz.func92, Tryz.ntmps92
  go_wp2_with fail
  refine (HT.out _).mono ?_
  rintro e w1 ⟨rfl, hb⟩
  have hk1 : Blk w1 w.heap.size zKey 141 := (Blk.new w zKey 141).below hb (by simp)
  have c0 : w1.cell? ⟨w.heap.size, 0, none⟩ = some (.int .i64 0) := hk1.cell 0
  have c1 : w1.cell? ⟨w.heap.size, 1, none⟩ = some (.int .i64 0) := hk1.cell 1
  have c2 : w1.cell? ⟨w.heap.size, 2, none⟩ = some (.int .i64 0) := hk1.cell 2
  have c3 : w1.cell? ⟨w.heap.size, 3, none⟩ = some (.string ⟨#[]⟩) := hk1.cell 3
  have f0 := fun j => hk1.free j
  have HK1 := Lib.hid hk1; clear hk1
  go_wp2
  refine bodyPost_ret (results2 rfl ⟨_, rfl, loadVar_blk (cs := #[.int .i64 0, .int .i64 0, .int .i64 0, .string ⟨#[]⟩]) (t := 141) ?_ Tryz.underlying141 rfl info_Key⟩ rfl) rfl ⟨rfl, ?_⟩
  · simpa [zKey] using (((HK1.out.set 0 (.int .i64 0)).set 1 (.int .i64 0)).set 2 (.int .i64 0)).set 3 (.string ⟨#[]⟩)
  · iterate 4 refine Below.setCell ?_ (by exact Nat.le_refl _) _
    exact ((Below.refl _ w).alloc (Nat.le_refl _) _).trans (hb.mono (by simp))

/-- Both in one: what data.Key tells. -/
theorem data_key (d : ByteArray) (w : World) :
    Calls Tryz.prog 92 #[.string d] w fun e w' => e = .returned (.tuple #[(if keyRight d then keyOfD d else KeyD.none).v, .int .i64 (if keyRight d then 0 else 6)]) ∧ Below w.heap.size w w' := by
  cases h : keyRight d
  · simpa using data_key_no d w h
  · simpa using data_key_yes d w h
end Go.Proofs.YtkhpcagoggglcaaGreatDoor

/- name.labels: the iterator over a name's labels, and its contract. -/
namespace Go.Proofs.YtkhpcagoggglcaaGreatDoor
open Go.RowKit Go.Shelf
attribute [local go_sem] Oper.semAt_some

/-- The labels of a text from a place on, each with its place, as long as there are some. -/
def labs (s : ByteArray) : Nat → Nat → List (Nat × ByteArray)
  | 0, _ => []
  | f + 1, p => if p < s.size ∧ byt s p ≠ 0 ∧ (byt s p).toNat ≤ 63 ∧ p + 1 + (byt s p).toNat ≤ s.size then
      (p, s.extract (p + 1) (p + 1 + (byt s p).toNat)) :: labs s f (p + 1 + (byt s p).toNat) else []
def labels (s : ByteArray) : List (Nat × ByteArray) := labs s (s.size + 1) 0

/-- One of the labels of s. -/
def Lab (s : ByteArray) : Type := { x : Nat × ByteArray // x ∈ labels s }
def encLab {s : ByteArray} (x : Lab s) : Array Value := #[.int .i64 (x.1.1 : Int), .string x.1.2]
def labPre {s : ByteArray} (l : List (Lab s)) : List (Nat × ByteArray) := l.map (·.1)
theorem labPre_snoc {s : ByteArray} (l : List (Lab s)) (x : Lab s) : labPre (l ++ [x]) = labPre l ++ [x.1] := by simp [labPre]

/-- What a round of the loop must keep for the iterator: the block that holds the name. -/
def KeepsBlk (b : Nat) (W W' : World) : Prop := ∀ cs t, Blk W b cs t → Blk W' b cs t
theorem keepsBlk_t {b : Nat} {A B C : World} (h : KeepsBlk b A B) (k : KeepsBlk b B C) : KeepsBlk b A C := fun cs t hb => k cs t (h cs t hb)
theorem keepsBlk_b {b : Nat} {w : World} (W : World) (l : Nat) (o o' : Obj) (_ : w.heap.size ≤ l) (h : W.heap[l]? = some o) (ho : o.isCells = false) (_ : o.isWalk = false) : KeepsBlk b W (W.putObj l o') := by
  intro cs t hb
  have hne : l ≠ b := by
    intro e
    subst e
    unfold Blk at hb
    rw [hb] at h
    cases h
    simp [Obj.isCells] at ho
  unfold Blk at hb ⊢
  rw [World.putObj_heap_other (by omega)]
  exact hb
theorem KeepsBlk.refl (b : Nat) (W : World) : KeepsBlk b W W := fun _ _ h => h
theorem KeepsBlk.set {b : Nat} (W : World) (p : Addr) (v : Value) (h : b ≠ p.block) : KeepsBlk b W (W.setCell p v) := fun _ _ hb => hb.other h v

theorem byt_get (s : ByteArray) (k : Nat) (h : k < s.size) : s.data[k]'(by simpa using h) = byt s k := by
  simp [byt, List.getD, List.getElem?_eq_getElem (show k < s.data.toList.length by simpa using h)]

theorem labels1_stops (F : Fence) (n : Nat) (h6 : F.fn 47) (hro : F.round = none) (hn : 1 ≤ n) (Bn : Nat) (s : ByteArray) (w : World) (hs : s.size ≤ 9223372036854775000) (hB : Blk w Bn #[.string s] 9) :
    SeqStopsK F n Tryz.prog 47 #[.pointer (some ⟨Bn, 0, none⟩)] encLab (KeepsBlk Bn) (fun (xs : List (Lab s)) => labPre xs = labels s) (fun pre => labPre pre <+: labels s) (labels s).length w := by
  intro l J Jx W hW hJ hJx hY h0
  have hBW := hB.below hW hB.lt
  refine callsIn_of_wp Tryz.func47 rfl h6 ?_ hro
  simp only [Tryz.ntmps47, List.size_toArray, List.length_cons, List.length_nil, Nat.reduceAdd, Nat.reduceSub, Array.replicate_succ, Array.replicate_zero, List.push_toArray, List.append_toArray, List.nil_append, List.cons_append]
  have HB := Lib.hid hBW; have HY := Lib.hid hY; clear hBW hB hY
  gi_wp2
  gi_loopw [3] (fun i wr => ∃ (p f : Nat) (pre : List (Lab s)), i = .int .i64 p ∧ Hid (labels s = labPre pre ++ labs s f p) ∧ s.size < p + f ∧ Blk wr Bn #[.string s] 9 ∧ J pre wr)
    (fun i _ => s.size - (intOf i).toNat)
  case atStart => exact ⟨0, s.size + 1, [], rfl, rfl, by omega, HB.out, h0⟩
  case round =>
    obtain ⟨p, f, pre, rfl, hx, hf, hb, hj⟩ := hrel
    have hc : wr.cell? ⟨Bn, 0, none⟩ = some (.string s) := hb.cell 0
    have HBr := Lib.hid hb; clear hb
    by_cases h1 : p < s.size
    · have hg : s[p] = byt s p := byt_get s p h1
      have h255 : ((s[p]).toNat : Int) ≤ 255 := by have := (s[p]).toNat_lt; omega
      obtain ⟨f, rfl⟩ : ∃ g, f = g + 1 := ⟨f - 1, by omega⟩
      have hlab : labs s (f + 1) p = if p < s.size ∧ byt s p ≠ 0 ∧ (byt s p).toNat ≤ 63 ∧ p + 1 + (byt s p).toNat ≤ s.size then (p, s.extract (p + 1) (p + 1 + (byt s p).toNat)) :: labs s f (p + 1 + (byt s p).toNat) else [] := rfl
      rw [← hg] at hlab
      have hzero : s[p] = 0 ↔ (s[p]).toNat = 0 := by
        constructor
        · intro h; rw [h]; rfl
        · intro h; exact UInt8.toNat_inj.1 (by rw [h]; rfl)
      by_cases hgo : (s[p]).toNat ≠ 0 ∧ (s[p]).toNat ≤ 63 ∧ p + 1 + (s[p]).toNat ≤ s.size
      · rw [if_pos ⟨h1, fun h => hgo.1 (hzero.1 h), hgo.2.1, hgo.2.2⟩] at hlab
        have hx1 : labels s = (labPre pre ++ [(p, s.extract (p + 1) (p + 1 + (s[p]).toNat))]) ++ labs s f (p + 1 + (s[p]).toNat) := by rw [hx.out, hlab]; simp
        obtain ⟨X, hX⟩ : ∃ X : Lab s, X.1 = (p, s.extract (p + 1) (p + 1 + (s[p]).toNat)) := ⟨⟨(p, s.extract (p + 1) (p + 1 + (s[p]).toNat)), by rw [hx1]; simp⟩, rfl⟩
        have hx2 : labels s = labPre (pre ++ [X]) ++ labs s f (p + 1 + (s[p]).toNat) := by rw [labPre_snoc, hX]; exact hx1
        have hlen : pre.length < (labels s).length := by rw [hx2]; simp [labPre]
        have hy0 := HY.out pre X wr hj hlen
        simp only [encLab, hX] at hy0
        clear hX hx1
        have HX := Lib.hid hx2
        have q1 : (((s[p]).toNat : Int) != 0) = true := by simp; omega
        have q2 : ((s[p]).toNat : Int) ≤ 63 := by omega
        have q3 : (p : Int) + 1 + ((s[p]).toNat : Int) ≤ s.size := by omega
        have hxt : ((p : Int) + 1 + ((s[p]).toNat : Int)).toNat = p + 1 + (s[p]).toNat := by omega
        have hxt2 : ((p : Int) + 1).toNat = p + 1 := by omega
        obtain ⟨fn, tmps, assign, body, hy, hR⟩ := hy0
        have HR := Lib.hid hR
        clear hx2 hlen hlab hzero hgo hx hg hR
        gi_wp2_with fail
        refine HR.out.mono ?_
        rintro e W3 (⟨rfl, hJ3, hk3⟩ | ⟨rfl, hJx3⟩)
        · have hb3 := hk3 _ _ HBr.out
          have HB3 := Lib.hid hb3
          clear hb3 hk3
          gi_wp2
          go_roundw
          case rel => exact ⟨p + 1 + (s[p]).toNat, f, pre ++ [X], by go_num, HX, by omega, HB3.out, hJ3⟩
          case measure => simp [intOf]; omega
        · gi_wp2
          refine bodyPost_ret (results_none rfl _ _ _) rfl ?_
          exact ⟨⟨_, rfl⟩, .inr ⟨pre ++ [X], ⟨labs s f (p + 1 + (s[p]).toNat), HX.out.symm⟩, hJx3⟩⟩
      · rw [if_neg (fun h => hgo ⟨fun e => h.2.1 (hzero.2 e), h.2.2.1, h.2.2.2⟩)] at hlab
        have hfin : labels s = labPre pre := by rw [hx.out, hlab, List.append_nil]
        have HF := Lib.hid hfin
        clear hfin hlab hx hf hg
        by_cases hz : (s[p]).toNat = 0
        · have q1 : (((s[p]).toNat : Int) != 0) = false := by simp; omega
          clear hzero hgo hz
          gi_wp2
          go_end0
          exact ⟨⟨_, rfl⟩, .inl ⟨pre, HF.out.symm, hj⟩⟩
        · have q1 : (((s[p]).toNat : Int) != 0) = true := by simp; omega
          by_cases h63 : (s[p]).toNat ≤ 63
          · have q2 : ((s[p]).toNat : Int) ≤ 63 := by omega
            have q3 : (s.size : Int) < (p : Int) + 1 + ((s[p]).toNat : Int) := by omega
            clear hzero hgo hz h63
            gi_wp2
            refine ⟨fun _ h => (by cases h), ?_⟩
            gi_wp2
            refine bodyPost_ret (results_none rfl _ _ _) rfl ?_
            exact ⟨⟨_, rfl⟩, .inl ⟨pre, HF.out.symm, hj⟩⟩
          · have q2 : (63 : Int) < ((s[p]).toNat : Int) := by omega
            clear hzero hgo hz h63
            gi_wp2
            refine ⟨fun _ h => (by cases h), ?_⟩
            gi_wp2
            refine bodyPost_ret (results_none rfl _ _ _) rfl ?_
            exact ⟨⟨_, rfl⟩, .inl ⟨pre, HF.out.symm, hj⟩⟩
    · have e : labs s f p = [] := by
        cases f with
        | zero => rfl
        | succ f => simp [labs, h1]
      have hfin : labels s = labPre pre := by rw [hx.out, e, List.append_nil]
      have HF := Lib.hid hfin; clear hfin e hx hf
      gi_wp2
      go_end0
      exact ⟨⟨_, rfl⟩, .inl ⟨pre, HF.out.symm, hj⟩⟩

theorem labels_any (s : ByteArray) (w : World) : Calls Tryz.prog 31 #[.string s] w fun e w' => e = .returned (.func (.func 47) #[] #[.pointer (some ⟨w.heap.size, 0, none⟩)]) ∧ w' = w.alloc (.cells #[.string s] 9) := by
  have hmf := makeFunc_run
  go_enter Tryz.func31, Tryz.ntmps31
  go_wp2
  go_ret
  exact ⟨rfl, rfl⟩

/-- Is a text a name? -/
def endOf (l : List (Nat × ByteArray)) : Nat := match l.getLast? with | none => 0 | some x => x.1 + 1 + x.2.size
def nameEnd (s : ByteArray) : Nat := endOf (labels s)
def nameRight (s : ByteArray) : Bool := decide (s.size ≠ 0 ∧ s.size ≤ 255) && decide (nameEnd s + 1 = s.size) && (byt s (nameEnd s) == 0)
theorem endOf_snoc (l : List (Nat × ByteArray)) (x : Nat × ByteArray) : endOf (l ++ [x]) = x.1 + 1 + x.2.size := by simp [endOf]

theorem labs_le (s : ByteArray) : ∀ (f p : Nat) (x : Nat × ByteArray), x ∈ labs s f p → p ≤ x.1 ∧ x.1 + 1 + x.2.size ≤ s.size ∧ x.2 = s.extract (x.1 + 1) (x.1 + 1 + x.2.size) ∧ 1 ≤ x.2.size ∧ x.2.size ≤ 63 ∧ (byt s x.1).toNat = x.2.size := by
  intro f
  induction f with
  | zero => intro p x h; simp [labs] at h
  | succ f ih =>
    intro p x h
    rw [labs] at h
    split at h
    · rename_i hc
      rcases List.mem_cons.1 h with h | h
      · subst h
        have e : (s.extract (p + 1) (p + 1 + (byt s p).toNat)).size = (byt s p).toNat := by rw [ByteArray.size_extract]; omega
        have hz : (byt s p).toNat ≠ 0 := fun h => hc.2.1 (UInt8.toNat_inj.1 (by rw [h]; rfl))
        simp only [e]
        exact ⟨Nat.le_refl _, by omega, trivial, by omega, by omega, trivial⟩
      · have := ih _ x h
        exact ⟨by omega, this.2⟩
    · simp at h
theorem labels_le (s : ByteArray) (x : Nat × ByteArray) (h : x ∈ labels s) : x.1 + 1 + x.2.size ≤ s.size ∧ x.2 = s.extract (x.1 + 1) (x.1 + 1 + x.2.size) ∧ 1 ≤ x.2.size ∧ x.2.size ≤ 63 ∧ (byt s x.1).toNat = x.2.size := (labs_le s _ 0 x h).2
theorem nameEnd_le (s : ByteArray) : nameEnd s ≤ s.size := by
  unfold nameEnd endOf
  cases h : (labels s).getLast? with
  | none => simp
  | some x => exact (labels_le s x (List.mem_of_getLast? h)).1

/-- Blocks abide what turns others than cells. -/
theorem Blk.kept {W W' : World} {row : Option Nat} {b : Nat} {cs : Array Value} {t : TypeId} (h : Blk W b cs t) (hg : W.grownBy W' row) (hrow : ∀ r, row = some r → ∃ o : Obj, W.heap[r]? = some o ∧ o.isCells = false) : Blk W' b cs t := by
  unfold Blk
  rw [hg.block b h.lt]
  · exact h
  · intro e
    obtain ⟨o, ho, hc⟩ := hrow b e.symm
    unfold Blk at h
    rw [h] at ho
    cases ho
    simp [Obj.isCells] at hc
end Go.Proofs.YtkhpcagoggglcaaGreatDoor

/- name.Right. -/
namespace Go.Proofs.YtkhpcagoggglcaaGreatDoor
open Go.RowKit Go.Shelf
attribute [local go_sem] Oper.semAt_some

set_option maxRecDepth 100000 in
theorem name_right_in (s : ByteArray) (w : World) (h1 : s.size ≠ 0) (h255 : s.size ≤ 255) :
    CallsIn Fence.wide 4 Tryz.prog 24 #[.string s] w fun e w' => e = .returned (.bool (nameRight s)) ∧ Below w.heap.size w w' := by
  have hro : Fence.wide.round = none := rfl
  have hn1 : 1 ≤ 4 := by omega
  refine callsIn_of_wp_marks Tryz.func24 rfl trivial ?_ hro
  simp only [Tryz.ntmps24, List.size_toArray, List.length_cons, List.length_nil, Nat.reduceAdd, Nat.reduceSub, Array.replicate_succ, Array.replicate_zero, List.push_toArray, List.append_toArray, List.nil_append, List.cons_append]
  have q1 : ((s.size : Int) == 0) = false := beq_eq_false_iff_ne.2 (by omega)
  have q2 : decide ((255 : Int) < s.size) = false := by simp; omega
  gi_wp2_with (refine ⟨trivial, ?_⟩; gi_at_call 31; refine (callsIn_wide.2 (labels_any _ _)).mono ?_; rintro e w' ⟨rfl, rfl⟩)
  have hB0 : Below w.heap.size w ((w.alloc (.cells #[.int .i64 0] 3)).alloc (.cells #[.string s] 9)) := ((Below.refl _ w).alloc (Nat.le_refl _) _).alloc (by simp) _
  have b0 : Blk ((w.alloc (.cells #[.int .i64 0] 3)).alloc (.cells #[.string s] 9)) w.heap.size #[.int .i64 0] 3 := (Blk.new w _ _).alloc _
  have b1 : Blk ((w.alloc (.cells #[.int .i64 0] 3)).alloc (.cells #[.string s] 9)) (w.heap.size + 1) #[.string s] 9 := by
    have := Blk.new (w.alloc (.cells #[.int .i64 0] 3)) #[.string s] 9
    simpa using this
  refine wpIn_rangeFunc_ownF (α := Lab s) (ps := #[16, 17]) hro hn1 (gf := 47) (lb := #[.pointer (some ⟨w.heap.size + 1, 0, none⟩)]) rfl trivial (enters_of Tryz.func47 (by kernel_rfl) rfl)
    (labels1_stops Fence.wide 3 trivial hro (by omega) (w.heap.size + 1) s _ (by omega) b1) keepsBlk_t keepsBlk_b (Below.refl _ _) (fun _ => rfl)
    (fun pre W => Blk W w.heap.size #[.int .i64 (endOf (labPre pre) : Int)] 3 ∧ Below w.heap.size w W)
    (fun _ _ _ => False)
    (OwnFrom.and (Own.from (fun s A B row hs hg hr => hs.kept hg hr) _) (ownFrom_below (Nat.le_refl _) (by simp; omega)))
    (fun _ _ _ _ _ hs _ _ => hs)
    ⟨b0, hB0⟩
    (fun x => { tmps := #[.string s, undef, .bool false, .pointer (some ⟨w.heap.size, 0, none⟩), .int .i64 (x.1.1 : Int), .string x.1.2, .string s, .int .i64 s.size, .bool false, .bool false, .string s, .int .i64 s.size, .bool false, .bool false, .string s, .func (.func 47) #[] #[.pointer (some ⟨w.heap.size + 1, 0, none⟩)], .int .i64 (x.1.1 : Int), .string x.1.2, undef, undef, undef, undef, undef, undef, undef, undef, undef, undef, undef, undef, undef, undef, undef, undef], defers := [] }) ?assign ?body ?done ?stop
  case assign =>
    intro l x W K hK
    simp only [encLab]
    gi_wp2
    exact hK
  case body =>
    rintro l pre x W ⟨hb, hB⟩ _
    have hx := labels_le s x.1 x.2
    have hc : W.cell? ⟨w.heap.size, 0, none⟩ = some (.int .i64 (endOf (labPre pre) : Int)) := hb.cell 0
    have hf := hb.free 0
    have e1 : ((x.1.1 : Int) + 1 + (x.1.2.size : Int)) = (endOf (labPre (pre ++ [x])) : Int) := by rw [labPre_snoc, endOf_snoc]; omega
    have HE := Lib.hid e1; have HB := Lib.hid hb
    have x1 : (x.1.1 : Int) + 1 + x.1.2.size ≤ 255 := by omega
    clear e1 hb hx
    gi_wp2
    rw [HE.out]
    exact ⟨KeepsOthers.setCell _ _ _, KeepsBlk.set _ _ _ (by simp), HB.out.set 0 _, hB.setCell (p := ⟨w.heap.size, 0, none⟩) (Nat.le_refl _) _⟩
  case done =>
    rintro D ys W hD hS ⟨hb, hB⟩ hK
    rw [hS] at hb
    have hc : W.cell? ⟨w.heap.size, 0, none⟩ = some (.int .i64 (nameEnd s : Int)) := hb.cell 0
    have hle := nameEnd_le s
    clear hS hb
    by_cases he : nameEnd s + 1 = s.size
    · have q3 : ((nameEnd s : Int) == (s.size : Int) - 1) = true := beq_iff_eq.2 (by omega)
      have q4 : (1 : Int) ≤ s.size := by omega
      have hl1 : nameEnd s < s.size := by omega
      have hg : s[nameEnd s]'hl1 = byt s (nameEnd s) := byt_get s (nameEnd s) hl1
      have hr : nameRight s = (((s[nameEnd s]'hl1).toNat : Int) == 0) := by
        rw [hg, nameRight]
        simp only [he, h1, h255, ne_eq, not_false_eq_true, and_self, decide_true, Bool.true_and]
        rw [Bool.eq_iff_iff]
        simp only [beq_iff_eq]
        constructor
        · intro h; rw [h]; rfl
        · intro h; exact UInt8.toNat_inj.1 (by have : (byt s (nameEnd s)).toNat = 0 := by omega
                                               rw [this]; rfl)
      have HR := Lib.hid hr
      clear hr hg he hle
      gi_wp2
      refine ⟨by simp, .inl ⟨_, _, rfl, run_takeDeferred hK, ?_⟩⟩
      refine ⟨_, results_tmp rfl _ _ _, ?_, hB.trans (belowK_b (w := w) (Nat.le_refl _) W D _ _ (by simp at hD; omega) hK rfl rfl)⟩
      rw [HR.out]
      rfl
    · have q3 : ((nameEnd s : Int) == (s.size : Int) - 1) = false := beq_eq_false_iff_ne.2 (by omega)
      have hr : nameRight s = false := by simp [nameRight, he]
      have HR := Lib.hid hr
      clear hr he hle
      gi_wp2
      refine ⟨by simp, .inl ⟨_, _, rfl, run_takeDeferred hK, ?_⟩⟩
      refine ⟨_, results_tmp rfl _ _ _, ?_, hB.trans (belowK_b (w := w) (Nat.le_refl _) W D _ _ (by simp at hD; omega) hK rfl rfl)⟩
      rw [HR.out]
      rfl
  case stop =>
    rintro D c pre W _ _ h _
    exact h.elim

set_option maxRecDepth 100000 in
theorem name_right (s : ByteArray) (w : World) : Calls Tryz.prog 24 #[.string s] w fun e w' => e = .returned (.bool (nameRight s)) ∧ Below w.heap.size w w' := by
  by_cases h : s.size ≠ 0 ∧ s.size ≤ 255
  · exact callsIn_wide.1 (name_right_in s w h.1 h.2)
  · have hr : nameRight s = false := by rw [nameRight, decide_eq_false h]; rfl
    rw [hr]
    have hlen : s.size = 0 ∨ 255 < s.size := by omega
    clear hr h
    rcases hlen with h | h
    · have q1 : ((s.size : Int) == 0) = true := beq_iff_eq.2 (by omega)
      go_enter Tryz.func24, Tryz.ntmps24
      go_wp2
      go_ret
      exact ⟨rfl, Below.refl _ _⟩
    · have q1 : ((s.size : Int) == 0) = false := beq_eq_false_iff_ne.2 (by omega)
      have q2 : decide ((255 : Int) < s.size) = true := by simp; omega
      go_enter Tryz.func24, Tryz.ntmps24
      go_wp2
      go_ret
      exact ⟨rfl, Below.refl _ _⟩
end Go.Proofs.YtkhpcagoggglcaaGreatDoor

/- data's takers, as parsers: what is taken and what is left, or nothing. -/
namespace Go.Proofs.YtkhpcagoggglcaaGreatDoor
open Go.RowKit

/-- What a taker tells: something, and what is left; or the panic. -/
def Took {α : Type} (b : Nat) (w : World) (p : Option (α × ByteArray)) (V : α → World → Value → Prop) (e : Ending) (w' : World) : Prop :=
  match p with
  | some (x, r) => ∃ v, e = .returned v ∧ V x w' v ∧ Src b r w' ∧ Only b w w'
  | none => e = .panicked stopC ∧ Only b w w'
def IntV (x : Int) (_ : World) (v : Value) : Prop := v = .int .i64 x
def StrV (x : ByteArray) (_ : World) (v : Value) : Prop := v = .string x

def numT (n : Nat) (s : ByteArray) : Option (Int × ByteArray) := if n ≤ s.size then some (numOf (s.extract 0 n), s.extract n s.size) else none
def bytesT (n : Nat) (s : ByteArray) : Option (ByteArray × ByteArray) := if n ≤ s.size then some (s.extract 0 n, s.extract n s.size) else none
def restT (s : ByteArray) : Option (ByteArray × ByteArray) := if s.size ≠ 0 then some (s, ⟨#[]⟩) else none

theorem number_t (b : Nat) (s : ByteArray) (n : Nat) (i : Int) (hi : i = (n : Int)) (w : World) (hS : Src b s w) (h7 : n ≤ 7) :
    Calls Tryz.prog 44 #[.pointer (some ⟨b, 0, none⟩), .int .i64 i] w (Took b w (numT n s) IntV) := by
  subst hi
  refine (number_any b s n w hS (by omega) (by omega)).mono ?_
  rintro e w' (⟨h, rfl, h2, h3⟩ | ⟨h, rfl, h3⟩)
  · rw [numT, if_pos (by omega)]
    simp only [Int.toNat_natCast] at h2 ⊢
    exact ⟨_, rfl, rfl, h2, h3⟩
  · rw [numT, if_neg (by omega)]
    exact ⟨rfl, h3⟩
theorem bytes_t (b : Nat) (s : ByteArray) (n : Nat) (i : Int) (hi : i = (n : Int)) (w : World) (hS : Src b s w) :
    Calls Tryz.prog 112 #[.pointer (some ⟨b, 0, none⟩), .int .i64 i] w (Took b w (bytesT n s) StrV) := by
  subst hi
  refine (bytes_any b s n w hS (by omega)).mono ?_
  rintro e w' (⟨h, rfl, h2, h3⟩ | ⟨h, rfl, h3⟩)
  · rw [bytesT, if_pos (by omega)]
    simp only [Int.toNat_natCast] at h2 ⊢
    exact ⟨_, rfl, rfl, h2, h3⟩
  · rw [bytesT, if_neg (by omega)]
    exact ⟨rfl, h3⟩
theorem rest_t (b : Nat) (s : ByteArray) (w : World) (hS : Src b s w) :
    Calls Tryz.prog 46 #[.pointer (some ⟨b, 0, none⟩)] w (Took b w (restT s) StrV) := by
  refine (rest_any b s w hS).mono ?_
  rintro e w' (⟨h, rfl, h2, h3⟩ | ⟨h, rfl, h3⟩)
  · rw [restT, if_pos h]
    exact ⟨_, rfl, rfl, h2, h3⟩
  · rw [restT, if_neg h]
    exact ⟨rfl, h3⟩

/-- Where the labels end. -/
def nskip (s : ByteArray) : Nat → Nat → Nat
  | 0, n => n
  | f + 1, n => if n < s.size ∧ (byt s n).toNat ≠ 0 then nskip s f (n + 1 + (byt s n).toNat) else n
theorem nskip_end (s : ByteArray) (f n : Nat) (h : ¬ (n < s.size ∧ (byt s n).toNat ≠ 0)) : nskip s f n = n := by
  cases f with
  | zero => rfl
  | succ f => rw [nskip, if_neg h]
def nameT (s : ByteArray) : Option (ByteArray × ByteArray) :=
  if nskip s s.size 0 + 1 ≤ s.size then (if nameRight (s.extract 0 (nskip s s.size 0 + 1)) = true then some (s.extract 0 (nskip s s.size 0 + 1), s.extract (nskip s s.size 0 + 1) s.size) else none) else none
set_option maxRecDepth 100000 in
set_option maxHeartbeats 1000000 in
theorem name_t (b : Nat) (s : ByteArray) (w : World) (hS : Src b s w) (hz : s.size ≤ 2000) :
    Calls Tryz.prog 45 #[.pointer (some ⟨b, 0, none⟩)] w (Took b w (nameT s) StrV) := by
  have hc : w.cell? ⟨b, 0, none⟩ = some (.string s) := hS.cell 0
  have HS := Lib.hid hS
  clear hS
  have hzi : (s.size : Int) ≤ 2000 := by omega
  go_enter Tryz.func45, Tryz.ntmps45
  go_wp2_with fail
  go_loopw [3] (fun v wr => ∃ k f : Nat, v = .int .i64 k ∧ k ≤ 2300 ∧ Hid (s.size ≤ k + f ∧ nskip s f k = nskip s s.size 0) ∧ wr = w) (fun v _ => 2600 - (intOf v).toNat)
  case atStart => exact ⟨0, s.size, rfl, by omega, Lib.hid ⟨by omega, rfl⟩, rfl⟩
  case round =>
    obtain ⟨k, f, rfl, hk, HK, rfl⟩ := hrel
    have fin : ¬ (k < s.size ∧ (byt s k).toNat ≠ 0) → nskip s s.size 0 = k := fun h => by rw [← HK.out.2, nskip_end _ _ _ h]
    by_cases hgo : k < s.size ∧ (byt s k).toNat ≠ 0
    · obtain ⟨hlt, hb⟩ := hgo
      have hbg := byt_get s k hlt
      have hbg2 : s[k] = byt s k := hbg
      have hbl := (byt s k).toNat_lt
      have t1 : decide (0 < (byt s k).toNat) = true := decide_eq_true (by omega)
      obtain ⟨g, rfl⟩ : ∃ g, f = g + 1 := ⟨f - 1, by have := HK.out.1; omega⟩
      have hk2 : Hid (s.size ≤ k + 1 + (byt s k).toNat + g ∧ nskip s g (k + 1 + (byt s k).toNat) = nskip s s.size 0) := by
        have h1 := HK.out.1
        have h2 := HK.out.2
        rw [nskip, if_pos ⟨hlt, hb⟩] at h2
        exact Lib.hid ⟨by omega, h2⟩
      have HB := Lib.hid (And.intro hlt (And.intro hb hbl))
      have hbi : ((byt s k).toNat : Int) ≤ 255 := by omega
      clear HK hb fin hbl
      repeat (first | (fail) | go_values | go_skip | go_guarded | go_step | go_upon | go_back)
      go_roundw
      case rel => exact ⟨k + 1 + (byt s k).toNat, g, by go_num, by have := HB.out.2.2; omega, hk2, by trivial⟩
      case measure => have := HB.out; simp [intOf]; omega
    · have hn := fin hgo
      have t0 : (decide ((k : Int) < (s.size : Int)) && decide ((0 : Int) < ((byt s k).toNat : Int))) = false := by
        simp; omega
      have hby := bytes_t b s (k + 1) ((k : Int) + 1) (by omega) wr HS.out
      have hnt : nameT s = if k + 1 ≤ s.size then (if nameRight (s.extract 0 (k + 1)) = true then some (s.extract 0 (k + 1), s.extract (k + 1) s.size) else none) else none := by rw [nameT, hn]
      have HBY := Lib.hid hby; have HNT := Lib.hid hnt
      clear hby hnt hn HK fin
      by_cases hlt : k < s.size
      · have hbg := byt_get s k hlt
        have hbg2 : s[k] = byt s k := hbg
        have hz0 : (byt s k).toNat = 0 := by omega
        clear hgo t0
        repeat (first | (go_at_call 112; refine (Hid.out (p := _) ?_)) | go_values | go_skip | go_guarded | go_step | go_upon | go_back)
        refine Lib.hid ?_
        refine HBY.out.mono ?_
        clear HBY hc
        rintro e w1 h
        unfold bytesT at h
        by_cases hsz : k + 1 ≤ s.size
        · rw [if_pos hsz] at h
          obtain ⟨v, rfl, hv, hS1, hO1⟩ := h
          unfold StrV at hv
          subst hv
          have hnt := HNT.out
          rw [if_pos hsz] at hnt
          have hnr := name_right (s.extract 0 (k + 1)) w1
          have hS2 := Lib.hid hS1; have hO2 := Lib.hid hO1
          clear hS1 hO1 HNT hsz
          cases hb : nameRight (s.extract 0 (k + 1)) with
          | true =>
            rw [hb] at hnr hnt
            rw [if_pos rfl] at hnt
            have HNR := Lib.hid hnr; have HNT := Lib.hid hnt
            clear hnr hnt hb
            generalize s.extract 0 (k + 1) = nm at *
            generalize s.extract (k + 1) s.size = rs at *
            simp only []
            repeat (first | (go_at_call 24; refine (Hid.out (p := _) ?_)) | go_values | go_skip | go_guarded | go_step | go_upon | go_back)
            refine Lib.hid ?_
            refine HNR.out.mono ?_
            rintro e w2 ⟨rfl, hb2⟩
            have HB2 := Lib.hid hb2
            clear hb2 HNR
            simp only []
            repeat (first | ((go_at_call 111; refine (must_ok _ _).mono ?_; rintro e w' ⟨rfl, rfl⟩; simp only [])) | go_values | go_skip | go_guarded | go_step | go_upon | go_back)
            go_ret
            rw [HNT.out]
            exact ⟨_, rfl, rfl, hS2.out.below HB2.out hS2.out.lt, hO2.out.trans (Only.of_below HB2.out)⟩
          | false =>
            rw [hb] at hnr hnt
            rw [if_neg (by simp)] at hnt
            have HNR := Lib.hid hnr; have HNT := Lib.hid hnt
            clear hnr hnt hb
            generalize s.extract 0 (k + 1) = nm at *
            generalize s.extract (k + 1) s.size = rs at *
            simp only []
            repeat (first | (go_at_call 24; refine (Hid.out (p := _) ?_)) | go_values | go_skip | go_guarded | go_step | go_upon | go_back)
            refine Lib.hid ?_
            refine HNR.out.mono ?_
            rintro e w2 ⟨rfl, hb2⟩
            have HB2 := Lib.hid hb2
            clear hb2 HNR
            simp only []
            repeat (first | ((go_at_call 111; refine (must_no _ _).mono ?_; rintro e w' ⟨rfl, rfl⟩; simp only [])) | go_values | go_skip | go_guarded | go_step | go_upon | go_back)
            refine ⟨rfl, ?_⟩
            rw [HNT.out]
            exact ⟨rfl, hO2.out.trans (Only.of_below HB2.out)⟩
        · rw [if_neg hsz] at h
          obtain ⟨rfl, hO1⟩ := h
          have hnt := HNT.out
          rw [if_neg hsz] at hnt
          simp only []
          refine ⟨rfl, ?_⟩
          rw [hnt]
          exact ⟨rfl, hO1⟩
      · have t1 : ¬ ((k : Int) < (s.size : Int)) := by omega
        clear hgo t0
        repeat (first | (go_at_call 112; refine (Hid.out (p := _) ?_)) | go_values | go_skip | go_guarded | go_step | go_upon | go_back)
        refine Lib.hid ?_
        refine HBY.out.mono ?_
        clear HBY hc
        rintro e w1 h
        unfold bytesT at h
        by_cases hsz : k + 1 ≤ s.size
        · rw [if_pos hsz] at h
          obtain ⟨v, rfl, hv, hS1, hO1⟩ := h
          unfold StrV at hv
          subst hv
          have hnt := HNT.out
          rw [if_pos hsz] at hnt
          have hnr := name_right (s.extract 0 (k + 1)) w1
          have hS2 := Lib.hid hS1; have hO2 := Lib.hid hO1
          clear hS1 hO1 HNT hsz
          cases hb : nameRight (s.extract 0 (k + 1)) with
          | true =>
            rw [hb] at hnr hnt
            rw [if_pos rfl] at hnt
            have HNR := Lib.hid hnr; have HNT := Lib.hid hnt
            clear hnr hnt hb
            generalize s.extract 0 (k + 1) = nm at *
            generalize s.extract (k + 1) s.size = rs at *
            simp only []
            repeat (first | (go_at_call 24; refine (Hid.out (p := _) ?_)) | go_values | go_skip | go_guarded | go_step | go_upon | go_back)
            refine Lib.hid ?_
            refine HNR.out.mono ?_
            rintro e w2 ⟨rfl, hb2⟩
            have HB2 := Lib.hid hb2
            clear hb2 HNR
            simp only []
            repeat (first | ((go_at_call 111; refine (must_ok _ _).mono ?_; rintro e w' ⟨rfl, rfl⟩; simp only [])) | go_values | go_skip | go_guarded | go_step | go_upon | go_back)
            go_ret
            rw [HNT.out]
            exact ⟨_, rfl, rfl, hS2.out.below HB2.out hS2.out.lt, hO2.out.trans (Only.of_below HB2.out)⟩
          | false =>
            rw [hb] at hnr hnt
            rw [if_neg (by simp)] at hnt
            have HNR := Lib.hid hnr; have HNT := Lib.hid hnt
            clear hnr hnt hb
            generalize s.extract 0 (k + 1) = nm at *
            generalize s.extract (k + 1) s.size = rs at *
            simp only []
            repeat (first | (go_at_call 24; refine (Hid.out (p := _) ?_)) | go_values | go_skip | go_guarded | go_step | go_upon | go_back)
            refine Lib.hid ?_
            refine HNR.out.mono ?_
            rintro e w2 ⟨rfl, hb2⟩
            have HB2 := Lib.hid hb2
            clear hb2 HNR
            simp only []
            repeat (first | ((go_at_call 111; refine (must_no _ _).mono ?_; rintro e w' ⟨rfl, rfl⟩; simp only [])) | go_values | go_skip | go_guarded | go_step | go_upon | go_back)
            refine ⟨rfl, ?_⟩
            rw [HNT.out]
            exact ⟨rfl, hO2.out.trans (Only.of_below HB2.out)⟩
        · rw [if_neg hsz] at h
          obtain ⟨rfl, hO1⟩ := h
          have hnt := HNT.out
          rw [if_neg hsz] at hnt
          simp only []
          refine ⟨rfl, ?_⟩
          rw [hnt]
          exact ⟨rfl, hO1⟩
end Go.Proofs.YtkhpcagoggglcaaGreatDoor

/- Words of 32 bits; bits.RotateLeft32, digest.mix, digest.keys. -/
namespace Go.Proofs.YtkhpcagoggglcaaGreatDoor
open Go.RowKit

abbrev W32 := BitVec 32
/-- A word as the model's whole number. -/
def wd (x : W32) : Int := (x.toNat : Int)
def vw (x : W32) : Value := .int .u32 (wd x)
theorem wd_lit (n : Nat) (h : n < 4294967296) : wd (BitVec.ofNat 32 n) = (n : Int) := by simp [wd]; omega
theorem wd_nonneg (x : W32) : 0 ≤ wd x := by simp [wd]
theorem wd_lt (x : W32) : wd x < 4294967296 := by have := x.isLt; simp only [wd]; omega
theorem wd_inj {x y : W32} (h : wd x = wd y) : x = y := by apply BitVec.eq_of_toNat_eq; simp only [wd] at h; omega
theorem ofInt_wd (x : W32) : BitVec.ofInt 32 (wd x) = x := by simp [wd]
theorem wd_xor (x y : W32) : bits .xor .u32 (wd x) (wd y) = wd (x ^^^ y) := by
  show IntKind.u32.wrap ((BitVec.ofInt 32 (wd x) ^^^ BitVec.ofInt 32 (wd y)).toNat : Int) = _
  rw [ofInt_wd, ofInt_wd, IntKind.wrap_u32]; have := (x ^^^ y).isLt; simp only [wd]; omega
theorem wd_or (x y : W32) : bits .or .u32 (wd x) (wd y) = wd (x ||| y) := by
  show IntKind.u32.wrap ((BitVec.ofInt 32 (wd x) ||| BitVec.ofInt 32 (wd y)).toNat : Int) = _
  rw [ofInt_wd, ofInt_wd, IntKind.wrap_u32]; have := (x ||| y).isLt; simp only [wd]; omega
theorem wd_and (x y : W32) : bits .and .u32 (wd x) (wd y) = wd (x &&& y) := by
  show IntKind.u32.wrap ((BitVec.ofInt 32 (wd x) &&& BitVec.ofInt 32 (wd y)).toNat : Int) = _
  rw [ofInt_wd, ofInt_wd, IntKind.wrap_u32]; have := (x &&& y).isLt; simp only [wd]; omega
theorem wd_add (x y : W32) : IntKind.u32.wrap (wd x + wd y) = wd (x + y) := by
  rw [IntKind.wrap_u32]; simp only [wd, BitVec.toNat_add]; omega
theorem wd_shl (x : W32) (n : Nat) : wd x * 2 ^ n % 4294967296 = wd (x <<< n) := by
  have e2 : ((x.toNat : Int) * 2 ^ n) = ((x.toNat * 2 ^ n : Nat) : Int) := by push_cast; rfl
  simp only [wd, BitVec.toNat_shiftLeft, Nat.shiftLeft_eq]
  rw [e2, show (2 ^ 32 : Nat) = 4294967296 from rfl]
  omega
theorem wd_shr (x : W32) (n : Nat) : wd x / 2 ^ n = wd (x >>> n) := by
  simp only [wd, BitVec.toNat_ushiftRight, Nat.shiftRight_eq_div_pow]
  push_cast; rfl

/-- The turn of a word to the left (k mod 32). -/
def rotW (x : W32) (k : Nat) : W32 := (x <<< k) ||| (x >>> (32 - k))
def rotS (k : Int) : Nat := (k % 32).toNat
theorem rotS_le (k : Int) : rotS k < 32 := by unfold rotS; omega
theorem and31 (k : Int) : bits .and .u64 (IntKind.u64.wrap k) 31 = (rotS k : Int) := by
  have h1 := rotS_le k
  have hk : ∃ n : Nat, IntKind.u64.wrap k = (n : Int) ∧ n < 18446744073709551616 ∧ n % 32 = rotS k := by
    refine ⟨(IntKind.u64.wrap k).toNat, ?_, ?_, ?_⟩ <;> rw [IntKind.wrap_u64] <;> (try unfold rotS) <;> omega
  obtain ⟨n, e, hn, hm⟩ := hk
  rw [e]
  show IntKind.u64.wrap ((BitVec.ofInt 64 (n : Int) &&& BitVec.ofInt 64 ((31 : Nat) : Int)).toNat : Int) = _
  rw [BitVec.toNat_and, ofInt_i64 n (by omega), ofInt_i64 31 (by omega), show (31 : Nat) = 2 ^ 5 - 1 from rfl, Nat.and_two_pow_sub_one_eq_mod, IntKind.wrap_u64]
  omega

/-- Three turns. -/
def mixW (x : W32) (a b c : Int) : W32 := (rotW x (rotS (-a)) ^^^ rotW x (rotS (-b))) ^^^ rotW x (rotS (-c))
end Go.Proofs.YtkhpcagoggglcaaGreatDoor

/- Laws of single operations on whole variables: alloc, load, box. -/
namespace Go.Proofs.YtkhpcagoggglcaaGreatDoor
open Go.RowKit
theorem wpList_alloc {P : Program} {ops : Array Oper} {rest : List Oper} {o : Oper} {a : Act} {w : World} {Q : Exit → Act → World → Prop} (hgd : o.guard = none) (t : TypeId) (ho : o.op = .alloc t) (z : Value) (hz : ∀ w, (zeroValue t).run P w = .ok z w)
    (h : wpList P ops Q rest (a.put o.dst (.pointer (some ⟨w.heap.size, 0, none⟩))) (w.alloc (.cells z.cells t))) : wpList P ops Q (o :: rest) a w := by
  refine wpList_plain hgd fun K hK => ?_
  unfold Oper.wp execOp
  simp only [ho]
  simp [go_sem, hz]
  exact hK _ _ h

theorem Blk.setRow {w : World} {b : Nat} {old : Array Value} {t : TypeId} (h : Blk w b old t) (cs : Array Value) : Blk (w.setRow b cs) b cs t := setRow_heap w b old cs t (0, 0) h
theorem Blk.setRowOther {w : World} {b c : Nat} {old : Array Value} {t : TypeId} (h : Blk w b old t) (hne : b ≠ c) (cs : Array Value) : Blk (w.setRow c cs) b old t := by
  unfold Blk; rw [setRow_other _ _ _ _ hne]; exact h
section
variable {P : Program} {ops : Array Oper} {rest : List Oper} {o : Oper} {a : Act} {w : World} {Q : Exit → Act → World → Prop}
theorem wpList_load (hgd : o.guard = none) (ty : TypeId) (x : Operand) (ho : o.op = .load ty x) (p : Addr) (v : Value) (hx : a.eval x = .pointer (some p)) (hl : (loadVar ty p).run P w = .ok v w)
    (h : wpList P ops Q rest (a.put o.dst v) w) : wpList P ops Q (o :: rest) a w := by
  refine wpList_plain hgd fun K hK => ?_
  unfold Oper.wp execOp
  simp only [ho, hx, Instr.loadAt, Instr.sureAddr, Sem.run_bind, Sem.run_pure, Result.andThen_ok, hl]
  exact hK _ _ h
theorem wpList_box (hgd : o.guard = none) (ty : TypeId) (x : Operand) (ho : o.op = .box ty x) (v : Value) (hx : a.eval x = v)
    (h : wpList P ops Q rest (a.put o.dst (.pointer (some ⟨w.heap.size, 0, none⟩))) (w.alloc (.cells v.cells ty))) : wpList P ops Q (o :: rest) a w := by
  refine wpList_plain hgd fun K hK => ?_
  unfold Oper.wp execOp
  simp only [ho, hx]
  simp [go_sem]
  exact hK _ _ h
end

end Go.Proofs.YtkhpcagoggglcaaGreatDoor

/- name.Lower. -/
namespace Go.Proofs.YtkhpcagoggglcaaGreatDoor
open Go.RowKit Go.Shelf
attribute [local go_sem] Oper.semAt_some

/-- A byte as a small letter. -/
def smallB (b : UInt8) : UInt8 := if 65 ≤ b ∧ b ≤ 90 then b ||| 32 else b

theorem info_u8 : (Tryz.prog.info? 5).map (fun i => (i.zero, i.size, i.bytes)) = some (some (.int .u8 0), 1, 1) := by kernel_rfl

theorem madeCells_one (z : Value) (n : Nat) : madeCells #[z] n = Array.replicate n z := by
  apply Array.ext
  · simp [madeCells]
  · intro i h1 h2
    simp [madeCells, Nat.mod_one]

theorem make_u8 (n : Nat) (hn : n ≤ 281474976710656) (w : World) : (Instr.makeSlice 82 (.int .i64 (n : Int)) (.int .i64 (n : Int))).run Tryz.prog w = .ok (.slice (some ⟨w.heap.size, 0, none⟩) n n) (w.alloc (.cells (Array.replicate n (.int .u8 0)) 5)) := by
  obtain ⟨i, hi, h0, h1, h2⟩ := info_parts info_u8
  have := run_make (P := Tryz.prog) w 82 5 i (.int .u8 0) Tryz.underlying82 hi h0 .i64 .i64 n n (by omega) (by omega) (by rw [h2]; omega) (by omega)
  rw [this, h1]
  simp [Value.cells, madeCells_one]

/-- A text's bytes as cells. -/
def encS (s : ByteArray) : Array Value := s.data.map fun b => .int .u8 (b.toNat : Int)
theorem size_encS (s : ByteArray) : (encS s).size = s.size := by simp [encS]

theorem setRow_past (w : World) (c c' : Array Value) (t : TypeId) (o : Obj) : ((w.alloc (.cells c t)).alloc o).setRow w.heap.size c' = (w.alloc (.cells c' t)).alloc o := by
  have e : (((w.heap.push (Obj.cells c t)).push o).modify w.heap.size fun x => match x with | .cells _ elem frozen => .cells c' elem frozen | o => o) = (w.heap.push (.cells c' t)).push o := by
    apply Array.ext_getElem?
    intro i
    rw [Array.getElem?_modify]
    simp only [Array.getElem?_push, Array.size_push]
    by_cases h1 : w.heap.size = i
    · subst h1; simp
    · by_cases h2 : i = w.heap.size + 1
      · subst h2; simp
      · have h3 : ¬ i = w.heap.size := fun h => h1 h.symm
        simp [h1, h2, h3]
  exact congrArg (fun h => World.mk h w.tape w.drawn w.os w.output) e

theorem copy_str_new (w : World) (s : ByteArray) (o : Obj) : (Builtin.copy_ #[82, 9] 3 #[.slice (some ⟨w.heap.size, 0, none⟩) s.size s.size, .string s]).run Tryz.prog ((w.alloc (.cells (Array.replicate s.size (.int .u8 0)) 5)).alloc o) =
    .ok (.int .i64 (s.size : Int)) ((w.alloc (.cells (encS s) 5)).alloc o) := by
  obtain ⟨i, hi, h0, h1, h2⟩ := info_parts info_u8
  have hb : ((w.alloc (.cells (Array.replicate s.size (.int .u8 0)) 5)).alloc o).heap[w.heap.size]? = some (.cells (Array.replicate s.size (.int .u8 0)) 5 (0, 0)) := (Blk.new w _ _).alloc o
  have hst := run_storeCells_at Tryz.prog w.heap.size 0 5 (encS s).toList 0 _ _ hb (by simp [encS]) (by simp [encS, Value.oneCell'])
  have e1 : List.take (0 + 0) (Array.replicate s.size (Value.int .u8 0)).toList ++ (encS s).toList ++ List.drop (0 + 0 + (encS s).toList.length) (Array.replicate s.size (Value.int .u8 0)).toList = (encS s).toList := by
    simp [encS]
  rw [e1, Array.toArray_toList, setRow_past] at hst
  simp [Builtin.copy_, run_underlying Tryz.underlying82, Builtin.lenOf, Builtin.firstCells, sizeOf, typeInfo, hi, goInt]
  have e3 : List.take s.size (List.map (fun b => Value.int IntKind.u8 (b.toNat : Int)) s.data.toList) = (encS s).toList := by
    rw [List.take_of_length_le (by simp)]
    simp [encS]
  rw [e3, hst]
  rfl

theorem smallB_smallB (b : UInt8) : smallB (smallB b) = smallB b := by
  have h : ∀ n : Fin 256, smallB (smallB (UInt8.ofNat n.val)) = smallB (UInt8.ofNat n.val) := by decide +kernel
  have := h ⟨b.toNat, by have := b.toNat_lt; omega⟩
  simpa using this
theorem smallB_len (b : UInt8) (h : b.toNat ≤ 63) : smallB b = b := by
  unfold smallB
  rw [if_neg]
  intro hc
  have := UInt8.le_iff_toNat_le.1 hc.1
  simp at this
  omega

set_option maxRecDepth 100000 in
theorem small_any (b : UInt8) (w : World) : Calls Tryz.prog 32 #[.int .u8 (b.toNat : Int)] w fun e w' => e = .returned (.int .u8 ((smallB b).toNat : Int)) ∧ w = w' := by
  have hlt := b.toNat_lt
  by_cases h : 65 ≤ b.toNat ∧ b.toNat ≤ 90
  · have hs : ((smallB b).toNat : Int) = bits .or .u8 (b.toNat : Int) 32 := by
      have e : smallB b = b ||| 32 := if_pos ⟨UInt8.le_iff_toNat_le.2 (by simpa using h.1), UInt8.le_iff_toNat_le.2 (by simpa using h.2)⟩
      have e2 := u8_or_nat b.toNat 32 (by omega) (by omega)
      rw [e, UInt8.toNat_or]
      exact e2.symm
    have HS := Lib.hid hs
    have q1 : decide ((65 : Int) ≤ (b.toNat : Int)) = true := by simp; omega
    have q2 : decide ((b.toNat : Int) ≤ 90) = true := by simp; omega
    clear h hs
    go_enter Tryz.func32, Tryz.ntmps32
    go_wp2
    go_ret
    refine ⟨?_, rfl⟩
    rw [HS.out]
    rfl
  · have hs : smallB b = b := by
      apply if_neg
      intro hc
      have h1 := UInt8.le_iff_toNat_le.1 hc.1
      have h2 := UInt8.le_iff_toNat_le.1 hc.2
      simp at h1 h2
      omega
    have HS := Lib.hid hs
    clear hs
    by_cases h65 : 65 ≤ b.toNat
    · have q1 : decide ((65 : Int) ≤ (b.toNat : Int)) = true := by simp; omega
      have q2 : decide ((b.toNat : Int) ≤ 90) = false := by simp; omega
      clear h
      go_enter Tryz.func32, Tryz.ntmps32
      go_wp2
      go_ret
      refine ⟨?_, rfl⟩
      rw [HS.out]
      rfl
    · have q1 : decide ((65 : Int) ≤ (b.toNat : Int)) = false := by simp; omega
      clear h
      go_enter Tryz.func32, Tryz.ntmps32
      go_wp2
      go_ret
      refine ⟨?_, rfl⟩
      rw [HS.out]
      rfl

/-- One byte of a text set. -/
def bset (t : ByteArray) (k : Nat) (b : UInt8) : ByteArray := ⟨t.data.setIfInBounds k b⟩
theorem size_bset (t : ByteArray) (k : Nat) (b : UInt8) : (bset t k b).size = t.size := by
  show (t.data.setIfInBounds k b).size = t.data.size
  simp
theorem encS_bset (t : ByteArray) (k : Nat) (b : UInt8) : encS (bset t k b) = (encS t).setIfInBounds k (.int .u8 (b.toNat : Int)) := by
  unfold encS bset
  apply Array.ext_getElem?
  intro i
  simp only [Array.getElem?_map, Array.getElem?_setIfInBounds, Array.size_map]
  split
  · split <;> rfl
  · rfl
theorem encS_get (t : ByteArray) (k : Nat) (h : k < t.size) : (encS t)[k]? = some (.int .u8 ((byt t k).toNat : Int)) := by
  have h' : k < t.data.size := h
  simp only [encS, byt, List.getD, Array.getElem?_map, Array.getElem?_toList, Array.getElem?_eq_getElem h', Option.map_some, Option.getD_some]
theorem byt_bset (t : ByteArray) (k j : Nat) (b : UInt8) (hk : k < t.size) : byt (bset t k b) j = if k = j then b else byt t j := by
  have h' : k < t.data.size := hk
  unfold byt bset
  simp only [List.getD, Array.getElem?_toList, Array.getElem?_setIfInBounds]
  split <;> simp_all
theorem bytes_ext {s t : ByteArray} (h : s.size = t.size) (hb : ∀ j, j < s.size → byt s j = byt t j) : s = t := by
  cases s with
  | mk a =>
    cases t with
    | mk b =>
      congr 1
      apply Array.ext h
      intro i h1 h2
      have := hb i h1
      simpa [byt, List.getD, h1, h2] using this

theorem conv_bytes_string (w : World) (g n c : Nat) (t : ByteArray) (h : Blk w g (encS t) 5) (hn : n = t.size) : (convert 82 9 (.slice (some ⟨g, 0, none⟩) n c)).run Tryz.prog w = .ok (.string t) w := by
  have := run_convert_bytes_arg (P := Tryz.prog) w 82 5 Tryz.underlying82 Tryz.underlying5 g 0 n c (t.data.toList.map fun b => (b.toNat : Int)) (by simp [hn]) (by
    intro i hi
    have hi' : i < t.data.size := by rw [hn] at hi; exact hi
    rw [Nat.zero_add, h.cell i, encS_get t i hi']
    simp only [byt, List.getD, List.getElem?_map, Array.getElem?_toList, Array.getElem?_eq_getElem hi', Option.map_some, Option.getD_some]) 9 Tryz.underlying9
  have e : strOfNums (t.data.toList.map fun b => (b.toNat : Int)) = t := by
    cases t with
    | mk d =>
      show (⟨((d.toList.map fun b => (b.toNat : Int)).map fun n => UInt8.ofNat n.toNat).toArray⟩ : ByteArray) = ⟨d⟩
      rw [List.map_map]
      have e : ((fun n : Int => UInt8.ofNat n.toNat) ∘ fun b : UInt8 => (b.toNat : Int)) = id := by
        funext b
        simp
      rw [e, List.map_id]
  rw [this, e]
end Go.Proofs.YtkhpcagoggglcaaGreatDoor

