import Derived.Test.YtdflhnbpcnmpfaaGreatDoorSo6
import Derived.Test.YtdflhnbpcnmpfaaGreatDoorSo1
import Derived.Test.YtdflhnbpcnmpfaaGreatDoorSo3
import Derived.Handy
import Derived.Test.YtdflhnbpcnmpfaaGreatDoorSo2
import Derived.ArgAppend
import Derived.Test.YtdflhnbpcnmpfaaGreatDoorSo5
import Derived.Lib.Bytealg
/- data's sink: texts. -/
namespace Go.Proofs.YtdflhnbpcnmpfaaGreatDoor
open Go.RowKit

theorem strCells_bv (s : ByteArray) : Lib.strCells s = s.data.toList.map bv := by
  simp [Lib.strCells, bv]
theorem ownB_string {ops : Array Oper} {rest : List Oper} {o : Oper} {a : Act} {Q : Exit → Act → World → Prop} {base : Nat} {v : Value} {l : List UInt8} {W : World} (HO : OwnB base v l W) (hbase : base ≤ W.heap.size) (t : ByteArray) (hl : l.length + t.size ≤ 140737488355328)
    (hgd : o.guard = none) (s x : Operand) (ho : o.op = .call { callee := .builtin .append, args := #[s, x], argTypes := #[69, 9] }) (hs : a.eval s = v) (hx : a.eval x = .string t)
    (h : ∀ v1 w1, OwnB base v1 (l ++ t.data.toList) w1 → W.grownBy w1 v.ownBlock → wpList Tryz.prog ops Q rest (a.put o.dst v1) w1) : wpList Tryz.prog ops Q (o :: rest) a W := by
  obtain ⟨i0, hi, hzz⟩ := Option.map_eq_some_iff.1 info_u8b
  simp only [Prod.mk.injEq] at hzz
  obtain ⟨hz0, hz1, hz2⟩ := hzz
  refine Lib.wpList_append_own_string W hgd s x 69 9 ho base 5 i0 Tryz.underlying69 Tryz.underlying9 hi hz0 hz1 hz2 v l.length (l.map bv) hs HO t hx (by simp only [maxLen]; omega) hl hbase ?_
  intro v1 w1 h1 h2 _
  refine h v1 w1 ?_ h2
  have e : (l ++ t.data.toList).length = l.length + t.size := by simp
  unfold OwnB
  rw [e, List.map_append, ← strCells_bv]
  exact h1

theorem sk_string {b : Nat} {l xs : List UInt8} {wr : Bool} {W w1 : World} {v v1 : Value} (hB : Blk W b #[v, .bool wr] 74) (hO : OwnB (b + 1) v l W) (h1 : OwnB (b + 1) v1 (l ++ xs) w1) (hg : W.grownBy w1 v.ownBlock) :
    Blk w1 b #[v, .bool wr] 74 ∧ Sk b (l ++ xs) wr (w1.setCell ⟨b, 0, none⟩ v1) ∧ Below b W (w1.setCell ⟨b, 0, none⟩ v1) := by
  have hob := ownBase hO
  have hlt := hB.lt
  have hkeep : ∀ k, k < W.heap.size → some k ≠ v.ownBlock → w1.heap[k]? = W.heap[k]? := fun k hk hne => hg.block k hk hne
  have hB1 : Blk w1 b #[v, .bool wr] 74 := by
    unfold Blk; rw [hkeep b hlt (fun e => by have := hob b e.symm; omega)]; exact hB
  have hB2 : Blk (w1.setCell ⟨b, 0, none⟩ v1) b #[v1, .bool wr] 74 := by simpa using hB1.set 0 v1
  have hs1 : W.heap.size ≤ w1.heap.size := hg.size
  refine ⟨hB1, ⟨v1, hB2, h1.set ⟨b, 0, none⟩ (by simp) _⟩, ⟨hg.os, hg.tape, hg.output, by simpa using hs1, fun k hk => ?_⟩⟩
  rw [heap_setCell_other _ _ _ _ (by simp; omega)]
  exact hkeep k (by omega) (fun e => by have := hob k e.symm; omega)
theorem Sk.below {b : Nat} {l : List UInt8} {wr : Bool} {w w' : World} (h : Sk b l wr w) (hb : Below w.heap.size w w') : Sk b l wr w' := by
  obtain ⟨v, hB, hO⟩ := h
  exact ⟨v, hB.below hb hB.lt, hO.block fun k hk => by
    rcases hO.2 with ⟨rfl, _⟩ | ⟨g, cap, cur, rfl, _, hg, _⟩
    · cases hk
    · obtain rfl : g = k := by simpa [Value.ownBlock] using hk
      exact hb.block g (lt_of_block hg)⟩

set_option maxRecDepth 100000 in
theorem sink_bytes_t (b : Nat) (l : List UInt8) (s : ByteArray) (n : Int) (w : World) (hS : Sk b l true w) (hl : l.length + s.size ≤ 140737488355328) :
    Calls Tryz.prog 80 #[.pointer (some ⟨b, 0, none⟩), .string s, .int .i64 n] w fun e w' => e = .returned (.tuple #[]) ∧ Sk b (l ++ s.data.toList) true w' ∧ Below b w w' := by
  obtain ⟨u, hB, hO⟩ := hS
  obtain ⟨A, c, rfl⟩ := OwnB.len hO
  have c0 : w.cell? ⟨b, 0, none⟩ = some (.slice A l.length c) := hB.cell 0
  have c1 : w.cell? ⟨b, 1, none⟩ = some (.bool true) := hB.cell 1
  have f0 := fun j => hB.free j
  have HB : Hid (Blk (w.setCell ⟨b, 1, none⟩ (.bool true)) b #[.slice A l.length c, .bool true] 74) := Lib.hid (by simpa using hB.set 1 (.bool true))
  have HO : Hid (OwnB (b + 1) (.slice A l.length c) l (w.setCell ⟨b, 1, none⟩ (.bool true))) := Lib.hid (hO.set ⟨b, 1, none⟩ (by simp) _)
  have HBW : Hid (Below b w (w.setCell ⟨b, 1, none⟩ (.bool true))) := Lib.hid (Below.setCell (p := ⟨b, 1, none⟩) (Below.refl _ _) (Nat.le_refl _) _)
  have HLT := Lib.hid hB.lt
  clear hB hO
  go_enter Tryz.func80, Tryz.ntmps80
  go_wp2_with (at_builtin; refine ownB_string HO.out (by have := HLT.out; simp; omega) s hl rfl (.tmp 23) (.tmp 24) rfl rfl rfl ?_; intro v1 w1 a1 a2; obtain ⟨A1, c2, rfl⟩ := OwnB.len a1; have HP := Lib.hid (sk_string HB.out HO.out a1 a2); have d0 := HP.out.1.cell 0; have g0 := fun j => HP.out.1.free j; clear a1 a2)
  go_end0
  have hp := HP.out.2
  rw [show (l ++ s.data.toList).length = l.length + s.size by simp] at hp
  exact ⟨rfl, hp.1, HBW.out.trans hp.2⟩
set_option maxRecDepth 100000 in
theorem sink_bytes_few (b : Nat) (l : List UInt8) (s : ByteArray) (n : Int) (w : World) (hS : Sk b l false w) (hl : l.length + s.size ≤ 140737488355328) (hv : (s.size : Int) < n) :
    Calls Tryz.prog 80 #[.pointer (some ⟨b, 0, none⟩), .string s, .int .i64 n] w fun e w' => e = .returned (.tuple #[]) ∧ Sk b (l ++ s.data.toList) true w' ∧ Below b w w' := by
  obtain ⟨u, hB, hO⟩ := hS
  obtain ⟨A, c, rfl⟩ := OwnB.len hO
  have c0 : w.cell? ⟨b, 0, none⟩ = some (.slice A l.length c) := hB.cell 0
  have c1 : w.cell? ⟨b, 1, none⟩ = some (.bool false) := hB.cell 1
  have f0 := fun j => hB.free j
  have HB : Hid (Blk (w.setCell ⟨b, 1, none⟩ (.bool true)) b #[.slice A l.length c, .bool true] 74) := Lib.hid (by simpa using hB.set 1 (.bool true))
  have HO : Hid (OwnB (b + 1) (.slice A l.length c) l (w.setCell ⟨b, 1, none⟩ (.bool true))) := Lib.hid (hO.set ⟨b, 1, none⟩ (by simp) _)
  have HBW : Hid (Below b w (w.setCell ⟨b, 1, none⟩ (.bool true))) := Lib.hid (Below.setCell (p := ⟨b, 1, none⟩) (Below.refl _ _) (Nat.le_refl _) _)
  have HLT := Lib.hid hB.lt
  clear hB hO
  have t1 : decide ((s.size : Int) < n) = true := decide_eq_true hv
  go_enter Tryz.func80, Tryz.ntmps80
  go_wp2_with (at_builtin; refine ownB_string HO.out (by have := HLT.out; simp; omega) s hl rfl (.tmp 23) (.tmp 24) rfl rfl rfl ?_; intro v1 w1 a1 a2; obtain ⟨A1, c2, rfl⟩ := OwnB.len a1; have HP := Lib.hid (sk_string HB.out HO.out a1 a2); have d0 := HP.out.1.cell 0; have g0 := fun j => HP.out.1.free j; clear a1 a2)
  go_end0
  have hp := HP.out.2
  rw [show (l ++ s.data.toList).length = l.length + s.size by simp] at hp
  exact ⟨rfl, hp.1, HBW.out.trans hp.2⟩
set_option maxRecDepth 100000 in
theorem sink_bytes_ok (b : Nat) (l : List UInt8) (s : ByteArray) (n : Int) (w : World) (hS : Sk b l false w) (hl : l.length + s.size ≤ 140737488355328) (hv : n ≤ (s.size : Int)) :
    Calls Tryz.prog 80 #[.pointer (some ⟨b, 0, none⟩), .string s, .int .i64 n] w fun e w' => e = .returned (.tuple #[]) ∧ Sk b (l ++ s.data.toList) false w' ∧ Below b w w' := by
  obtain ⟨u, hB, hO⟩ := hS
  obtain ⟨A, c, rfl⟩ := OwnB.len hO
  have c0 : w.cell? ⟨b, 0, none⟩ = some (.slice A l.length c) := hB.cell 0
  have c1 : w.cell? ⟨b, 1, none⟩ = some (.bool false) := hB.cell 1
  have f0 := fun j => hB.free j
  have HB : Hid (Blk (w.setCell ⟨b, 1, none⟩ (.bool false)) b #[.slice A l.length c, .bool false] 74) := Lib.hid (by simpa using hB.set 1 (.bool false))
  have HO : Hid (OwnB (b + 1) (.slice A l.length c) l (w.setCell ⟨b, 1, none⟩ (.bool false))) := Lib.hid (hO.set ⟨b, 1, none⟩ (by simp) _)
  have HBW : Hid (Below b w (w.setCell ⟨b, 1, none⟩ (.bool false))) := Lib.hid (Below.setCell (p := ⟨b, 1, none⟩) (Below.refl _ _) (Nat.le_refl _) _)
  have HLT := Lib.hid hB.lt
  clear hB hO
  have t1 : decide ((s.size : Int) < n) = false := decide_eq_false (by omega)
  go_enter Tryz.func80, Tryz.ntmps80
  go_wp2_with (at_builtin; refine ownB_string HO.out (by have := HLT.out; simp; omega) s hl rfl (.tmp 23) (.tmp 24) rfl rfl rfl ?_; intro v1 w1 a1 a2; obtain ⟨A1, c2, rfl⟩ := OwnB.len a1; have HP := Lib.hid (sk_string HB.out HO.out a1 a2); have d0 := HP.out.1.cell 0; have g0 := fun j => HP.out.1.free j; clear a1 a2)
  go_end0
  have hp := HP.out.2
  rw [show (l ++ s.data.toList).length = l.length + s.size by simp] at hp
  exact ⟨rfl, hp.1, HBW.out.trans hp.2⟩
theorem sink_bytes (b : Nat) (l : List UInt8) (wr : Bool) (s : ByteArray) (n : Int) (w : World) (hS : Sk b l wr w) (hl : l.length + s.size ≤ 140737488355328) :
    Calls Tryz.prog 80 #[.pointer (some ⟨b, 0, none⟩), .string s, .int .i64 n] w fun e w' => e = .returned (.tuple #[]) ∧ Sk b (l ++ s.data.toList) (wr || decide ((s.size : Int) < n)) w' ∧ Below b w w' := by
  cases wr with
  | true => exact sink_bytes_t b l s n w hS hl
  | false =>
    by_cases h : (s.size : Int) < n
    · rw [decide_eq_true h]; exact sink_bytes_few b l s n w hS hl h
    · rw [decide_eq_false h]; exact sink_bytes_ok b l s n w hS hl (by omega)

set_option maxRecDepth 100000 in
theorem sink_name_t (b : Nat) (l : List UInt8) (s : ByteArray) (w : World) (hS : Sk b l true w) (hl : l.length + s.size ≤ 140737488355328) :
    Calls Tryz.prog 36 #[.pointer (some ⟨b, 0, none⟩), .string s] w fun e w' => e = .returned (.tuple #[]) ∧ Sk b (l ++ s.data.toList) true w' ∧ Below b w w' := by
  obtain ⟨u, hB, hO⟩ := hS
  obtain ⟨A, c, rfl⟩ := OwnB.len hO
  have c0 : w.cell? ⟨b, 0, none⟩ = some (.slice A l.length c) := hB.cell 0
  have c1 : w.cell? ⟨b, 1, none⟩ = some (.bool true) := hB.cell 1
  have f0 := fun j => hB.free j
  have HB : Hid (Blk (w.setCell ⟨b, 1, none⟩ (.bool true)) b #[.slice A l.length c, .bool true] 74) := Lib.hid (by simpa using hB.set 1 (.bool true))
  have HO : Hid (OwnB (b + 1) (.slice A l.length c) l (w.setCell ⟨b, 1, none⟩ (.bool true))) := Lib.hid (hO.set ⟨b, 1, none⟩ (by simp) _)
  have HBW : Hid (Below b w (w.setCell ⟨b, 1, none⟩ (.bool true))) := Lib.hid (Below.setCell (p := ⟨b, 1, none⟩) (Below.refl _ _) (Nat.le_refl _) _)
  have HLT := Lib.hid hB.lt
  clear hB hO
  go_enter Tryz.func36, Tryz.ntmps36
  go_wp2_with (at_builtin; refine ownB_string HO.out (by have := HLT.out; simp; omega) s hl rfl (.tmp 20) (.tmp 21) rfl rfl rfl ?_; intro v1 w1 a1 a2; obtain ⟨A1, c2, rfl⟩ := OwnB.len a1; have HP := Lib.hid (sk_string HB.out HO.out a1 a2); have d0 := HP.out.1.cell 0; have g0 := fun j => HP.out.1.free j; clear a1 a2)
  go_end0
  have hp := HP.out.2
  rw [show (l ++ s.data.toList).length = l.length + s.size by simp] at hp
  exact ⟨rfl, hp.1, HBW.out.trans hp.2⟩
set_option maxRecDepth 100000 in
theorem sink_name_f (b : Nat) (l : List UInt8) (s : ByteArray) (w : World) (hS : Sk b l false w) (hl : l.length + s.size ≤ 140737488355328) :
    Calls Tryz.prog 36 #[.pointer (some ⟨b, 0, none⟩), .string s] w fun e w' => e = .returned (.tuple #[]) ∧ Sk b (l ++ s.data.toList) (!nameRight s) w' ∧ Below b w w' := by
  have hr := fun w => name_right s w
  generalize nameRight s = q at hr ⊢
  have HR := Lib.hid hr
  clear hr
  have c1 : w.cell? ⟨b, 1, none⟩ = some (.bool false) := by obtain ⟨u, hB, hO⟩ := hS; exact hB.cell 1
  have HS := Lib.hid hS
  clear hS
  go_enter Tryz.func36, Tryz.ntmps36
  go_wp2_with (go_at_call 19; refine (Hid.out (p := _) ?_))
  refine Lib.hid ?_
  clear c1
  refine (HR.out _).mono ?_
  rintro e W ⟨rfl, hb⟩
  have hS := HS.out.below hb
  have HB0 := Lib.hid (hb.mono (Nat.le_of_lt HS.out.lt))
  clear HS hb
  obtain ⟨u, hB, hO⟩ := hS
  obtain ⟨A, c, rfl⟩ := OwnB.len hO
  have c0 : W.cell? ⟨b, 0, none⟩ = some (.slice A l.length c) := hB.cell 0
  have c1 : W.cell? ⟨b, 1, none⟩ = some (.bool false) := hB.cell 1
  have f0 := fun j => hB.free j
  have HB : Hid (Blk (W.setCell ⟨b, 1, none⟩ (.bool (!q))) b #[.slice A l.length c, .bool (!q)] 74) := Lib.hid (by simpa using hB.set 1 (.bool (!q)))
  have HO : Hid (OwnB (b + 1) (.slice A l.length c) l (W.setCell ⟨b, 1, none⟩ (.bool (!q)))) := Lib.hid (hO.set ⟨b, 1, none⟩ (by simp) _)
  have HBW : Hid (Below b w (W.setCell ⟨b, 1, none⟩ (.bool (!q)))) := Lib.hid (Below.setCell (p := ⟨b, 1, none⟩) HB0.out (Nat.le_refl _) _)
  have HLT := Lib.hid hB.lt
  clear hB hO
  simp only []
  go_wp2_with (at_builtin; refine ownB_string HO.out (by have := HLT.out; simp; omega) s hl rfl (.tmp 20) (.tmp 21) rfl rfl rfl ?_; intro v1 w1 a1 a2; obtain ⟨A1, c2, rfl⟩ := OwnB.len a1; have HP := Lib.hid (sk_string HB.out HO.out a1 a2); have d0 := HP.out.1.cell 0; have g0 := fun j => HP.out.1.free j; clear a1 a2)
  go_end0
  have hp := HP.out.2
  rw [show (l ++ s.data.toList).length = l.length + s.size by simp] at hp
  exact ⟨rfl, hp.1, HBW.out.trans hp.2⟩
theorem sink_name (b : Nat) (l : List UInt8) (wr : Bool) (s : ByteArray) (w : World) (hS : Sk b l wr w) (hl : l.length + s.size ≤ 140737488355328) :
    Calls Tryz.prog 36 #[.pointer (some ⟨b, 0, none⟩), .string s] w fun e w' => e = .returned (.tuple #[]) ∧ Sk b (l ++ s.data.toList) (wr || !nameRight s) w' ∧ Below b w w' := by
  cases wr with
  | true => exact sink_name_t b l s w hS hl
  | false => exact sink_name_f b l s w hS hl

def bsOf (l : List UInt8) : ByteArray := ⟨l.toArray⟩
/-- What a sink tells in the end. -/
def doneR (l : List UInt8) (wr : Bool) : Option ByteArray := if wr = false ∧ l.length ≤ 2000 then some (bsOf l) else none
def DoneP (w : World) (p : Option ByteArray) (e : Ending) (w' : World) : Prop := e = .returned (.tuple #[.string (p.getD ⟨#[]⟩), .int .i64 (if p.isSome then 0 else 6)]) ∧ Below w.heap.size w w'
set_option maxRecDepth 100000 in
theorem sink_done (b : Nat) (l : List UInt8) (wr : Bool) (w : World) (hS : Sk b l wr w) : Calls Tryz.prog 38 #[.pointer (some ⟨b, 0, none⟩)] w (DoneP w (doneR l wr)) := by
  obtain ⟨u, hB, hO⟩ := hS
  have hcv := hO.string
  obtain ⟨A, c, rfl⟩ := OwnB.len hO
  have c0 : w.cell? ⟨b, 0, none⟩ = some (.slice A l.length c) := hB.cell 0
  have c1 : w.cell? ⟨b, 1, none⟩ = some (.bool wr) := hB.cell 1
  clear hB hO
  cases wr with
  | true =>
    have e : doneR l true = none := by simp [doneR]
    rw [e]
    clear hcv
    go_enter Tryz.func38, Tryz.ntmps38
    go_wp2
    go_ret2
    exact ⟨rfl, Below.refl _ _⟩
  | false =>
    by_cases h : l.length ≤ 2000
    · have e : doneR l false = some (bsOf l) := by simp [doneR, h]
      have t1 : decide ((2000 : Int) < l.length) = false := decide_eq_false (by omega)
      rw [e]
      clear h e
      go_enter Tryz.func38, Tryz.ntmps38
      go_wp2
      go_ret2
      exact ⟨rfl, Below.refl _ _⟩
    · have e : doneR l false = none := by simp [doneR, h]
      have t1 : decide ((2000 : Int) < l.length) = true := decide_eq_true (by omega)
      rw [e]
      clear h e hcv
      go_enter Tryz.func38, Tryz.ntmps38
      go_wp2
      go_ret2
      exact ⟨rfl, Below.refl _ _⟩
end Go.Proofs.YtdflhnbpcnmpfaaGreatDoor

/- data.OfSig. Lines printed by wip/tools/ofsig.py. -/
namespace Go.Proofs.YtdflhnbpcnmpfaaGreatDoor
open Go.RowKit

theorem NotRow.below {b k : Nat} {l : List UInt8} {wr : Bool} {w w' : World} (h : NotRow w b k) (hS : Sk b l wr w) (hb : Below w.heap.size w w') : NotRow w' b k := by
  obtain ⟨v, hB, _⟩ := hS
  intro u hu
  rw [(hB.below hb hB.lt).cell 0] at hu
  exact h u ((hB.cell 0).trans hu)
theorem Sk.new (w : World) : Sk w.heap.size [] false (w.alloc (.cells #[.slice none 0 0, .bool false] 74)) := ⟨_, Blk.new w _ _, OwnB.nil _ _⟩
theorem NotRow.new (w : World) (k : Nat) : NotRow (w.alloc (.cells #[.slice none 0 0, .bool false] 74)) w.heap.size k := by
  intro v hv
  rw [(Blk.new w _ _).cell 0] at hv
  obtain rfl : Value.slice none 0 0 = v := by simpa using hv
  simp [Value.ownBlock]
/-- The world inside of a loop over a row in block g that writes into the sink in b. -/
structure SkSt (w : World) (b g : Nat) (cs : Array Value) (t : TypeId) (l : List UInt8) (wr : Bool) (W : World) : Prop where
  sk : Sk b l wr W
  row : Blk W g cs t
  apart : NotRow W b g
  below : Below w.heap.size w W
theorem SkSt.alloc {w : World} {b g : Nat} {cs : Array Value} {t : TypeId} {l : List UInt8} {wr : Bool} {W : World} (h : SkSt w b g cs t l wr W) (o : Obj) : SkSt w b g cs t l wr (W.alloc o) := by
  have ha : Below W.heap.size W (W.alloc o) := (Below.refl _ W).alloc (Nat.le_refl _) o
  exact ⟨h.sk.below ha, h.row.alloc o, h.apart.below h.sk ha, h.below.trans (ha.mono h.below.size)⟩
theorem SkSt.next {w : World} {b g : Nat} {cs : Array Value} {t : TypeId} {l l' : List UInt8} {wr wr' : Bool} {W W' : World} (h : SkSt w b g cs t l wr W) (hg : g ≠ b) (hb : w.heap.size ≤ b) (h1 : Sk b l' wr' W') (h2 : Below b W W') (h3 : SkKeep b W W') : SkSt w b g cs t l' wr' W' :=
  have a := h3 g h.row.lt hg h.apart
  ⟨h1, by unfold Blk; rw [a.1]; exact h.row, a.2, h.below.trans (h2.mono hb)⟩

/-- The bytes of a signature's data; is something wrong with them? -/
def sigL (x : SigR) : List UInt8 := numB x.covered 2 ++ numB x.alg 1 ++ numB x.labels 1 ++ numB x.ttl 4 ++ numB x.fin 4 ++ numB x.begin 4 ++ numB x.tag 2 ++ x.signer.data.toList ++ x.sign.data.toList
def sigBad (x : SigR) : Bool := badNum x.covered 2 || badNum x.alg 1 || badNum x.labels 1 || badNum x.ttl 4 || badNum x.fin 4 || badNum x.begin 4 || badNum x.tag 2 || !nameRight x.signer || decide ((x.sign.size : Int) < 1)
def ofSig (x : SigR) : Option ByteArray := doneR (sigL x) (sigBad x)
set_option maxRecDepth 100000 in
set_option maxHeartbeats 2000000 in
theorem data_ofSig (x : SigR) (w : World) (hz : x.signer.size + x.sign.size ≤ 140737488000000) : Calls Tryz.prog 82 #[x.v] w (DoneP w (ofSig x)) := by
  obtain ⟨x_covered, x_alg, x_labels, x_ttl, x_fin, x_begin, x_tag, x_signer, x_sign⟩ := x
  simp only [SigR.v] at hz ⊢
  go_enter Tryz.func82, Tryz.ntmps82
  go_wp2_with fail
  have hx0 : Blk (w.alloc (.cells #[.int .i64 x_covered, .int .i64 x_alg, .int .i64 x_labels, .int .i64 x_ttl, .int .i64 x_fin, .int .i64 x_begin, .int .i64 x_tag, .string x_signer, .string x_sign] 110)) w.heap.size #[.int .i64 x_covered, .int .i64 x_alg, .int .i64 x_labels, .int .i64 x_ttl, .int .i64 x_fin, .int .i64 x_begin, .int .i64 x_tag, .string x_signer, .string x_sign] 110 := Blk.new w _ _
  have hb : (w.alloc (.cells #[.int .i64 x_covered, .int .i64 x_alg, .int .i64 x_labels, .int .i64 x_ttl, .int .i64 x_fin, .int .i64 x_begin, .int .i64 x_tag, .string x_signer, .string x_sign] 110)).heap.size = w.heap.size + 1 := by simp
  have hs0 := Sk.new (w.alloc (.cells #[.int .i64 x_covered, .int .i64 x_alg, .int .i64 x_labels, .int .i64 x_ttl, .int .i64 x_fin, .int .i64 x_begin, .int .i64 x_tag, .string x_signer, .string x_sign] 110))
  have hn0 := NotRow.new (w.alloc (.cells #[.int .i64 x_covered, .int .i64 x_alg, .int .i64 x_labels, .int .i64 x_ttl, .int .i64 x_fin, .int .i64 x_begin, .int .i64 x_tag, .string x_signer, .string x_sign] 110)) (w.heap.size + 1 + 1)
  rw [hb] at hs0 hn0
  have hS0 : SkSt (w.alloc (.cells #[.int .i64 x_covered, .int .i64 x_alg, .int .i64 x_labels, .int .i64 x_ttl, .int .i64 x_fin, .int .i64 x_begin, .int .i64 x_tag, .string x_signer, .string x_sign] 110)) (w.heap.size + 1) (w.heap.size + 1 + 1) #[.int .i64 x_covered, .int .i64 2, .int .i64 x_alg, .int .i64 1, .int .i64 x_labels, .int .i64 1, .int .i64 x_ttl, .int .i64 4, .int .i64 x_fin, .int .i64 4, .int .i64 x_begin, .int .i64 4, .int .i64 x_tag, .int .i64 2] 182 [] false (((w.alloc (.cells #[.int .i64 x_covered, .int .i64 x_alg, .int .i64 x_labels, .int .i64 x_ttl, .int .i64 x_fin, .int .i64 x_begin, .int .i64 x_tag, .string x_signer, .string x_sign] 110)).alloc (.cells #[.slice none 0 0, .bool false] 74)).alloc (.cells #[.int .i64 x_covered, .int .i64 2, .int .i64 x_alg, .int .i64 1, .int .i64 x_labels, .int .i64 1, .int .i64 x_ttl, .int .i64 4, .int .i64 x_fin, .int .i64 4, .int .i64 x_begin, .int .i64 4, .int .i64 x_tag, .int .i64 2] 182)) := by
    have ha := (Below.refl _ ((w.alloc (.cells #[.int .i64 x_covered, .int .i64 x_alg, .int .i64 x_labels, .int .i64 x_ttl, .int .i64 x_fin, .int .i64 x_begin, .int .i64 x_tag, .string x_signer, .string x_sign] 110)).alloc (.cells #[.slice none 0 0, .bool false] 74))).alloc (Nat.le_refl _) (.cells #[.int .i64 x_covered, .int .i64 2, .int .i64 x_alg, .int .i64 1, .int .i64 x_labels, .int .i64 1, .int .i64 x_ttl, .int .i64 4, .int .i64 x_fin, .int .i64 4, .int .i64 x_begin, .int .i64 4, .int .i64 x_tag, .int .i64 2] 182)
    refine ⟨hs0.below ha, ?_, hn0.below hs0 ha, ?_⟩
    · have := Blk.new ((w.alloc (.cells #[.int .i64 x_covered, .int .i64 x_alg, .int .i64 x_labels, .int .i64 x_ttl, .int .i64 x_fin, .int .i64 x_begin, .int .i64 x_tag, .string x_signer, .string x_sign] 110)).alloc (.cells #[.slice none 0 0, .bool false] 74)) #[.int .i64 x_covered, .int .i64 2, .int .i64 x_alg, .int .i64 1, .int .i64 x_labels, .int .i64 1, .int .i64 x_ttl, .int .i64 4, .int .i64 x_fin, .int .i64 4, .int .i64 x_begin, .int .i64 4, .int .i64 x_tag, .int .i64 2] 182
      simpa using this
    · exact ((Below.refl _ _).alloc (Nat.le_refl _) _).alloc (by simp) _
  have HX := Lib.hid hx0
  have HS0 := Lib.hid hS0
  clear hx0 hb hs0 hn0 hS0
  refine wp_loop_rounds 8 ?_
  have hgb : w.heap.size + 1 + 1 ≠ w.heap.size + 1 := by omega
  have hwb : (w.alloc (.cells #[.int .i64 x_covered, .int .i64 x_alg, .int .i64 x_labels, .int .i64 x_ttl, .int .i64 x_fin, .int .i64 x_begin, .int .i64 x_tag, .string x_signer, .string x_sign] 110)).heap.size ≤ w.heap.size + 1 := by simp
  have HGB := Lib.hid hgb; have HWB := Lib.hid hwb
  clear hgb hwb
  rw [rounds_succ]
  go_wp2_with fail
  refine (sink_number (w.heap.size + 1) ([]) (false) x_covered 2 _ (HS0.out.alloc _).sk (by omega) (by simp [numB_len])).mono ?_
  rintro e W1 ⟨rfl, h1, h2, h3⟩
  have HS1 := Lib.hid ((HS0.out.alloc _).next HGB.out HWB.out h1 h2 h3)
  clear h1 h2 h3 HS0
  go_wp2_with fail
  have c0 : W1.cell? ⟨w.heap.size + 1 + 1, 2, none⟩ = some (.int .i64 x_alg) := HS1.out.row.cell 2
  have c1 : W1.cell? ⟨w.heap.size + 1 + 1, 3, none⟩ = some (.int .i64 1) := HS1.out.row.cell 3
  rw [rounds_succ]
  go_wp2_with fail
  clear c0 c1
  refine (sink_number (w.heap.size + 1) (([] ++ numB x_covered 2)) ((false || badNum x_covered 2)) x_alg 1 _ (HS1.out.alloc _).sk (by omega) (by simp [numB_len])).mono ?_
  rintro e W2 ⟨rfl, h1, h2, h3⟩
  have HS2 := Lib.hid ((HS1.out.alloc _).next HGB.out HWB.out h1 h2 h3)
  clear h1 h2 h3 HS1
  go_wp2_with fail
  have c0 : W2.cell? ⟨w.heap.size + 1 + 1, 4, none⟩ = some (.int .i64 x_labels) := HS2.out.row.cell 4
  have c1 : W2.cell? ⟨w.heap.size + 1 + 1, 5, none⟩ = some (.int .i64 1) := HS2.out.row.cell 5
  rw [rounds_succ]
  go_wp2_with fail
  clear c0 c1
  refine (sink_number (w.heap.size + 1) ((([] ++ numB x_covered 2) ++ numB x_alg 1)) (((false || badNum x_covered 2) || badNum x_alg 1)) x_labels 1 _ (HS2.out.alloc _).sk (by omega) (by simp [numB_len])).mono ?_
  rintro e W3 ⟨rfl, h1, h2, h3⟩
  have HS3 := Lib.hid ((HS2.out.alloc _).next HGB.out HWB.out h1 h2 h3)
  clear h1 h2 h3 HS2
  go_wp2_with fail
  have c0 : W3.cell? ⟨w.heap.size + 1 + 1, 6, none⟩ = some (.int .i64 x_ttl) := HS3.out.row.cell 6
  have c1 : W3.cell? ⟨w.heap.size + 1 + 1, 7, none⟩ = some (.int .i64 4) := HS3.out.row.cell 7
  rw [rounds_succ]
  go_wp2_with fail
  clear c0 c1
  refine (sink_number (w.heap.size + 1) (((([] ++ numB x_covered 2) ++ numB x_alg 1) ++ numB x_labels 1)) ((((false || badNum x_covered 2) || badNum x_alg 1) || badNum x_labels 1)) x_ttl 4 _ (HS3.out.alloc _).sk (by omega) (by simp [numB_len])).mono ?_
  rintro e W4 ⟨rfl, h1, h2, h3⟩
  have HS4 := Lib.hid ((HS3.out.alloc _).next HGB.out HWB.out h1 h2 h3)
  clear h1 h2 h3 HS3
  go_wp2_with fail
  have c0 : W4.cell? ⟨w.heap.size + 1 + 1, 8, none⟩ = some (.int .i64 x_fin) := HS4.out.row.cell 8
  have c1 : W4.cell? ⟨w.heap.size + 1 + 1, 9, none⟩ = some (.int .i64 4) := HS4.out.row.cell 9
  rw [rounds_succ]
  go_wp2_with fail
  clear c0 c1
  refine (sink_number (w.heap.size + 1) ((((([] ++ numB x_covered 2) ++ numB x_alg 1) ++ numB x_labels 1) ++ numB x_ttl 4)) (((((false || badNum x_covered 2) || badNum x_alg 1) || badNum x_labels 1) || badNum x_ttl 4)) x_fin 4 _ (HS4.out.alloc _).sk (by omega) (by simp [numB_len])).mono ?_
  rintro e W5 ⟨rfl, h1, h2, h3⟩
  have HS5 := Lib.hid ((HS4.out.alloc _).next HGB.out HWB.out h1 h2 h3)
  clear h1 h2 h3 HS4
  go_wp2_with fail
  have c0 : W5.cell? ⟨w.heap.size + 1 + 1, 10, none⟩ = some (.int .i64 x_begin) := HS5.out.row.cell 10
  have c1 : W5.cell? ⟨w.heap.size + 1 + 1, 11, none⟩ = some (.int .i64 4) := HS5.out.row.cell 11
  rw [rounds_succ]
  go_wp2_with fail
  clear c0 c1
  refine (sink_number (w.heap.size + 1) (((((([] ++ numB x_covered 2) ++ numB x_alg 1) ++ numB x_labels 1) ++ numB x_ttl 4) ++ numB x_fin 4)) ((((((false || badNum x_covered 2) || badNum x_alg 1) || badNum x_labels 1) || badNum x_ttl 4) || badNum x_fin 4)) x_begin 4 _ (HS5.out.alloc _).sk (by omega) (by simp [numB_len])).mono ?_
  rintro e W6 ⟨rfl, h1, h2, h3⟩
  have HS6 := Lib.hid ((HS5.out.alloc _).next HGB.out HWB.out h1 h2 h3)
  clear h1 h2 h3 HS5
  go_wp2_with fail
  have c0 : W6.cell? ⟨w.heap.size + 1 + 1, 12, none⟩ = some (.int .i64 x_tag) := HS6.out.row.cell 12
  have c1 : W6.cell? ⟨w.heap.size + 1 + 1, 13, none⟩ = some (.int .i64 2) := HS6.out.row.cell 13
  rw [rounds_succ]
  go_wp2_with fail
  clear c0 c1
  refine (sink_number (w.heap.size + 1) ((((((([] ++ numB x_covered 2) ++ numB x_alg 1) ++ numB x_labels 1) ++ numB x_ttl 4) ++ numB x_fin 4) ++ numB x_begin 4)) (((((((false || badNum x_covered 2) || badNum x_alg 1) || badNum x_labels 1) || badNum x_ttl 4) || badNum x_fin 4) || badNum x_begin 4)) x_tag 2 _ (HS6.out.alloc _).sk (by omega) (by simp [numB_len])).mono ?_
  rintro e W7 ⟨rfl, h1, h2, h3⟩
  have HS7 := Lib.hid ((HS6.out.alloc _).next HGB.out HWB.out h1 h2 h3)
  clear h1 h2 h3 HS6
  go_wp2_with fail
  have hX := HX.out.below HS7.out.below HX.out.lt
  have c7 : W7.cell? ⟨w.heap.size, 7, none⟩ = some (.string x_signer) := hX.cell 7
  have c8 : W7.cell? ⟨w.heap.size, 8, none⟩ = some (.string x_sign) := hX.cell 8
  have HX2 := Lib.hid hX
  clear hX HX
  rw [rounds_succ]
  go_wp2_with fail
  refine (sink_name (w.heap.size + 1) (((((((([] ++ numB x_covered 2) ++ numB x_alg 1) ++ numB x_labels 1) ++ numB x_ttl 4) ++ numB x_fin 4) ++ numB x_begin 4) ++ numB x_tag 2)) ((((((((false || badNum x_covered 2) || badNum x_alg 1) || badNum x_labels 1) || badNum x_ttl 4) || badNum x_fin 4) || badNum x_begin 4) || badNum x_tag 2)) x_signer _ HS7.out.sk (by simp [numB_len]; omega)).mono ?_
  rintro e V1 ⟨rfl, h1, h2⟩
  clear c7 c8
  have c8 : V1.cell? ⟨w.heap.size, 8, none⟩ = some (.string x_sign) := (HX2.out.below h2 (by omega)).cell 8
  have HT1 := Lib.hid (And.intro h1 (HS7.out.below.trans (h2.mono HWB.out)))
  clear h1 h2 HX2 HS7
  go_wp2_with fail
  refine (sink_bytes (w.heap.size + 1) (((((((([] ++ numB x_covered 2) ++ numB x_alg 1) ++ numB x_labels 1) ++ numB x_ttl 4) ++ numB x_fin 4) ++ numB x_begin 4) ++ numB x_tag 2) ++ x_signer.data.toList) ((((((((false || badNum x_covered 2) || badNum x_alg 1) || badNum x_labels 1) || badNum x_ttl 4) || badNum x_fin 4) || badNum x_begin 4) || badNum x_tag 2) || !nameRight x_signer) x_sign 1 _ HT1.out.1 (by simp [numB_len]; omega)).mono ?_
  rintro e V2 ⟨rfl, h1, h2⟩
  clear c8
  have HT2 := Lib.hid (And.intro h1 (HT1.out.2.trans (h2.mono HWB.out)))
  clear h1 h2 HT1
  go_wp2_with fail
  refine (sink_done (w.heap.size + 1) _ _ _ HT2.out.1).mono ?_
  rintro e V3 ⟨rfl, h2⟩
  have HB := Lib.hid (((Below.refl _ w).alloc (Nat.le_refl _) (.cells #[.int .i64 x_covered, .int .i64 x_alg, .int .i64 x_labels, .int .i64 x_ttl, .int .i64 x_fin, .int .i64 x_begin, .int .i64 x_tag, .string x_signer, .string x_sign] 110)).trans ((HT2.out.2.trans (h2.mono HT2.out.2.size)).mono (by simp)))
  clear h2 HT2
  generalize hq : doneR ((((((((([] ++ numB x_covered 2) ++ numB x_alg 1) ++ numB x_labels 1) ++ numB x_ttl 4) ++ numB x_fin 4) ++ numB x_begin 4) ++ numB x_tag 2) ++ x_signer.data.toList) ++ x_sign.data.toList) (((((((((false || badNum x_covered 2) || badNum x_alg 1) || badNum x_labels 1) || badNum x_ttl 4) || badNum x_fin 4) || badNum x_begin 4) || badNum x_tag 2) || !nameRight x_signer) || decide ((x_sign.size : Int) < 1)) = q
  have HQ : Hid (ofSig ⟨x_covered, x_alg, x_labels, x_ttl, x_fin, x_begin, x_tag, x_signer, x_sign⟩ = q) := Lib.hid (by rw [← hq]; simp [ofSig, sigL, sigBad, Bool.or_assoc])
  clear hq
  cases q with
  | none =>
    simp only [Option.getD, Option.isSome, Bool.false_eq_true, if_false]
    go_wp2
    go_ret2
    refine ⟨?_, HB.out⟩
    rw [HQ.out]
    rfl
  | some q =>
    simp only [Option.getD, Option.isSome, if_true]
    go_wp2
    go_ret2
    refine ⟨?_, HB.out⟩
    rw [HQ.out]
    rfl
end Go.Proofs.YtdflhnbpcnmpfaaGreatDoor

/- A row of bytes that the call made ('[]byte(s)' or an append's), told by its cells: a byte appended to it; its text. -/
namespace Go.Proofs.YtdflhnbpcnmpfaaGreatDoor
open Go.RowKit

/-- v is a row of the call's own that holds these bytes; what lies behind them may be written. -/
def ByAt (base : Nat) (v : Value) (l : List UInt8) (w : World) : Prop :=
  ∃ g cap, v = .slice (some ⟨g, 0, none⟩) l.length cap ∧ base ≤ g ∧ g < w.heap.size ∧ l.length ≤ cap ∧ cap ≤ maxLen ∧ (∀ j, j < l.length → w.cell? ⟨g, j, none⟩ = some (bv (l.getD j 0))) ∧
    ∀ j, l.length ≤ j → j < cap → (w.cell? ⟨g, j, none⟩).isSome = true ∧ w.frozen? ⟨g, j, none⟩ = false
theorem byAt_new (w : World) (s : ByteArray) (hs : s.size ≤ 140737488351232) : ByAt w.heap.size (.slice (some ⟨w.heap.size, 0, none⟩) s.size (grownCap w s.size 0 5)) s.data.toList (Lib.bytesWorld w 5 s) := by
  have hge := grownCap_ge w s.size 0 5
  have hle := grownCap_le_maxLen w s.size 0 5 (by simp only [maxLen]; omega)
  have hl : s.data.toList.length = s.size := by simp
  have hsz : (Lib.bytesCells w 5 s).size = grownCap w s.size 0 5 := by
    simp only [Lib.bytesCells, Array.size_append, Array.size_map, Array.size_replicate]
    show s.size + _ = _; omega
  refine ⟨w.heap.size, _, by rw [hl], Nat.le_refl _, by rw [Lib.bytesWorld_size]; omega, by rw [hl]; exact hge, hle, fun j hj => ?_, fun j h1 h2 => ⟨?_, ?_⟩⟩
  · exact Lib.bytesWorld_cell w 5 s j (by rw [hl] at hj; exact hj)
  · simp only [World.cell?, Lib.bytesWorld_at_new]
    simp [hsz, h2]
  · simp only [World.frozen?, Lib.bytesWorld_at_new, hsz]
    simp; omega
theorem ByAt.string {base : Nat} {v : Value} {l : List UInt8} {w : World} (h : ByAt base v l w) : (convert 69 9 v).run Tryz.prog w = .ok (.string ⟨l.toArray⟩) w := by
  obtain ⟨g, cap, rfl, _, _, _, _, hc, _⟩ := h
  have := run_convert_bytes_arg (P := Tryz.prog) w 69 5 Tryz.underlying69 Tryz.underlying5 g 0 l.length cap (l.map fun b => (b.toNat : Int)) (by simp) (by
    intro i hi
    rw [Nat.zero_add, hc i hi]
    simp [bv, List.getD, List.getElem?_eq_getElem hi]) 9 Tryz.underlying9
  have e : strOfNums (l.map fun b => (b.toNat : Int)) = ⟨l.toArray⟩ := by
    show (⟨((l.map fun b => (b.toNat : Int)).map fun n => UInt8.ofNat n.toNat).toArray⟩ : ByteArray) = ⟨l.toArray⟩
    rw [List.map_map]
    have e : ((fun n : Int => UInt8.ofNat n.toNat) ∘ fun b : UInt8 => (b.toNat : Int)) = id := by
      funext b
      simp
    rw [e, List.map_id]
  rw [this, e]
theorem ByAt.slice {base : Nat} {v : Value} {l : List UInt8} {w : World} (h : ByAt base v l w) : ∃ g cap, v = .slice (some ⟨g, 0, none⟩) l.length cap := by
  obtain ⟨g, cap, e, _⟩ := h
  exact ⟨g, cap, e⟩
theorem byAt_append {ops : Array Oper} {rest : List Oper} {o : Oper} {a : Act} {Q : Exit → Act → World → Prop} {base : Nat} {v : Value} {l : List UInt8} {w0 W : World} (HO : ByAt base v l W) (HB : Below base w0 W) (hbase : base ≤ W.heap.size) (x : UInt8) (hl : l.length < 140737488355328)
    (hgd : o.guard = none) (s y : Operand) (ho : o.op = .call { callee := .builtin .append, args := #[s, y], argTypes := #[69, 69] }) (cs : Array Value) (m c : Nat) (hs : a.eval s = v) (hx : a.eval y = .slice (some ⟨W.heap.size, 0, none⟩) m c) (hcs : cs = #[bv x]) (hm : m = 1)
    (h : ∀ v1 w1, ByAt base v1 (l ++ [x]) w1 → Below base w0 w1 → base ≤ w1.heap.size → wpList Tryz.prog ops Q rest (a.put o.dst v1) w1) : wpList Tryz.prog ops Q (o :: rest) a (W.alloc (.cells cs 5)) := by
  subst hcs hm
  obtain ⟨g, cap, rfl, hg, hlt, hlc, hmax, hc, hf⟩ := HO
  obtain ⟨i0, hi, hzz⟩ := Option.map_eq_some_iff.1 info_u8b
  simp only [Prod.mk.injEq] at hzz
  obtain ⟨hz0, hz1, hz2⟩ := hzz
  have hne : g ≠ W.heap.size := by omega
  have hcell : ∀ j, (W.alloc (.cells #[bv x] 5)).cell? ⟨g, j, none⟩ = W.cell? ⟨g, j, none⟩ := fun j => World.cell?_alloc_old _ _ _ hne
  have hfro : ∀ j, (W.alloc (.cells #[bv x] 5)).frozen? ⟨g, j, none⟩ = W.frozen? ⟨g, j, none⟩ := fun j =>
    World.frozen?_of_block (w := W) (a := ⟨g, j, none⟩) (Below.heap_alloc _ _ _ hlt)
  have hnew : ∀ j u, [bv x][j]? = some u → (W.alloc (.cells #[bv x] 5)).cell? ((⟨W.heap.size, 0, none⟩ : Addr).add j) = some u :=
    World.news_of_block (cs := #[bv x]) (t := 5) (fr := (0, 0)) (heap_alloc_new W _)
  have h1 : ∀ u ∈ [bv x], u.oneCell' = true := by intro u hu; simp at hu; obtain rfl := hu; rfl
  have hll : (l ++ [x]).length = l.length + 1 := by simp
  have hB1 := HB.alloc hbase (.cells #[bv x] 5)
  refine wpList_plain hgd fun K hK => ?_
  by_cases hroom : l.length + 1 ≤ cap
  · have hr := run_append_room_cells (P := Tryz.prog) (W.alloc (.cells #[bv x] 5)) 69 o.type 5 i0 Tryz.underlying69 hi g 0 l.length cap ⟨W.heap.size, 0, none⟩ 1 c [bv x] (by simp [hz1]) hnew h1 hroom
      (by intro j hj; obtain rfl : j = 0 := by simpa using hj
          rw [hz1, Nat.mul_one, Nat.zero_add, Nat.add_zero, hcell]; exact (hf _ (Nat.le_refl _) (by omega)).1)
      (by intro j hj; obtain rfl : j = 0 := by simpa using hj
          rw [hz1, Nat.mul_one, Nat.zero_add, Nat.add_zero, hfro]; exact (hf _ (Nat.le_refl _) (by omega)).2)
    rw [hz1, Nat.mul_one, Nat.zero_add] at hr
    unfold Oper.wp execOp
    simp only [ho, resolve, invoke, builtin, Sem.run_bind, Sem.run_pure, Result.andThen_ok, List.map_toArray, List.map_cons, List.map_nil, hs, hx, hr]
    refine hK _ _ (h _ _ ⟨g, cap, by rw [hll], hg, ?_, by rw [hll]; exact hroom, hmax, fun j hj => ?_, fun j h1 h2 => ?_⟩ (hB1.setCell (p := ⟨g, l.length, none⟩) hg _) ?_)
    · show g < ((W.alloc _).setCell _ _).heap.size
      simp; omega
    · show ((W.alloc _).setCell ⟨g, l.length, none⟩ (bv x)).cell? _ = _
      rw [hll] at hj
      by_cases e : j = l.length
      · subst e
        obtain ⟨u, hu⟩ := Option.isSome_iff_exists.1 (hf _ (Nat.le_refl _) (by omega)).1
        rw [World.cell?_setCell_same _ _ _ ((hcell _).trans hu)]
        simp [List.getD]
      · rw [World.cell?_setCell_other _ _ _ _ (by intro h; cases h; exact e rfl), hcell, hc j (by omega)]
        simp [List.getD, List.getElem?_append_left (show j < l.length by omega)]
    · show (((W.alloc _).setCell ⟨g, l.length, none⟩ (bv x)).cell? _).isSome = true ∧ ((W.alloc _).setCell ⟨g, l.length, none⟩ (bv x)).frozen? _ = false
      rw [hll] at h1
      rw [World.cell?_setCell_other _ _ _ _ (by intro h; cases h; omega), World.frozen?_setCell, hcell, hfro]
      exact hf j (by omega) h2
    · show base ≤ ((W.alloc _).setCell _ _).heap.size
      simp; omega
  · have holds : ∀ j u, (l.map bv)[j]? = some u → (W.alloc (.cells #[bv x] 5)).cell? ((⟨g, 0, none⟩ : Addr).add j) = some u := by
      intro j u hu
      have hj : j < l.length := by
        rcases Nat.lt_or_ge j l.length with h | h
        · exact h
        · rw [List.getElem?_eq_none (by simpa using h)] at hu; cases hu
      have e : (⟨g, 0, none⟩ : Addr).add j = ⟨g, j, none⟩ := by unfold Addr.add; split <;> simp_all
      rw [e, hcell, hc j hj, ← hu]
      simp [List.getD, List.getElem?_eq_getElem hj]
    have hr := run_append_grow (P := Tryz.prog) (W.alloc (.cells #[bv x] 5)) 69 o.type 5 i0 (.int .u8 0) Tryz.underlying69 hi hz0 ⟨g, 0, none⟩ l.length cap (l.map bv) (by simp [hz1]) holds ⟨W.heap.size, 0, none⟩ 1 c [bv x] (by simp [hz1]) hnew
      (by omega) (by omega) (growslice_fits (by omega) (by rw [hz2]; omega))
    have hge := grownCap_ge (W.alloc (.cells #[bv x] 5)) (l.length + 1) cap 5
    have hle := grownCap_le_maxLen (W.alloc (.cells #[bv x] 5)) (l.length + 1) cap 5 (by simp only [maxLen]; omega)
    generalize grownCap (W.alloc (.cells #[bv x] 5)) (l.length + 1) cap 5 = cap' at hr hge hle
    unfold Oper.wp execOp
    simp only [ho, resolve, invoke, builtin, Sem.run_bind, Sem.run_pure, Result.andThen_ok, List.map_toArray, List.map_cons, List.map_nil, hs, hx, hr]
    have hz : (Builtin.zeroCells (Value.int .u8 0).cells (cap' - (l.length + 1))).size = cap' - (l.length + 1) := by rw [size_zeroCells]; simp [Value.cells]
    generalize hcs : ((l.map bv).toArray ++ [bv x].toArray ++ Builtin.zeroCells (Value.int .u8 0).cells (cap' - (l.length + 1))) = cs
    have hcsz : cs.size = cap' := by rw [← hcs]; simp only [Array.size_append, hz]; simp; omega
    have hblk : Blk ((W.alloc (.cells #[bv x] 5)).drew.alloc (.cells cs 5)) (W.alloc (.cells #[bv x] 5)).heap.size cs 5 := Blk.new (W.alloc (.cells #[bv x] 5)).drew cs 5
    refine hK _ _ (h _ _ ⟨(W.alloc (.cells #[bv x] 5)).heap.size, cap', by rw [hll], by simp; omega, hblk.lt, by rw [hll]; exact hge, hle, fun j hj => ?_, fun j h1 h2 => ⟨?_, hblk.free j⟩⟩ ((hB1.drew).alloc (by show base ≤ (W.alloc _).heap.size; simp; omega) _) (by show base ≤ ((W.alloc (.cells #[bv x] 5)).drew.alloc (.cells cs 5)).heap.size; simp; omega))
    · rw [hblk.cell j, ← hcs]
      rw [hll] at hj
      rw [Array.getElem?_append_left (by simp; omega)]
      by_cases e : j = l.length
      · subst e
        rw [Array.getElem?_append_right (by simp)]
        simp [List.getD]
      · rw [Array.getElem?_append_left (by simp; omega)]
        simp [List.getD, List.getElem?_append_left (show j < l.length by omega), show j < l.length by omega]
    · rw [hblk.cell j, Array.getElem?_eq_getElem (by omega)]; rfl
end Go.Proofs.YtdflhnbpcnmpfaaGreatDoor

/- data.Lower: the loop over the names in data. -/
namespace Go.Proofs.YtdflhnbpcnmpfaaGreatDoor
open Go.RowKit

def flat (l : List ByteArray) : List UInt8 := l.flatMap fun x => x.data.toList
theorem flat_len_low (l : List ByteArray) : (flat (l.map nameLower)).length = (flat l).length := by
  induction l with
  | nil => rfl
  | cons x l ih =>
    have hx : (nameLower x).data.toList.length = x.data.toList.length := by
      unfold nameLower
      split
      · have := size_lowS x
        simpa using this
      · rfl
    simp only [flat, List.map_cons, List.flatMap_cons, List.length_append] at ih ⊢
    omega
theorem size_nameLower (x : ByteArray) : (nameLower x).size = x.size := by
  unfold nameLower
  split
  · exact size_lowS x
  · rfl
theorem flat_cons (x : ByteArray) (l : List ByteArray) : flat (x :: l) = x.data.toList ++ flat l := rfl
def NamesP (l : List ByteArray) (w : World) (e : Ending) (w' : World) : Prop := Below w.heap.size w w' ∧ ∃ v, e = .returned v ∧ OwnS w.heap.size v l w'

/-- What the bytes are when the first i names have been made small. -/
def lowAtI (pre post : List UInt8) (l : List ByteArray) (i : Nat) : List UInt8 := pre ++ flat ((l.take i).map nameLower) ++ flat (l.drop i) ++ post
theorem flat_append (a b : List ByteArray) : flat (a ++ b) = flat a ++ flat b := by simp [flat]
theorem lowAtI_len (pre post : List UInt8) (l : List ByteArray) (i : Nat) : (lowAtI pre post l i).length = pre.length + (flat l).length + post.length := by
  have h1 := flat_len_low (l.take i)
  have h2 : (flat l).length = (flat (l.take i)).length + (flat (l.drop i)).length := by rw [← List.length_append, ← flat_append, List.take_append_drop]
  simp only [lowAtI, List.length_append]
  omega
theorem lowAtI_next (pre post : List UInt8) (l : List ByteArray) (i : Nat) (h : i < l.length) : lowAtI pre post l (i + 1) = splice (lowAtI pre post l i) (pre.length + (flat (l.take i)).length) (nameLower l[i]).data.toList := by
  have e1 : l.drop i = l[i] :: l.drop (i + 1) := List.drop_eq_getElem_cons h
  have e2 : l.take (i + 1) = l.take i ++ [l[i]] := List.take_succ_eq_append_getElem h
  have h1 := flat_len_low (l.take i)
  have hs : (nameLower l[i]).data.toList.length = l[i].data.toList.length := by have := size_nameLower l[i]; simpa using this
  have e3 : lowAtI pre post l i = (pre ++ flat ((l.take i).map nameLower)) ++ (l[i].data.toList ++ (flat (l.drop (i + 1)) ++ post)) := by
    rw [lowAtI, e1, flat_cons]
    simp only [List.append_assoc]
  have hl : (pre ++ flat ((l.take i).map nameLower)).length = pre.length + (flat (l.take i)).length := by rw [List.length_append, h1]
  rw [e3, ← hl, splice, List.take_left, List.drop_append, List.drop_of_length_le (by omega), List.nil_append]
  rw [show (pre ++ flat ((l.take i).map nameLower)).length + (nameLower l[i]).data.toList.length - (pre ++ flat ((l.take i).map nameLower)).length = l[i].data.toList.length by omega, List.drop_left]
  rw [lowAtI, e2, List.map_append, flat_append, List.map_cons, List.map_nil, flat_cons]
  simp only [flat, List.flatMap_nil, List.append_nil, List.append_assoc]
theorem rowAt_bytes (w : World) (s : ByteArray) : RowAt w.heap.size s.data.toList (Lib.bytesWorld w 5 s) := by
  refine ⟨by rw [Lib.bytesWorld_size]; omega, fun k hk => ?_⟩
  have hk' : k < s.size := by simpa using hk
  have h1 := (BytesAt.new w s k hk').1
  have h2 := (BytesAt.new w s k hk').2
  refine ⟨?_, h2⟩
  rw [h1]; rfl
theorem OwnS.get {base : Nat} {v : Value} {l : List ByteArray} {w : World} (h : OwnS base v l w) (hl : 0 < l.length) : ∃ g c, v = .slice (some ⟨g, 0, none⟩) l.length c ∧ base ≤ g ∧ g < w.heap.size ∧ ∀ i (hi : i < l.length), w.cell? ⟨g, i, none⟩ = some (.string l[i]) :=
  h.cell (by intro e; rw [e] at hl; exact absurd hl (by simp))

theorem strOfNums_bytes (l : List UInt8) : strOfNums (l.map fun b => (b.toNat : Int)) = bsOf l := by
  show (⟨((l.map fun b => (b.toNat : Int)).map fun n => UInt8.ofNat n.toNat).toArray⟩ : ByteArray) = ⟨l.toArray⟩
  rw [List.map_map]
  have e : ((fun n : Int => UInt8.ofNat n.toNat) ∘ fun b : UInt8 => (b.toNat : Int)) = id := by
    funext b
    simp
  rw [e, List.map_id]
set_option maxRecDepth 100000 in
set_option maxHeartbeats 1000000 in
theorem lower_any (k : Int) (d : ByteArray) (w : World) (l : List ByteArray) (pre post : List UInt8) (a0 : Nat) (hr : dataRight k d = true) (hz : d.size ≤ 2000) (hk : (k == 46) = false) (hd : d.data.toList = lowAtI pre post l 0) (ha : pre.length = a0) (hk2 : (k == 15) = decide (a0 = 2)) (ha2 : a0 = 0 ∨ a0 = 2)
    (hne : ∀ x ∈ l, 0 < x.size) (hll : l.length ≤ 2) (hn : ∀ W, Calls Tryz.prog 83 #[.int .i64 k, .string d] W (NamesP l W)) :
    Calls Tryz.prog 65 #[.int .i64 k, .string d] w fun e w' => e = .returned (.string (bsOf (lowAtI pre post l l.length))) ∧ Below w.heap.size w w' := by
  have hrc := fun w => right_any k d w
  rw [hr] at hrc
  have HR := Lib.hid hrc; have HN := Lib.hid hn; have HD := Lib.hid hd; have HNE := Lib.hid hne; have HA := Lib.hid ha
  clear hrc hn hd hne ha hr
  have hcv := conv_string_bytes
  rcases ha2 with rfl | rfl
  · have hk3 : (k == 15) = false := by rw [hk2]; rfl
    clear hk2
    go_enter Tryz.func65, Tryz.ntmps65
    go_wp2_with (first | (go_at_call 64; refine (HR.out _).mono ?_; rintro e w1 ⟨rfl, hb1⟩) | (go_at_call 83; refine (Hid.out (p := _) ?_)))
    refine Lib.hid ?_
    have hrow := rowAt_bytes w1 d
    have hsz := Lib.bytesWorld_size w1 5 d
    have hbw := below_bytesWorld w1 5 d
    have hge := grownCap_ge w1 d.size 0 5
    have hle := grownCap_le_maxLen w1 d.size 0 5 (by simp only [maxLen]; omega)
    generalize grownCap w1 d.size 0 5 = cap at *
    generalize Lib.bytesWorld w1 5 d = WB at *
    refine (HN.out _).mono ?_
    rintro e w2 ⟨hb2, v, rfl, hv⟩
    obtain ⟨A, c, rfl⟩ := OwnS.len hv
    have hB2 : Below w.heap.size w w2 := hb1.trans ((hbw.trans (hb2.mono hbw.size)).mono hb1.size)
    rw [HD.out] at hrow
    have hrow2 : RowAt w1.heap.size (lowAtI pre post l 0) w2 := by
      refine ⟨Nat.lt_of_lt_of_le hrow.1 hb2.size, fun q hq => ?_⟩
      rw [hb2.cell (p := ⟨w1.heap.size, q, none⟩) hrow.1, hb2.frozen (p := ⟨w1.heap.size, q, none⟩) hrow.1]
      exact hrow.2 q hq
    have HZ := Lib.hid (And.intro hge (And.intro hle (show w1.heap.size < WB.heap.size by omega)))
    have HS := Lib.hid (show RowAt w1.heap.size (lowAtI pre post l 0) w2 ∧ OwnS WB.heap.size (.slice A l.length c) l w2 ∧ Below w.heap.size w w2 from ⟨hrow2, hv, hB2⟩)
    have HB1 := Lib.hid hb1
    clear hrow hrow2 hsz hbw hge hle hb2 hv hB2 hb1 HN HR
    simp only []
    go_wp2_with fail
    go_loopw [7, 8, 41] (fun b at_ i wr => ∃ q : Nat, q ≤ l.length ∧ i = .int .i64 q ∧ b = .slice (some ⟨w1.heap.size, 0, none⟩) d.size cap ∧ (∃ p : Nat, at_ = .int .i64 (p : Int) ∧ Hid (p = 0 + (flat (l.take q)).length)) ∧ Hid (RowAt w1.heap.size (lowAtI pre post l q) wr ∧ OwnS WB.heap.size (.slice A l.length c) l wr ∧ Below w.heap.size w wr)) (fun _ _ i _ => l.length - (intOf i).toNat)
    case atStart => exact ⟨0, Nat.zero_le _, rfl, rfl, ⟨0, rfl, Lib.hid (by simp [flat])⟩, HS⟩
    case round =>
      obtain ⟨q, hq, rfl, rfl, ⟨p, rfl, HP⟩, HW⟩ := hrel
      by_cases hlt : q < l.length
      · obtain ⟨gn, cn, he, hgn, hgl, hcs⟩ := OwnS.get HW.out.2.1 (by omega)
        obtain ⟨rfl, rfl⟩ : A = some ⟨gn, 0, none⟩ ∧ c = cn := by injection he with h1 _ h2; exact ⟨h1, h2⟩
        have hc : wr.cell? ⟨gn, q, none⟩ = some (.string l[q]) := hcs q hlt
        have hlen := lowAtI_len pre post l q
        have hlen0 := lowAtI_len pre post l 0
        have hnx := lowAtI_next pre post l q hlt
        have hsum : (flat (l.take q)).length + l[q].size ≤ (flat l).length := by
          have e1 : l = l.take q ++ l[q] :: l.drop (q + 1) := by rw [← List.drop_eq_getElem_cons hlt, List.take_append_drop]
          have e2 := congrArg (fun z => (flat z).length) e1
          simp only [flat_append, flat_cons, List.length_append] at e2
          have e3 : l[q].data.toList.length = l[q].size := by simp
          omega
        have hsn : (flat (l.take (q + 1))).length = (flat (l.take q)).length + l[q].size := by
          rw [List.take_succ_eq_append_getElem hlt, flat_append, flat_cons]
          simp [flat]
        have hdl : (lowAtI pre post l 0).length = d.size := by rw [← HD.out]; simp
        have hpos := HNE.out l[q] (List.getElem_mem hlt)
        have hA := HA.out
        have hp := HP.out
        have hsl := size_nameLower l[q]
        have hlow := fun W => name_lower l[q] W
        have hbd : (p : Int) + (l[q].size : Int) ≤ 2000 := by omega
        have h1 : p + l[q].size ≤ d.size := by omega
        have h2 : (lowAtI pre post l q).length = d.size := by omega
        have h3 : lowAtI pre post l (q + 1) = splice (lowAtI pre post l q) p (nameLower l[q]).data.toList := by rw [hnx, show pre.length + (flat (l.take q)).length = p by omega]
        have h4 : p + l[q].size = 0 + (flat (l.take (q + 1))).length := by omega
        generalize nameLower l[q] = y at hlow hsl h3
        generalize l[q] = x at *
        have HF := Lib.hid (And.intro h1 (And.intro h2 (And.intro h3 (And.intro h4 (And.intro hpos hsl)))))
        have HLW := Lib.hid hlow
        clear hlen hlen0 hnx hsum hsn hdl hpos hA hsl hcs hgn hp h1 h2 h3 h4 hlow
        go_wp2_with (go_at_call 20; refine (Hid.out (p := _) ?_))
        refine Lib.hid ?_
        refine (HLW.out _).mono ?_
        rintro e w3 ⟨rfl, hb3⟩
        have hry := rowAt_bytes w3 y
        have hbw := below_bytesWorld w3 5 y
        have hW3 : RowAt w1.heap.size (lowAtI pre post l q) (Lib.bytesWorld w3 5 y) ∧ OwnS WB.heap.size (.slice (some ⟨gn, 0, none⟩) l.length c) l (Lib.bytesWorld w3 5 y) ∧ Below w.heap.size w (Lib.bytesWorld w3 5 y) ∧ w1.heap.size < w3.heap.size := by
          obtain ⟨a1, a2, a3⟩ := HW.out
          have hb : Below wr.heap.size wr (Lib.bytesWorld w3 5 y) := hb3.trans (hbw.mono hb3.size)
          refine ⟨⟨Nat.lt_of_lt_of_le a1.1 hb.size, fun z hz => ?_⟩, OwnS.below a2 hb, a3.trans (hb.mono a3.size), Nat.lt_of_lt_of_le a1.1 hb3.size⟩
          rw [hb.cell (p := ⟨w1.heap.size, z, none⟩) a1.1, hb.frozen (p := ⟨w1.heap.size, z, none⟩) a1.1]
          exact a1.2 z hz
        have HY := Lib.hid hry; have HW3 := Lib.hid hW3
        clear hry hbw hW3 hb3 hc HLW HW
        simp only []
        go_wp2_with (go_at_call 84; refine (Hid.out (p := _) ?_))
        refine Lib.hid ?_
        generalize Lib.bytesWorld w3 5 y = W3 at *
        refine (replace_any w1.heap.size w3.heap.size cap _ p d.size y.size _ (lowAtI pre post l q) y.data.toList W3 HW3.out.1 HY.out (by have := HW3.out.2.2.2; omega) HF.out.2.1 (by simp) (by rw [HF.out.2.2.2.2.2]) (by have := HF.out.1; have := HF.out.2.2.2.2.2; omega) (by have := HF.out.2.2.2.2.1; have := HF.out.2.2.2.2.2; omega) HZ.out.1 HZ.out.2.1).mono ?_
        rintro e w4 ⟨rfl, hr4, ho4⟩
        rw [← HF.out.2.2.1] at hr4
        have HW4 := Lib.hid (show RowAt w1.heap.size (lowAtI pre post l (q + 1)) w4 ∧ OwnS WB.heap.size (.slice (some ⟨gn, 0, none⟩) l.length c) l w4 ∧ Below w.heap.size w w4 from
          ⟨hr4, OwnS.only HW3.out.2.1 ho4 HZ.out.2.2, HW3.out.2.2.1.trans (ho4.belowOf HB1.out.size HW3.out.2.2.1.size)⟩)
        have HP4 := Lib.hid HF.out.2.2.2.1
        clear hr4 ho4 HW3 HY HF HP
        simp only []
        go_wp2_with fail
        go_roundw
        case rel => exact ⟨q + 1, by omega, by go_num, rfl, ⟨p + x.size, by go_num, HP4⟩, HW4⟩
        case measure => simp [intOf]; omega
      · obtain rfl : q = l.length := by omega
        have hlen : (lowAtI pre post l l.length).length = d.size := by
          have h1 := lowAtI_len pre post l l.length
          have h2 := lowAtI_len pre post l 0
          have h3 : (lowAtI pre post l 0).length = d.size := by rw [← HD.out]; simp
          omega
        have hcs := run_convert_bytes_arg (P := Tryz.prog) wr 69 5 Tryz.underlying69 Tryz.underlying5 w1.heap.size 0 (lowAtI pre post l l.length).length cap ((lowAtI pre post l l.length).map fun b => (b.toNat : Int)) (by simp) (by
          intro i hi
          rw [Nat.zero_add, (HW.out.1.2 i hi).1]
          simp [bv, List.getD, List.getElem?_eq_getElem hi]) 9 Tryz.underlying9
        rw [strOfNums_bytes, hlen] at hcs
        have HB := Lib.hid HW.out.2.2
        clear HW hlen HP
        go_wp2_with fail
        go_ret
        exact ⟨rfl, HB.out⟩
  · have hk3 : (k == 15) = true := by rw [hk2]; rfl
    clear hk2
    go_enter Tryz.func65, Tryz.ntmps65
    go_wp2_with (first | (go_at_call 64; refine (HR.out _).mono ?_; rintro e w1 ⟨rfl, hb1⟩) | (go_at_call 83; refine (Hid.out (p := _) ?_)))
    refine Lib.hid ?_
    have hrow := rowAt_bytes w1 d
    have hsz := Lib.bytesWorld_size w1 5 d
    have hbw := below_bytesWorld w1 5 d
    have hge := grownCap_ge w1 d.size 0 5
    have hle := grownCap_le_maxLen w1 d.size 0 5 (by simp only [maxLen]; omega)
    generalize grownCap w1 d.size 0 5 = cap at *
    generalize Lib.bytesWorld w1 5 d = WB at *
    refine (HN.out _).mono ?_
    rintro e w2 ⟨hb2, v, rfl, hv⟩
    obtain ⟨A, c, rfl⟩ := OwnS.len hv
    have hB2 : Below w.heap.size w w2 := hb1.trans ((hbw.trans (hb2.mono hbw.size)).mono hb1.size)
    rw [HD.out] at hrow
    have hrow2 : RowAt w1.heap.size (lowAtI pre post l 0) w2 := by
      refine ⟨Nat.lt_of_lt_of_le hrow.1 hb2.size, fun q hq => ?_⟩
      rw [hb2.cell (p := ⟨w1.heap.size, q, none⟩) hrow.1, hb2.frozen (p := ⟨w1.heap.size, q, none⟩) hrow.1]
      exact hrow.2 q hq
    have HZ := Lib.hid (And.intro hge (And.intro hle (show w1.heap.size < WB.heap.size by omega)))
    have HS := Lib.hid (show RowAt w1.heap.size (lowAtI pre post l 0) w2 ∧ OwnS WB.heap.size (.slice A l.length c) l w2 ∧ Below w.heap.size w w2 from ⟨hrow2, hv, hB2⟩)
    have HB1 := Lib.hid hb1
    clear hrow hrow2 hsz hbw hge hle hb2 hv hB2 hb1 HN HR
    simp only []
    go_wp2_with fail
    go_loopw [7, 8, 41] (fun b at_ i wr => ∃ q : Nat, q ≤ l.length ∧ i = .int .i64 q ∧ b = .slice (some ⟨w1.heap.size, 0, none⟩) d.size cap ∧ (∃ p : Nat, at_ = .int .i64 (p : Int) ∧ Hid (p = 2 + (flat (l.take q)).length)) ∧ Hid (RowAt w1.heap.size (lowAtI pre post l q) wr ∧ OwnS WB.heap.size (.slice A l.length c) l wr ∧ Below w.heap.size w wr)) (fun _ _ i _ => l.length - (intOf i).toNat)
    case atStart => exact ⟨0, Nat.zero_le _, rfl, rfl, ⟨2, rfl, Lib.hid (by simp [flat])⟩, HS⟩
    case round =>
      obtain ⟨q, hq, rfl, rfl, ⟨p, rfl, HP⟩, HW⟩ := hrel
      by_cases hlt : q < l.length
      · obtain ⟨gn, cn, he, hgn, hgl, hcs⟩ := OwnS.get HW.out.2.1 (by omega)
        obtain ⟨rfl, rfl⟩ : A = some ⟨gn, 0, none⟩ ∧ c = cn := by injection he with h1 _ h2; exact ⟨h1, h2⟩
        have hc : wr.cell? ⟨gn, q, none⟩ = some (.string l[q]) := hcs q hlt
        have hlen := lowAtI_len pre post l q
        have hlen0 := lowAtI_len pre post l 0
        have hnx := lowAtI_next pre post l q hlt
        have hsum : (flat (l.take q)).length + l[q].size ≤ (flat l).length := by
          have e1 : l = l.take q ++ l[q] :: l.drop (q + 1) := by rw [← List.drop_eq_getElem_cons hlt, List.take_append_drop]
          have e2 := congrArg (fun z => (flat z).length) e1
          simp only [flat_append, flat_cons, List.length_append] at e2
          have e3 : l[q].data.toList.length = l[q].size := by simp
          omega
        have hsn : (flat (l.take (q + 1))).length = (flat (l.take q)).length + l[q].size := by
          rw [List.take_succ_eq_append_getElem hlt, flat_append, flat_cons]
          simp [flat]
        have hdl : (lowAtI pre post l 0).length = d.size := by rw [← HD.out]; simp
        have hpos := HNE.out l[q] (List.getElem_mem hlt)
        have hA := HA.out
        have hp := HP.out
        have hsl := size_nameLower l[q]
        have hlow := fun W => name_lower l[q] W
        have hbd : (p : Int) + (l[q].size : Int) ≤ 2000 := by omega
        have h1 : p + l[q].size ≤ d.size := by omega
        have h2 : (lowAtI pre post l q).length = d.size := by omega
        have h3 : lowAtI pre post l (q + 1) = splice (lowAtI pre post l q) p (nameLower l[q]).data.toList := by rw [hnx, show pre.length + (flat (l.take q)).length = p by omega]
        have h4 : p + l[q].size = 2 + (flat (l.take (q + 1))).length := by omega
        generalize nameLower l[q] = y at hlow hsl h3
        generalize l[q] = x at *
        have HF := Lib.hid (And.intro h1 (And.intro h2 (And.intro h3 (And.intro h4 (And.intro hpos hsl)))))
        have HLW := Lib.hid hlow
        clear hlen hlen0 hnx hsum hsn hdl hpos hA hsl hcs hgn hp h1 h2 h3 h4 hlow
        go_wp2_with (go_at_call 20; refine (Hid.out (p := _) ?_))
        refine Lib.hid ?_
        refine (HLW.out _).mono ?_
        rintro e w3 ⟨rfl, hb3⟩
        have hry := rowAt_bytes w3 y
        have hbw := below_bytesWorld w3 5 y
        have hW3 : RowAt w1.heap.size (lowAtI pre post l q) (Lib.bytesWorld w3 5 y) ∧ OwnS WB.heap.size (.slice (some ⟨gn, 0, none⟩) l.length c) l (Lib.bytesWorld w3 5 y) ∧ Below w.heap.size w (Lib.bytesWorld w3 5 y) ∧ w1.heap.size < w3.heap.size := by
          obtain ⟨a1, a2, a3⟩ := HW.out
          have hb : Below wr.heap.size wr (Lib.bytesWorld w3 5 y) := hb3.trans (hbw.mono hb3.size)
          refine ⟨⟨Nat.lt_of_lt_of_le a1.1 hb.size, fun z hz => ?_⟩, OwnS.below a2 hb, a3.trans (hb.mono a3.size), Nat.lt_of_lt_of_le a1.1 hb3.size⟩
          rw [hb.cell (p := ⟨w1.heap.size, z, none⟩) a1.1, hb.frozen (p := ⟨w1.heap.size, z, none⟩) a1.1]
          exact a1.2 z hz
        have HY := Lib.hid hry; have HW3 := Lib.hid hW3
        clear hry hbw hW3 hb3 hc HLW HW
        simp only []
        go_wp2_with (go_at_call 84; refine (Hid.out (p := _) ?_))
        refine Lib.hid ?_
        generalize Lib.bytesWorld w3 5 y = W3 at *
        refine (replace_any w1.heap.size w3.heap.size cap _ p d.size y.size _ (lowAtI pre post l q) y.data.toList W3 HW3.out.1 HY.out (by have := HW3.out.2.2.2; omega) HF.out.2.1 (by simp) (by rw [HF.out.2.2.2.2.2]) (by have := HF.out.1; have := HF.out.2.2.2.2.2; omega) (by have := HF.out.2.2.2.2.1; have := HF.out.2.2.2.2.2; omega) HZ.out.1 HZ.out.2.1).mono ?_
        rintro e w4 ⟨rfl, hr4, ho4⟩
        rw [← HF.out.2.2.1] at hr4
        have HW4 := Lib.hid (show RowAt w1.heap.size (lowAtI pre post l (q + 1)) w4 ∧ OwnS WB.heap.size (.slice (some ⟨gn, 0, none⟩) l.length c) l w4 ∧ Below w.heap.size w w4 from
          ⟨hr4, OwnS.only HW3.out.2.1 ho4 HZ.out.2.2, HW3.out.2.2.1.trans (ho4.belowOf HB1.out.size HW3.out.2.2.1.size)⟩)
        have HP4 := Lib.hid HF.out.2.2.2.1
        clear hr4 ho4 HW3 HY HF HP
        simp only []
        go_wp2_with fail
        go_roundw
        case rel => exact ⟨q + 1, by omega, by go_num, rfl, ⟨p + x.size, by go_num, HP4⟩, HW4⟩
        case measure => simp [intOf]; omega
      · obtain rfl : q = l.length := by omega
        have hlen : (lowAtI pre post l l.length).length = d.size := by
          have h1 := lowAtI_len pre post l l.length
          have h2 := lowAtI_len pre post l 0
          have h3 : (lowAtI pre post l 0).length = d.size := by rw [← HD.out]; simp
          omega
        have hcs := run_convert_bytes_arg (P := Tryz.prog) wr 69 5 Tryz.underlying69 Tryz.underlying5 w1.heap.size 0 (lowAtI pre post l l.length).length cap ((lowAtI pre post l l.length).map fun b => (b.toNat : Int)) (by simp) (by
          intro i hi
          rw [Nat.zero_add, (HW.out.1.2 i hi).1]
          simp [bv, List.getD, List.getElem?_eq_getElem hi]) 9 Tryz.underlying9
        rw [strOfNums_bytes, hlen] at hcs
        have HB := Lib.hid HW.out.2.2
        clear HW hlen HP
        go_wp2_with fail
        go_ret
        exact ⟨rfl, HB.out⟩
end Go.Proofs.YtdflhnbpcnmpfaaGreatDoor

/- data.Names, at every kind of data that are right. Lines printed by wip/tools/names.py. -/
namespace Go.Proofs.YtdflhnbpcnmpfaaGreatDoor
open Go.RowKit

theorem neq_nil (w : World) : (binOp .neq 71 .nilFunc .nilFunc).run Tryz.prog w = .ok (.bool false) w := by kernel_rfl
theorem neq_fn3 (w : World) : (binOp .neq 71 (.func (.func 103) #[] #[]) .nilFunc).run Tryz.prog w = .ok (.bool true) w := by kernel_rfl
theorem neq_fn6 (w : World) : (binOp .neq 71 (.func (.func 114) #[] #[]) .nilFunc).run Tryz.prog w = .ok (.bool true) w := by kernel_rfl
theorem neq_fn8 (w : World) : (binOp .neq 71 (.func (.func 120) #[] #[]) .nilFunc).run Tryz.prog w = .ok (.bool true) w := by kernel_rfl
theorem OwnS.one (W : World) (x : ByteArray) : OwnS W.heap.size (.slice (some ⟨W.heap.size, 0, none⟩) 1 1) [x] (W.alloc (.cells #[.string x] 9)) :=
  ⟨by simp, .inr ⟨W.heap.size, 1, #[.string x], rfl, Nat.le_refl _, Blk.new W _ _, by simp, by simp [maxLen], by simp, by simp⟩⟩
theorem OwnS.two (W : World) (x y : ByteArray) : OwnS W.heap.size (.slice (some ⟨W.heap.size, 0, none⟩) 2 2) [x, y] (W.alloc (.cells #[.string x, .string y] 9)) :=
  ⟨by simp, .inr ⟨W.heap.size, 2, #[.string x, .string y], rfl, Nat.le_refl _, Blk.new W _ _, by simp, by simp [maxLen], by simp, by simp⟩⟩
theorem fn_names1 (d : ByteArray) (w : World) : Calls Tryz.prog 103 #[.string d] w (NamesP [d] w) := by
  go_enter Tryz.func103, Tryz.ntmps103
  go_wp2
  go_ret
  exact ⟨(Below.refl _ w).alloc (Nat.le_refl _) _, _, rfl, OwnS.one w d⟩
theorem fn_names8 (d : ByteArray) (w : World) (h : 2 ≤ d.size) : Calls Tryz.prog 120 #[.string d] w (NamesP [d.extract 2 d.size] w) := by
  have q1 : (2 : Int) ≤ (d.size : Int) := by omega
  go_enter Tryz.func120, Tryz.ntmps120
  go_wp2
  go_ret
  exact ⟨(Below.refl _ w).alloc (Nat.le_refl _) _, _, rfl, OwnS.one w _⟩
set_option maxRecDepth 100000 in
theorem fn_names6 (d : ByteArray) (x : SoaR) (w : World) (h : takeR soaT d = some x) : Calls Tryz.prog 114 #[.string d] w (NamesP [x.primary, x.mail] w) := by
  have HD := Lib.hid h
  clear h
  go_enter Tryz.func114, Tryz.ntmps114
  go_wp2_with fail
  refine (data_soa d _).mono ?_
  rintro e w1 ⟨hb, h⟩
  rw [HD.out] at h
  obtain ⟨v, hv, rfl⟩ := h
  obtain rfl : v = x.v := hv
  simp only [SoaR.v]
  have HB := Lib.hid hb
  clear hb
  go_wp2
  go_ret
  have h2 := OwnS.two (w1.alloc (.cells #[.string x.primary, .string x.mail, .int .i64 x.serial, .int .i64 x.refresh, .int .i64 x.retry, .int .i64 x.expire, .int .i64 x.minimum] 158)) x.primary x.mail
  have e1 : (w1.alloc (.cells #[.string x.primary, .string x.mail, .int .i64 x.serial, .int .i64 x.refresh, .int .i64 x.retry, .int .i64 x.expire, .int .i64 x.minimum] 158)).heap.size = w1.heap.size + 1 := by simp
  rw [e1] at h2
  exact ⟨(HB.out.alloc HB.out.size _).alloc (by simp; have := HB.out.size; omega) _, _, rfl, OwnS.lift h2 (by have := HB.out.size; omega)⟩

set_option maxRecDepth 100000 in
theorem names_four (d : ByteArray) (w : World) : Calls Tryz.prog 83 #[.int .i64 1, .string d] w (NamesP [] w) := by
  have hneq := neq_nil
  go_enter Tryz.func83, Tryz.ntmps83
  go_wp2_with (go_at_call 81; refine (form_four _).mono ?_; rintro e w1 ⟨rfl, hb⟩)
  go_ret
  exact ⟨hb.alloc hb.size _, _, rfl, OwnS.nil _ _⟩

set_option maxRecDepth 100000 in
theorem names_sixteen (d : ByteArray) (w : World) : Calls Tryz.prog 83 #[.int .i64 28, .string d] w (NamesP [] w) := by
  have hneq := neq_nil
  go_enter Tryz.func83, Tryz.ntmps83
  go_wp2_with (go_at_call 81; refine (form_sixteen _).mono ?_; rintro e w1 ⟨rfl, hb⟩)
  go_ret
  exact ⟨hb.alloc hb.size _, _, rfl, OwnS.nil _ _⟩

set_option maxRecDepth 100000 in
theorem names_texts (d : ByteArray) (w : World) : Calls Tryz.prog 83 #[.int .i64 16, .string d] w (NamesP [] w) := by
  have hneq := neq_nil
  go_enter Tryz.func83, Tryz.ntmps83
  go_wp2_with (go_at_call 81; refine (form_texts _).mono ?_; rintro e w1 ⟨c, rfl, _, hb⟩)
  go_ret
  exact ⟨hb.alloc hb.size _, _, rfl, OwnS.nil _ _⟩

set_option maxRecDepth 100000 in
theorem names_ds (d : ByteArray) (w : World) : Calls Tryz.prog 83 #[.int .i64 43, .string d] w (NamesP [] w) := by
  have hneq := neq_nil
  go_enter Tryz.func83, Tryz.ntmps83
  go_wp2_with (go_at_call 81; refine (form_ds _).mono ?_; rintro e w1 ⟨c, rfl, _, hb⟩)
  go_ret
  exact ⟨hb.alloc hb.size _, _, rfl, OwnS.nil _ _⟩

set_option maxRecDepth 100000 in
theorem names_sig (d : ByteArray) (w : World) : Calls Tryz.prog 83 #[.int .i64 46, .string d] w (NamesP [] w) := by
  have hneq := neq_nil
  go_enter Tryz.func83, Tryz.ntmps83
  go_wp2_with (go_at_call 81; refine (form_sig _).mono ?_; rintro e w1 ⟨c, rfl, _, hb⟩)
  go_ret
  exact ⟨hb.alloc hb.size _, _, rfl, OwnS.nil _ _⟩

set_option maxRecDepth 100000 in
theorem names_nsec (d : ByteArray) (w : World) : Calls Tryz.prog 83 #[.int .i64 47, .string d] w (NamesP [] w) := by
  have hneq := neq_nil
  go_enter Tryz.func83, Tryz.ntmps83
  go_wp2_with (go_at_call 81; refine (form_nsec _).mono ?_; rintro e w1 ⟨c, rfl, _, hb⟩)
  go_ret
  exact ⟨hb.alloc hb.size _, _, rfl, OwnS.nil _ _⟩

set_option maxRecDepth 100000 in
theorem names_key (d : ByteArray) (w : World) : Calls Tryz.prog 83 #[.int .i64 48, .string d] w (NamesP [] w) := by
  have hneq := neq_nil
  go_enter Tryz.func83, Tryz.ntmps83
  go_wp2_with (go_at_call 81; refine (form_key _).mono ?_; rintro e w1 ⟨c, rfl, _, hb⟩)
  go_ret
  exact ⟨hb.alloc hb.size _, _, rfl, OwnS.nil _ _⟩

set_option maxRecDepth 100000 in
theorem names_nsec3 (d : ByteArray) (w : World) : Calls Tryz.prog 83 #[.int .i64 50, .string d] w (NamesP [] w) := by
  have hneq := neq_nil
  go_enter Tryz.func83, Tryz.ntmps83
  go_wp2_with (go_at_call 81; refine (form_nsec3 _).mono ?_; rintro e w1 ⟨c, rfl, _, hb⟩)
  go_ret
  exact ⟨hb.alloc hb.size _, _, rfl, OwnS.nil _ _⟩

set_option maxRecDepth 100000 in
theorem names_other (k : Int) (d : ByteArray) (w : World) (hk : otherKind k) : Calls Tryz.prog 83 #[.int .i64 k, .string d] w (NamesP [] w) := by
  have HK := Lib.hid hk; clear hk
  have hneq := neq_nil
  go_enter Tryz.func83, Tryz.ntmps83
  go_wp2_with (go_at_call 81; refine (form_other _ _ HK.out).mono ?_; rintro e w1 ⟨rfl, hb⟩)
  go_ret
  exact ⟨hb.alloc hb.size _, _, rfl, OwnS.nil _ _⟩

set_option maxRecDepth 100000 in
theorem names_ns (d : ByteArray) (w : World) (hr : dataRight 2 d = true) : Calls Tryz.prog 83 #[.int .i64 2, .string d] w (NamesP [d] w) := by
  have hrc := fun w => right_any 2 d w
  rw [hr] at hrc
  have HR := Lib.hid hrc
  clear hrc hr
  have hneq := neq_fn3
  go_enter Tryz.func83, Tryz.ntmps83
  go_wp2_with (first | (go_at_call 81; refine (form_ns _).mono ?_; rintro e w1 ⟨rfl, hb⟩) | (go_at_call 64; refine (HR.out _).mono ?_; rintro e w2 ⟨rfl, hb2⟩; have hk := (Blk.new w1 #[.func (.func 19) #[] #[], .func (.func 98) #[] #[], .func (.func 100) #[] #[], .func (.func 103) #[] #[]] 127).below hb2 (by simp); have cc := hk.cell 3; have HK := Lib.hid hk; clear hk) | (go_at_call 103; refine (fn_names1 _ _).mono ?_; rintro e w3 ⟨hb3, v, rfl, hv⟩; obtain ⟨A, c3, rfl⟩ := OwnS.len hv))
  go_ret
  have b1 := hb.alloc hb.size (.cells #[.func (.func 19) #[] #[], .func (.func 98) #[] #[], .func (.func 100) #[] #[], .func (.func 103) #[] #[]] 127)
  have b2 := b1.trans (hb2.mono b1.size)
  exact ⟨b2.trans (hb3.mono b2.size), _, rfl, OwnS.lift hv b2.size⟩

set_option maxRecDepth 100000 in
theorem names_cname (d : ByteArray) (w : World) (hr : dataRight 5 d = true) : Calls Tryz.prog 83 #[.int .i64 5, .string d] w (NamesP [d] w) := by
  have hrc := fun w => right_any 5 d w
  rw [hr] at hrc
  have HR := Lib.hid hrc
  clear hrc hr
  have hneq := neq_fn3
  go_enter Tryz.func83, Tryz.ntmps83
  go_wp2_with (first | (go_at_call 81; refine (form_cname _).mono ?_; rintro e w1 ⟨rfl, hb⟩) | (go_at_call 64; refine (HR.out _).mono ?_; rintro e w2 ⟨rfl, hb2⟩; have hk := (Blk.new w1 #[.func (.func 19) #[] #[], .func (.func 98) #[] #[], .func (.func 100) #[] #[], .func (.func 103) #[] #[]] 127).below hb2 (by simp); have cc := hk.cell 3; have HK := Lib.hid hk; clear hk) | (go_at_call 103; refine (fn_names1 _ _).mono ?_; rintro e w3 ⟨hb3, v, rfl, hv⟩; obtain ⟨A, c3, rfl⟩ := OwnS.len hv))
  go_ret
  have b1 := hb.alloc hb.size (.cells #[.func (.func 19) #[] #[], .func (.func 98) #[] #[], .func (.func 100) #[] #[], .func (.func 103) #[] #[]] 127)
  have b2 := b1.trans (hb2.mono b1.size)
  exact ⟨b2.trans (hb3.mono b2.size), _, rfl, OwnS.lift hv b2.size⟩

set_option maxRecDepth 100000 in
theorem names_dname (d : ByteArray) (w : World) (hr : dataRight 39 d = true) : Calls Tryz.prog 83 #[.int .i64 39, .string d] w (NamesP [d] w) := by
  have hrc := fun w => right_any 39 d w
  rw [hr] at hrc
  have HR := Lib.hid hrc
  clear hrc hr
  have hneq := neq_fn3
  go_enter Tryz.func83, Tryz.ntmps83
  go_wp2_with (first | (go_at_call 81; refine (form_dname _).mono ?_; rintro e w1 ⟨rfl, hb⟩) | (go_at_call 64; refine (HR.out _).mono ?_; rintro e w2 ⟨rfl, hb2⟩; have hk := (Blk.new w1 #[.func (.func 19) #[] #[], .func (.func 98) #[] #[], .func (.func 100) #[] #[], .func (.func 103) #[] #[]] 127).below hb2 (by simp); have cc := hk.cell 3; have HK := Lib.hid hk; clear hk) | (go_at_call 103; refine (fn_names1 _ _).mono ?_; rintro e w3 ⟨hb3, v, rfl, hv⟩; obtain ⟨A, c3, rfl⟩ := OwnS.len hv))
  go_ret
  have b1 := hb.alloc hb.size (.cells #[.func (.func 19) #[] #[], .func (.func 98) #[] #[], .func (.func 100) #[] #[], .func (.func 103) #[] #[]] 127)
  have b2 := b1.trans (hb2.mono b1.size)
  exact ⟨b2.trans (hb3.mono b2.size), _, rfl, OwnS.lift hv b2.size⟩

set_option maxRecDepth 100000 in
theorem names_soa (d : ByteArray) (w : World) (x : SoaR) (hr : dataRight 6 d = true) (ht : takeR soaT d = some x) : Calls Tryz.prog 83 #[.int .i64 6, .string d] w (NamesP [x.primary, x.mail] w) := by
  have hrc := fun w => right_any 6 d w
  rw [hr] at hrc
  have HR := Lib.hid hrc
  clear hrc hr
  have HT := Lib.hid ht; clear ht
  have hneq := neq_fn6
  go_enter Tryz.func83, Tryz.ntmps83
  go_wp2_with (first | (go_at_call 81; refine (form_soa _).mono ?_; rintro e w1 ⟨c, rfl, _, hb⟩) | (go_at_call 64; refine (HR.out _).mono ?_; rintro e w2 ⟨rfl, hb2⟩; have hk := (Blk.new w1 #[.func (.func 165) #[] #[.pointer (some ⟨c, 0, none⟩)], .func (.func 112) #[] #[], .func (.func 113) #[] #[], .func (.func 114) #[] #[]] 127).below hb2 (by simp); have cc := hk.cell 3; have HK := Lib.hid hk; clear hk) | (go_at_call 114; refine (fn_names6 _ _ _ HT.out).mono ?_; rintro e w3 ⟨hb3, v, rfl, hv⟩; obtain ⟨A, c3, rfl⟩ := OwnS.len hv))
  go_ret
  have b1 := hb.alloc hb.size (.cells #[.func (.func 165) #[] #[.pointer (some ⟨c, 0, none⟩)], .func (.func 112) #[] #[], .func (.func 113) #[] #[], .func (.func 114) #[] #[]] 127)
  have b2 := b1.trans (hb2.mono b1.size)
  exact ⟨b2.trans (hb3.mono b2.size), _, rfl, OwnS.lift hv b2.size⟩

set_option maxRecDepth 100000 in
theorem names_mail (d : ByteArray) (w : World) (hr : dataRight 15 d = true) (ht : 2 ≤ d.size) : Calls Tryz.prog 83 #[.int .i64 15, .string d] w (NamesP [d.extract 2 d.size] w) := by
  have hrc := fun w => right_any 15 d w
  rw [hr] at hrc
  have HR := Lib.hid hrc
  clear hrc hr
  have HT := Lib.hid ht; clear ht
  have hneq := neq_fn8
  go_enter Tryz.func83, Tryz.ntmps83
  go_wp2_with (first | (go_at_call 81; refine (form_mail _).mono ?_; rintro e w1 ⟨c, rfl, _, hb⟩) | (go_at_call 64; refine (HR.out _).mono ?_; rintro e w2 ⟨rfl, hb2⟩; have hk := (Blk.new w1 #[.func (.func 170) #[] #[.pointer (some ⟨c, 0, none⟩)], .func (.func 117) #[] #[], .func (.func 119) #[] #[], .func (.func 120) #[] #[]] 127).below hb2 (by simp); have cc := hk.cell 3; have HK := Lib.hid hk; clear hk) | (go_at_call 120; refine (fn_names8 _ _ HT.out).mono ?_; rintro e w3 ⟨hb3, v, rfl, hv⟩; obtain ⟨A, c3, rfl⟩ := OwnS.len hv))
  go_ret
  have b1 := hb.alloc hb.size (.cells #[.func (.func 170) #[] #[.pointer (some ⟨c, 0, none⟩)], .func (.func 117) #[] #[], .func (.func 119) #[] #[], .func (.func 120) #[] #[]] 127)
  have b2 := b1.trans (hb2.mono b1.size)
  exact ⟨b2.trans (hb3.mono b2.size), _, rfl, OwnS.lift hv b2.size⟩

end Go.Proofs.YtdflhnbpcnmpfaaGreatDoor

/- The order of names, as a plain law: texts in the order of their bytes; lists of texts, the first ones first. -/
namespace Go.Proofs.YtdflhnbpcnmpfaaGreatDoor
open Go

theorem cmpB_self : ∀ a : List UInt8, Lib.compareBytes a a = 0
  | [] => rfl
  | x :: a => by simp [Lib.compareBytes, cmpB_self a]
theorem cmpB_range : ∀ a b : List UInt8, Lib.compareBytes a b = -1 ∨ Lib.compareBytes a b = 0 ∨ Lib.compareBytes a b = 1
  | [], [] => by simp [Lib.compareBytes]
  | [], _ :: _ => by simp [Lib.compareBytes]
  | _ :: _, [] => by simp [Lib.compareBytes]
  | x :: a, y :: b => by
    have := cmpB_range a b
    simp only [Lib.compareBytes]
    split
    · simp
    · split
      · simp
      · exact this
theorem cmpB_eq : ∀ a b : List UInt8, Lib.compareBytes a b = 0 → a = b
  | [], [], _ => rfl
  | [], _ :: _, h => by simp [Lib.compareBytes] at h
  | _ :: _, [], h => by simp [Lib.compareBytes] at h
  | x :: a, y :: b, h => by
    simp only [Lib.compareBytes] at h
    split at h
    · simp at h
    · split at h
      · simp at h
      · rename_i h1 h2
        have : x = y := UInt8.toNat_inj.1 (by rw [UInt8.lt_iff_toNat_lt] at h1 h2; omega)
        rw [this, cmpB_eq a b h]
theorem cmpB_anti : ∀ a b : List UInt8, Lib.compareBytes b a = - Lib.compareBytes a b
  | [], [] => rfl
  | [], _ :: _ => rfl
  | _ :: _, [] => rfl
  | x :: a, y :: b => by
    have := cmpB_anti a b
    simp only [Lib.compareBytes, UInt8.lt_iff_toNat_lt]
    by_cases h1 : y.toNat < x.toNat
    · rw [if_pos h1, if_neg (by omega), if_pos h1]
    · rw [if_neg h1]
      by_cases h2 : x.toNat < y.toNat
      · rw [if_pos h2, if_pos h2]; rfl
      · rw [if_neg h2, if_neg h2, if_neg h1]; exact this
theorem cmpB_trans : ∀ a b c : List UInt8, Lib.compareBytes a b < 0 → Lib.compareBytes b c < 0 → Lib.compareBytes a c < 0
  | [], [], _, h, _ => by simp [Lib.compareBytes] at h
  | [], _ :: _, [], _, h => by simp [Lib.compareBytes] at h
  | [], _ :: _, _ :: _, _, _ => by simp [Lib.compareBytes]
  | _ :: _, [], _, h, _ => by simp [Lib.compareBytes] at h
  | _ :: _, _ :: _, [], _, h => by simp [Lib.compareBytes] at h
  | x :: a, y :: b, z :: c, h1, h2 => by
    have ih := cmpB_trans a b c
    simp only [Lib.compareBytes, UInt8.lt_iff_toNat_lt] at h1 h2 ⊢
    split at h1
    · split at h2
      · rw [if_pos (by omega)]; omega
      · split at h2
        · omega
        · rw [if_pos (by omega)]; omega
    · split at h1
      · omega
      · split at h2
        · rw [if_pos (by omega)]; omega
        · split at h2
          · omega
          · rw [if_neg (by omega), if_neg (by omega)]
            exact ih h1 h2

/-- Lists of texts, the first ones first; of two of which one is the other's beginning the shorter one. -/
def cmpL : List ByteArray → List ByteArray → Int
  | [], [] => 0
  | [], _ :: _ => -1
  | _ :: _, [] => 1
  | x :: a, y :: b => if Lib.compareBytes x.data.toList y.data.toList ≠ 0 then Lib.compareBytes x.data.toList y.data.toList else cmpL a b
theorem bytes_toList_ext {a b : ByteArray} (h : a.data.toList = b.data.toList) : a = b := by
  cases a; cases b
  simp only at h
  rw [Array.toList_inj.1 h]
theorem cmpL_self : ∀ a : List ByteArray, cmpL a a = 0
  | [] => rfl
  | x :: a => by rw [cmpL, cmpB_self, if_neg (by simp)]; exact cmpL_self a
theorem cmpL_range : ∀ a b : List ByteArray, cmpL a b = -1 ∨ cmpL a b = 0 ∨ cmpL a b = 1
  | [], [] => by simp [cmpL]
  | [], _ :: _ => by simp [cmpL]
  | _ :: _, [] => by simp [cmpL]
  | x :: a, y :: b => by
    rw [cmpL]
    split
    · exact cmpB_range _ _
    · exact cmpL_range a b
theorem cmpL_eq : ∀ a b : List ByteArray, cmpL a b = 0 → a = b
  | [], [], _ => rfl
  | [], _ :: _, h => by simp [cmpL] at h
  | _ :: _, [], h => by simp [cmpL] at h
  | x :: a, y :: b, h => by
    rw [cmpL] at h
    split at h
    · rename_i h1; exact absurd h h1
    · rename_i h1
      rw [bytes_toList_ext (cmpB_eq _ _ (Decidable.not_not.1 h1)), cmpL_eq a b h]
theorem cmpL_anti : ∀ a b : List ByteArray, cmpL b a = - cmpL a b
  | [], [] => rfl
  | [], _ :: _ => rfl
  | _ :: _, [] => rfl
  | x :: a, y :: b => by
    rw [cmpL, cmpL, cmpB_anti x.data.toList]
    by_cases h : Lib.compareBytes x.data.toList y.data.toList = 0
    · rw [if_neg (by omega), if_neg (by omega)]; exact cmpL_anti a b
    · rw [if_pos (by omega), if_pos (by omega)]
theorem cmpL_trans : ∀ a b c : List ByteArray, cmpL a b < 0 → cmpL b c < 0 → cmpL a c < 0
  | [], [], _, h, _ => by simp [cmpL] at h
  | [], _ :: _, [], _, h => by simp [cmpL] at h
  | [], _ :: _, _ :: _, _, _ => by simp [cmpL]
  | _ :: _, [], _, h, _ => by simp [cmpL] at h
  | _ :: _, _ :: _, [], _, h => by simp [cmpL] at h
  | x :: a, y :: b, z :: c, h1, h2 => by
    rw [cmpL] at h1 h2 ⊢
    split at h1
    · rename_i n1
      split at h2
      · have := cmpB_trans _ _ _ h1 h2
        rw [if_pos (by omega)]; exact this
      · rename_i n2
        have e := bytes_toList_ext (cmpB_eq _ _ (Decidable.not_not.1 n2))
        subst e
        rw [if_pos n1]; exact h1
    · rename_i n1
      have e := bytes_toList_ext (cmpB_eq _ _ (Decidable.not_not.1 n1))
      subst e
      split at h2
      · rename_i n2
        rw [if_pos n2]; exact h2
      · rename_i n2
        rw [if_neg n2]; exact cmpL_trans a b c h1 h2
end Go.Proofs.YtdflhnbpcnmpfaaGreatDoor

