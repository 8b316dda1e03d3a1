import Derived.Test.YtkhpcagoggglcaaGreatDoorVe1
import Derived.Deep.AppendLies
import Derived.Maps.AppendAt
import Derived.OwnWalk
import Derived.Laws.Tables
import Derived.Deep.WholeRow
import Derived.Recover
import Derived.Defers
/- Rows of bytes that a call appends to; digest.tell, digest.keys. -/
namespace Go.Proofs.YtkhpcagoggglcaaGreatDoor
open Go.RowKit

section
variable {P : Program} {ops : Array Oper} {rest : List Oper} {o : Oper} {a : Act} {Q : Exit → Act → World → Prop}
theorem ownBase {w : World} {base size n : Nat} {e : TypeId} {v : Value} {xs : List Value} (h : w.ownsRow base e size v n xs) : ∀ k, v.ownBlock = some k → base ≤ k := by
  intro k hk
  rcases h.2 with ⟨rfl, _⟩ | ⟨g, cap, cur, rfl, hb, _⟩
  · cases hk
  · obtain rfl : g = k := by simpa [Value.ownBlock] using hk
    exact hb

/-- 'append(v, a, b ..)', the new ones in a block of their own. -/
theorem own_append {w0 W : World} (base : Nat) (cs : Array Value) (hgd : o.guard = none) (s x : Operand) (t e : TypeId) (z : Value) (bytes : Nat)
    (ho : o.op = .call { callee := .builtin .append, args := #[s, x], argTypes := #[t, t] })
    (ht : P.underlying t = some (.slice e)) (hinfo : (P.info? e).map (fun i => (i.zero, i.size, i.bytes)) = some (some z, 1, bytes)) (hz : z.cells.size = 1)
    (v : Value) (xs : List Value) (m c : Nat) (hs : a.eval s = v) (hx : a.eval x = .slice (some ⟨W.heap.size, 0, none⟩) m c) (hm : m = cs.size) (h1 : ∀ u ∈ cs.toList, u.oneCell' = true)
    (HO : W.ownsRow base e 1 v xs.length xs) (HB : Below base w0 W) (hbase : base ≤ W.heap.size) (hb0 : 0 < bytes) (hl : (xs.length + m) * bytes ≤ 140737488355328)
    (h : ∀ v1 w1, w1.ownsRow base e 1 v1 (xs ++ cs.toList).length (xs ++ cs.toList) → Below base w0 w1 → base ≤ w1.heap.size → wpList P ops Q rest (a.put o.dst v1) w1) :
    wpList P ops Q (o :: rest) a (W.alloc (.cells cs e)) := by
  obtain ⟨i0, hi, hzz⟩ := Option.map_eq_some_iff.1 hinfo
  simp only [Prod.mk.injEq] at hzz
  obtain ⟨hz0, hz1, hz2⟩ := hzz
  have hlen : xs.length + m ≤ 140737488355328 := Nat.le_trans (Nat.le_mul_of_pos_right _ hb0) hl
  refine wpList_append_own_at (W.alloc (.cells cs e)) hgd s x t ho base e i0 z 1 bytes ht hi hz0 hz1 hz2 hz (by omega) v xs.length xs hs (HO.alloc _) ⟨W.heap.size, 0, none⟩ m c cs.toList hx (by simp [hm])
    (World.news_of_block (cs := cs) (t := e) (fr := (0, 0)) (heap_alloc_new W _)) h1 (by simp only [maxLen]; omega) hl (by simp; omega) ?_
  intro v1 w1 hown hg _ hat
  have hB := (HB.alloc hbase (.cells cs e)).grown hg (by simp; omega) (ownBase HO)
  refine h v1 w1 (by simpa [hm] using hown) hB (Nat.le_trans (by simp; omega) hg.size)
end

def bv (b : UInt8) : Value := .int .u8 (b.toNat : Int)
/-- v holds these bytes, in a row of the call's own. -/
def OwnB (base : Nat) (v : Value) (l : List UInt8) (w : World) : Prop := w.ownsRow base 5 1 v l.length (l.map bv)
theorem OwnB.nil (base : Nat) (w : World) : OwnB base (.slice none 0 0) [] w := ⟨rfl, .inl ⟨rfl, rfl⟩⟩

theorem OwnB.string {base : Nat} {v : Value} {l : List UInt8} {w : World} (h : OwnB base v l w) : (convert 82 9 v).run Tryz.prog w = .ok (.string ⟨l.toArray⟩) w := by
  rcases h.2 with ⟨rfl, h0⟩ | ⟨g, cap, cur, rfl, _, hg, hn, _, hsz, htk⟩
  · obtain rfl : l = [] := List.eq_nil_of_length_eq_zero (by simpa using h0)
    exact run_convert_bytes_nil (P := Tryz.prog) w 82 5 Tryz.underlying82 Tryz.underlying5 0 0 9 Tryz.underlying9
  · have := run_convert_bytes_arg (P := Tryz.prog) w 82 5 Tryz.underlying82 Tryz.underlying5 g 0 l.length cap (l.map fun b => (b.toNat : Int)) (by simp) (by
      intro i hi
      rw [Nat.zero_add, cell_of_row w g i cur 5 (0, 0) hg]
      have e : cur.toList[i]? = (l.map bv)[i]? := by
        rw [← htk, List.getElem?_take, if_pos (by simpa using hi)]
      rw [← Array.getElem?_toList, e]
      simp [bv, hi]) 9 Tryz.underlying9
    have e : strOfNums (l.map fun b => (b.toNat : Int)) = ⟨l.toArray⟩ := by
      show (⟨((l.map fun b => (b.toNat : Int)).map fun n => UInt8.ofNat n.toNat).toArray⟩ : ByteArray) = ⟨l.toArray⟩
      rw [List.map_map]
      have e : ((fun n : Int => UInt8.ofNat n.toNat) ∘ fun b : UInt8 => (b.toNat : Int)) = id := by
        funext b
        simp
      rw [e, List.map_id]
    rw [this, e]

theorem info_u8b : (Tryz.prog.info? 5).map (fun i => (i.zero, i.size, i.bytes)) = some (some (.int .u8 0), 1, 1) := by kernel_rfl

theorem ownB_append {ops : Array Oper} {rest : List Oper} {o : Oper} {a : Act} {Q : Exit → Act → World → Prop} {base : Nat} {v : Value} {l : List UInt8} {w0 W : World} (HO : OwnB base v l W) (HB : Below base w0 W) (hbase : base ≤ W.heap.size) (bs : List UInt8) (hl : l.length + bs.length ≤ 140737488355328)
    (hgd : o.guard = none) (s x : Operand) (ho : o.op = .call { callee := .builtin .append, args := #[s, x], argTypes := #[82, 82] }) (cs : Array Value) (m c : Nat) (hs : a.eval s = v) (hx : a.eval x = .slice (some ⟨W.heap.size, 0, none⟩) m c) (hcs : cs = (bs.map bv).toArray) (hm : m = bs.length)
    (h : ∀ v1 w1, OwnB base v1 (l ++ bs) w1 → Below base w0 w1 → base ≤ w1.heap.size → wpList Tryz.prog ops Q rest (a.put o.dst v1) w1) : wpList Tryz.prog ops Q (o :: rest) a (W.alloc (.cells cs 5)) := by
  subst hcs hm
  refine own_append base _ hgd s x 82 5 (.int .u8 0) 1 ho Tryz.underlying82 info_u8b rfl v (l.map bv) bs.length c hs hx (by simp) (by intro u hu; simp at hu; obtain ⟨b, _, rfl⟩ := hu; rfl) (by simpa [OwnB] using HO) HB hbase (by omega) (by simpa using hl) ?_
  intro v1 w1 h1 h2 h3
  exact h v1 w1 (by simpa [OwnB] using h1) h2 h3

/-- Words in cells. -/
def encW (l : List W32) : Array Value := (l.map vw).toArray
theorem encW_size (l : List W32) : (encW l).size = l.length := by simp [encW]
theorem encW_get (l : List W32) (i : Nat) (h : i < l.length) : (encW l)[i]? = some (.int .u32 (wd (l.getD i 0))) := by
  simp [encW, vw, List.getD, List.getElem?_eq_getElem h]
theorem encW_set (l : List W32) (i : Nat) (x : W32) : (encW l).setIfInBounds i (.int .u32 (wd x)) = encW (l.set i x) := by
  simp [encW, vw, List.map_set]

def by8 (x : W32) : UInt8 := UInt8.ofNat x.toNat
theorem by8_int (x : W32) : wd x % 256 = ((by8 x).toNat : Int) := by simp [wd, by8]
/-- A word's four bytes. -/
def four (x : W32) : List UInt8 := [by8 (x >>> 24), by8 (x >>> 16), by8 (x >>> 8), by8 x]
def tellW (l : List W32) : List UInt8 := l.flatMap four
theorem tellW_len (l : List W32) : (tellW l).length = 4 * l.length := by
  induction l with
  | nil => rfl
  | cons a l ih => simp only [tellW, List.flatMap_cons, List.length_append, List.length_cons] at *; simp [four, ih]; omega
theorem tellW_take (l : List W32) (i : Nat) (h : i < l.length) : tellW (l.take (i + 1)) = tellW (l.take i) ++ four (l.getD i 0) := by
  rw [List.take_succ_eq_append_getElem h]
  simp only [tellW, List.flatMap_append, List.flatMap_cons, List.flatMap_nil, List.append_nil, List.getD, List.getElem?_eq_getElem h, Option.getD_some]

/-- The words of the rounds of SHA-256. -/
def K256 : List W32 := [0x428a2f98, 0x71374491, 0xb5c0fbcf, 0xe9b5dba5, 0x3956c25b, 0x59f111f1, 0x923f82a4, 0xab1c5ed5, 0xd807aa98, 0x12835b01, 0x243185be, 0x550c7dc3, 0x72be5d74, 0x80deb1fe, 0x9bdc06a7, 0xc19bf174,
  0xe49b69c1, 0xefbe4786, 0x0fc19dc6, 0x240ca1cc, 0x2de92c6f, 0x4a7484aa, 0x5cb0a9dc, 0x76f988da, 0x983e5152, 0xa831c66d, 0xb00327c8, 0xbf597fc7, 0xc6e00bf3, 0xd5a79147, 0x06ca6351, 0x14292967,
  0x27b70a85, 0x2e1b2138, 0x4d2c6dfc, 0x53380d13, 0x650a7354, 0x766a0abb, 0x81c2c92e, 0x92722c85, 0xa2bfe8a1, 0xa81a664b, 0xc24b8b70, 0xc76c51a3, 0xd192e819, 0xd6990624, 0xf40e3585, 0x106aa070,
  0x19a4c116, 0x1e376c08, 0x2748774c, 0x34b0bcb5, 0x391c0cb3, 0x4ed8aa4a, 0x5b9cca4f, 0x682e6ff3, 0x748f82ee, 0x78a5636f, 0x84c87814, 0x8cc70208, 0x90befffa, 0xa4506ceb, 0xbef9a3f7, 0xc67178f2]
theorem K256_enc : encW K256 = #[.int .u32 1116352408, .int .u32 1899447441, .int .u32 3049323471, .int .u32 3921009573, .int .u32 961987163, .int .u32 1508970993, .int .u32 2453635748, .int .u32 2870763221, .int .u32 3624381080, .int .u32 310598401, .int .u32 607225278, .int .u32 1426881987, .int .u32 1925078388, .int .u32 2162078206, .int .u32 2614888103, .int .u32 3248222580,
  .int .u32 3835390401, .int .u32 4022224774, .int .u32 264347078, .int .u32 604807628, .int .u32 770255983, .int .u32 1249150122, .int .u32 1555081692, .int .u32 1996064986, .int .u32 2554220882, .int .u32 2821834349, .int .u32 2952996808, .int .u32 3210313671, .int .u32 3336571891, .int .u32 3584528711, .int .u32 113926993, .int .u32 338241895,
  .int .u32 666307205, .int .u32 773529912, .int .u32 1294757372, .int .u32 1396182291, .int .u32 1695183700, .int .u32 1986661051, .int .u32 2177026350, .int .u32 2456956037, .int .u32 2730485921, .int .u32 2820302411, .int .u32 3259730800, .int .u32 3345764771, .int .u32 3516065817, .int .u32 3600352804, .int .u32 4094571909, .int .u32 275423344,
  .int .u32 430227734, .int .u32 506948616, .int .u32 659060556, .int .u32 883997877, .int .u32 958139571, .int .u32 1322822218, .int .u32 1537002063, .int .u32 1747873779, .int .u32 1955562222, .int .u32 2024104815, .int .u32 2227730452, .int .u32 2361852424, .int .u32 2428436474, .int .u32 2756734187, .int .u32 3204031479, .int .u32 3329325298] := by
  rfl

theorem K256_ones : (encW K256).all (·.oneCell') = true := by kernel_rfl
end Go.Proofs.YtkhpcagoggglcaaGreatDoor

/- A row of bytes, as a walk sees it. -/
namespace Go.Proofs.YtkhpcagoggglcaaGreatDoor
open Go.RowKit

/-- A row that holds these bytes, none of them frozen. -/
def BytesAt (w : World) (b : Nat) (t : ByteArray) : Prop := ∀ j, j < t.size → w.cell? ⟨b, j, none⟩ = some (.int .u8 ((byt t j).toNat : Int)) ∧ w.frozen? ⟨b, j, none⟩ = false
theorem BytesAt.set {w : World} {b : Nat} {t : ByteArray} (h : BytesAt w b t) (k : Nat) (x : UInt8) (hk : k < t.size) : BytesAt (w.setCell ⟨b, k, none⟩ (.int .u8 (x.toNat : Int))) b (bset t k x) := by
  intro j hj
  rw [size_bset] at hj
  rw [byt_bset t k j x hk]
  refine ⟨?_, by rw [World.frozen?_setCell]; exact (h j hj).2⟩
  by_cases e : k = j
  · subst e
    rw [if_pos rfl]
    exact World.cell?_setCell_same _ _ _ (h k hk).1
  · rw [if_neg e, World.cell?_setCell_other _ _ _ _ (by intro h; cases h; exact e rfl)]
    exact (h j hj).1
theorem BytesAt.below {w w' : World} {b : Nat} {t : ByteArray} (h : BytesAt w b t) (hb : Below w.heap.size w w') (hlt : b < w.heap.size) : BytesAt w' b t := fun j hj =>
  ⟨by rw [hb.cell (p := ⟨b, j, none⟩) hlt]; exact (h j hj).1, by rw [hb.frozen (p := ⟨b, j, none⟩) hlt]; exact (h j hj).2⟩
theorem BytesAt.new (w : World) (t : ByteArray) : BytesAt (Lib.bytesWorld w 5 t) w.heap.size t := by
  intro j hj
  refine ⟨Lib.bytesWorld_cell w 5 t j hj, ?_⟩
  have hs : (Lib.bytesCells w 5 t).size = t.size + (grownCap w t.size 0 5 - t.size) := by simp only [Lib.bytesCells, Array.size_append, Array.size_map, Array.size_replicate]; rfl
  simp only [World.frozen?, Lib.bytesWorld_at_new, hs]
  simp; omega
theorem BytesAt.string {w : World} {g : Nat} {t : ByteArray} (h : BytesAt w g t) (n c : Nat) (hn : n = t.size) : (convert 82 9 (.slice (some ⟨g, 0, none⟩) n c)).run Tryz.prog w = .ok (.string t) w := by
  have := run_convert_bytes_arg (P := Tryz.prog) w 82 5 Tryz.underlying82 Tryz.underlying5 g 0 n c (t.data.toList.map fun b => (b.toNat : Int)) (by simp [hn]) (by
    intro i hi
    have hi' : i < t.data.size := by rw [hn] at hi; exact hi
    rw [Nat.zero_add, (h i hi').1]
    simp only [byt, List.getD, List.getElem?_map, Array.getElem?_toList, Array.getElem?_eq_getElem hi', Option.map_some, Option.getD_some]) 9 Tryz.underlying9
  have e : strOfNums (t.data.toList.map fun b => (b.toNat : Int)) = t := by
    cases t with
    | mk d =>
      show (⟨((d.toList.map fun b => (b.toNat : Int)).map fun n => UInt8.ofNat n.toNat).toArray⟩ : ByteArray) = ⟨d⟩
      rw [List.map_map]
      have e : ((fun n : Int => UInt8.ofNat n.toNat) ∘ fun b : UInt8 => (b.toNat : Int)) = id := by
        funext b
        simp
      rw [e, List.map_id]
  rw [this, e]

end Go.Proofs.YtkhpcagoggglcaaGreatDoor

/- data's types: windows of bits. -/
namespace Go.Proofs.YtkhpcagoggglcaaGreatDoor
open Go.RowKit

/-- v holds these numbers, in a row of the call's own. -/
def OwnI (base : Nat) (v : Value) (l : List Int) (w : World) : Prop := w.ownsRow base 3 1 v l.length (l.map (.int .i64))
theorem OwnI.nil (base : Nat) (w : World) : OwnI base (.slice none 0 0) [] w := ⟨rfl, .inl ⟨rfl, rfl⟩⟩
theorem info_i64 : (Tryz.prog.info? 3).map (fun i => (i.zero, i.size, i.bytes)) = some (some (.int .i64 0), 1, 8) := by kernel_rfl
theorem ownI_append {ops : Array Oper} {rest : List Oper} {o : Oper} {a : Act} {Q : Exit → Act → World → Prop} {base : Nat} {v : Value} {l : List Int} {w0 W : World} (HO : OwnI base v l W) (HB : Below base w0 W) (hbase : base ≤ W.heap.size) (x : Int) (hl : l.length + 1 ≤ 1000000)
    (hgd : o.guard = none) (s y : Operand) (ho : o.op = .call { callee := .builtin .append, args := #[s, y], argTypes := #[131, 131] }) (cs : Array Value) (m c : Nat) (hs : a.eval s = v) (hx : a.eval y = .slice (some ⟨W.heap.size, 0, none⟩) m c) (hcs : cs = #[.int .i64 x]) (hm : m = 1)
    (h : ∀ v1 w1, OwnI base v1 (l ++ [x]) w1 → Below base w0 w1 → base ≤ w1.heap.size → wpList Tryz.prog ops Q rest (a.put o.dst v1) w1) : wpList Tryz.prog ops Q (o :: rest) a (W.alloc (.cells cs 3)) := by
  subst hcs hm
  refine own_append base _ hgd s y 131 3 (.int .i64 0) 8 ho Tryz.underlying131 info_i64 rfl v (l.map (.int .i64)) 1 c hs hx (by simp) (by intro u hu; simp at hu; obtain rfl := hu; rfl) (by simpa [OwnI] using HO) HB hbase (by omega) (by simp; omega) ?_
  intro v1 w1 h1 h2 h3
  exact h v1 w1 (by simpa [OwnI] using h1) h2 h3

def bit1 (w i : Nat) (c : UInt8) (k : Nat) : List Int := if c.toNat / 2 ^ (7 - k) % 2 = 1 then [((w * 256 + i * 8 + k : Nat) : Int)] else []
def bits8 (w i : Nat) (c : UInt8) : Nat → List Int
  | 0 => []
  | k + 1 => bits8 w i c k ++ bit1 w i c k
def winL (w : Nat) (b : ByteArray) : Nat → List Int
  | 0 => []
  | i + 1 => winL w b i ++ bits8 w i (byt b i) 8
theorem bits8_len (w i : Nat) (c : UInt8) (k : Nat) : (bits8 w i c k).length ≤ k := by
  induction k with
  | zero => exact Nat.le_refl _
  | succ k ih =>
    rw [bits8, List.length_append]
    have : (bit1 w i c k).length ≤ 1 := by unfold bit1; split <;> simp
    omega
theorem winL_len (w : Nat) (b : ByteArray) (i : Nat) : (winL w b i).length ≤ 8 * i := by
  induction i with
  | zero => exact Nat.le_refl _
  | succ i ih =>
    rw [winL, List.length_append]
    have := bits8_len w i (byt b i) 8
    omega
def winOk (last w : Int) (b : ByteArray) : Prop := last < w ∧ 0 < b.size ∧ b.size ≤ 32 ∧ (byt b (b.size - 1)).toNat ≠ 0
instance (last w : Int) (b : ByteArray) : Decidable (winOk last w b) := by unfold winOk; infer_instance
/-- One window: its number, its bits, what is left. -/
def winT (s : ByteArray) : Option ((Int × ByteArray) × ByteArray) :=
  match numT 1 s with
  | none => none
  | some (w, s1) => match numT 1 s1 with
    | none => none
    | some (m, s2) => match bytesT m.toNat s2 with
      | none => none
      | some (b, s3) => some ((w, b), s3)
def typesG : Nat → Int → List Int → ByteArray → Option (List Int)
  | 0, _, acc, s => if s.size = 0 then some acc else none
  | f + 1, last, acc, s => if s.size = 0 then some acc else
    match winT s with
    | none => none
    | some ((w, b), s3) => if winOk last w b then typesG f w (acc ++ winL w.toNat b b.size) s3 else none
def typesT (s : ByteArray) : Option (List Int × ByteArray) := (typesG s.size (-1) [] s).map fun l => (l, ⟨#[]⟩)
def IntsV (lo : Nat) (l : List Int) (w : World) (v : Value) : Prop := OwnI lo v l w

theorem Only.base {b B : Nat} {w w1 w2 : World} (h : Only b w w1) (hB : w.heap.size ≤ B) (k : Below B w1 w2) : Only b w w2 :=
  ⟨k.os.trans h.os, k.tape.trans h.tape, k.output.trans h.output, Nat.le_trans h.size k.size, fun i hi hb => (k.block i (by omega)).trans (h.block i hi hb)⟩
theorem num1 (s : ByteArray) (x : Int) (r : ByteArray) (h : numT 1 s = some (x, r)) : 0 ≤ x ∧ x < 256 ∧ r.size + 1 = s.size := by
  unfold numT at h
  split at h
  · rename_i h1
    cases h
    have hl : (s.extract 0 1).data.toList.length = 1 := by simp; omega
    have := numFold_bd (s.extract 0 1).data.toList
    rw [hl] at this
    exact ⟨this.1, this.2, by rw [ByteArray.size_extract]; omega⟩
  · cases h

/-- The world inside of a window: what is taken so far, the window's bytes in a row of their own. -/
structure TySt (b : Nat) (w : World) (s3 : ByteArray) (g0 : Nat) (bb : ByteArray) (v : Value) (acc : List Int) (W : World) : Prop where
  own : OwnI w.heap.size v acc W
  src : Src b s3 W
  only : Only b w W
  apart : v.ownBlock ≠ some g0
  row : ∀ j, j < bb.size → W.cell? ⟨g0, j, none⟩ = some (.int .u8 ((byt bb j).toNat : Int))
  lt : g0 < W.heap.size
theorem ty_append {ops : Array Oper} {rest : List Oper} {o : Oper} {a : Act} {Q : Exit → Act → World → Prop} {b : Nat} {w : World} {s3 : ByteArray} {g0 : Nat} {bb : ByteArray} {v : Value} {acc : List Int} {W : World} (hT : TySt b w s3 g0 bb v acc W) (hb : b < w.heap.size) (hg0 : b ≠ g0) (x : Int) (hl : acc.length + 1 ≤ 1000000)
    (hgd : o.guard = none) (s y : Operand) (ho : o.op = .call { callee := .builtin .append, args := #[s, y], argTypes := #[131, 131] }) (cs : Array Value) (m c : Nat) (hs : a.eval s = v) (hx : a.eval y = .slice (some ⟨W.heap.size, 0, none⟩) m c) (hcs : cs = #[.int .i64 x]) (hm : m = 1)
    (h : ∀ v1 w1, TySt b w s3 g0 bb v1 (acc ++ [x]) w1 → wpList Tryz.prog ops Q rest (a.put o.dst v1) w1) : wpList Tryz.prog ops Q (o :: rest) a (W.alloc (.cells cs 3)) := by
  subst hcs hm
  obtain ⟨i0, hi, hzz⟩ := Option.map_eq_some_iff.1 info_i64
  simp only [Prod.mk.injEq] at hzz
  obtain ⟨hz0, hz1, hz2⟩ := hzz
  have hbase : w.heap.size ≤ W.heap.size := hT.only.size
  refine wpList_append_own_at (W.alloc (.cells #[.int .i64 x] 3)) hgd s y 131 ho w.heap.size 3 i0 (.int .i64 0) 1 8 Tryz.underlying131 hi hz0 hz1 hz2 rfl (by omega) v acc.length (acc.map (.int .i64)) hs (World.ownsRow.alloc (by simpa [OwnI] using hT.own) _) ⟨W.heap.size, 0, none⟩ 1 c [.int .i64 x] hx (by simp)
    (World.news_of_block (cs := #[.int .i64 x]) (t := 3) (fr := (0, 0)) (heap_alloc_new W _)) (by intro u hu; simp at hu; subst hu; rfl) (by simp only [maxLen]; omega) (by omega) (by simp; omega) ?_
  intro v1 w1 hown hg _ hat
  have hown0 := ownBase hT.own
  have hal : Below W.heap.size W (W.alloc (.cells #[.int .i64 x] 3)) := (Below.refl _ W).alloc (Nat.le_refl _) _
  have hfree : ∀ k, k < W.heap.size → some k ≠ v.ownBlock → w1.heap[k]? = W.heap[k]? := fun k hk hne => (hg.block k (by simp; omega) hne).trans (hal.block k hk)
  have hbo : some b ≠ v.ownBlock := fun e => by have := hown0 b e.symm; omega
  have hsz : W.heap.size ≤ w1.heap.size := Nat.le_trans (by simp) hg.size
  refine h v1 w1 ⟨by simpa [OwnI] using hown, ?_, ?_, ?_, ?_, Nat.lt_of_lt_of_le hT.lt hsz⟩
  · show w1.heap[b]? = _
    rw [hfree b (by omega) hbo]; exact hT.src
  · refine ⟨hg.os.trans hT.only.os, hg.tape.trans hT.only.tape, hg.output.trans hT.only.output, Nat.le_trans hbase hsz, fun k hk hne => ?_⟩
    rw [hfree k (by omega) (fun e => by have := hown0 k e.symm; omega)]
    exact hT.only.block k hk hne
  · rcases hat with e | e
    · rw [e]; exact hT.apart
    · rw [e]; intro h; cases h; have := hT.lt; simp at this; omega
  · intro j hj
    rw [World.cell?_of_block (w := W) (a := ⟨g0, j, none⟩) (hfree g0 hT.lt (fun e => hT.apart e.symm))]
    exact hT.row j hj

theorem OwnI.block {base : Nat} {v : Value} {l : List Int} {w w' : World} (h : OwnI base v l w) (hb : ∀ k, base ≤ k → k < w.heap.size → w'.heap[k]? = w.heap[k]?) : OwnI base v l w' := by
  refine ⟨h.1, ?_⟩
  rcases h.2 with h1 | ⟨g, cap, cur, h1, h2, h3, h4⟩
  · exact .inl h1
  · exact .inr ⟨g, cap, cur, h1, h2, by rw [hb g h2 (lt_of_block h3)]; exact h3, h4⟩
theorem OwnI.apart {base : Nat} {v : Value} {l : List Int} {w : World} (h : OwnI base v l w) : v.ownBlock ≠ some w.heap.size := by
  intro e
  have := World.ownsRow.lt h _ e
  omega
theorem TySt.start {b : Nat} {w w3 : World} {s3 bb : ByteArray} {v : Value} {acc : List Int} (h : OwnI w.heap.size v acc w3) (hS : Src b s3 w3) (hO : Only b w w3) : TySt b w s3 w3.heap.size bb v acc (Lib.bytesWorld w3 5 bb) := by
  have hb := below_bytesWorld w3 5 bb
  refine ⟨h.block fun k _ hk => hb.block k hk, hS.below hb hS.lt, hO.trans (Only.of_below hb), h.apart, fun j hj => (BytesAt.new w3 bb j hj).1, by rw [Lib.bytesWorld_size]; omega⟩

theorem or_add (n m b : Nat) (hm : m < 2 ^ b) : n * 2 ^ b ||| m = n * 2 ^ b + m := by
  rw [Nat.mul_comm, ← Nat.two_pow_add_eq_or_of_lt hm]
theorem ty_test (c kk : Nat) (hc : c < 256) : bits .and .u8 ((c : Int) / 2 ^ (7 - kk)) 1 = ((c / 2 ^ (7 - kk) % 2 : Nat) : Int) := by
  have e : (c : Int) / 2 ^ (7 - kk) = ((c / 2 ^ (7 - kk) : Nat) : Int) := by rw [Int.natCast_ediv, Int.natCast_pow]; rfl
  have hl : c / 2 ^ (7 - kk) ≤ c := Nat.div_le_self _ _
  rw [e]
  generalize c / 2 ^ (7 - kk) = d at hl
  have h := u8_and_nat d 1 (by omega) (by omega)
  rw [show ((1 : Nat) : Int) = 1 from rfl] at h
  rw [h, Nat.and_one_is_mod]
theorem ty_val (x i k : Nat) (hx : x < 256) (hi : i < 32) (hk : k < 8) : bits .or .i64 (bits .or .i64 ((x : Int) * 256) ((i : Int) * 8)) (k : Int) = ((x * 256 + i * 8 + k : Nat) : Int) := by
  have h1 := i64_or_nat (x * 256) (i * 8) (by omega) (by omega)
  rw [show ((x * 256 : Nat) : Int) = (x : Int) * 256 by omega, show ((i * 8 : Nat) : Int) = (i : Int) * 8 by omega] at h1
  have e1 : x * 256 ||| i * 8 = x * 256 + i * 8 := or_add x (i * 8) 8 (by omega)
  have e2 : (x * 32 + i) * 8 ||| k = (x * 32 + i) * 8 + k := or_add (x * 32 + i) k 3 (by omega)
  have h2 := i64_or_nat ((x * 32 + i) * 8) k (by omega) (by omega)
  rw [h1, e1, show x * 256 + i * 8 = (x * 32 + i) * 8 by omega, h2, e2]
set_option maxRecDepth 100000 in
set_option maxHeartbeats 400000 in
theorem types_t (b : Nat) (s0 : ByteArray) (w : World) (hS : Src b s0 w) (hz : s0.size ≤ 2000) :
    Calls Tryz.prog 158 #[.pointer (some ⟨b, 0, none⟩)] w (Took b w (typesT s0) (IntsV w.heap.size)) := by
  have HS := Lib.hid hS
  clear hS
  go_enter Tryz.func158, Tryz.ntmps158
  go_wp2_with fail
  go_loopw [3, 4] (fun v i wr => ∃ (last : Int) (acc : List Int) (s : ByteArray) (f : Nat), i = .int .i64 last ∧ -1 ≤ last ∧ last ≤ 255 ∧ Hid (s.size ≤ f ∧ acc.length + 8 * s.size ≤ 16000 ∧ typesG f last acc s = typesG s0.size (-1) [] s0) ∧ Hid (OwnI w.heap.size v acc wr ∧ Src b s wr ∧ Only b w wr)) (fun _ _ wr => match wr.cell? ⟨b, 0, none⟩ with | some (.string s) => s.size | _ => 0)
  case atStart => exact ⟨-1, [], s0, s0.size, rfl, by omega, by omega, Lib.hid ⟨Nat.le_refl _, by simp; omega, rfl⟩, Lib.hid ⟨OwnI.nil _ _, HS.out, Only.refl _ _⟩⟩
  case round =>
    obtain ⟨last, acc, s, f, rfl, hl1, hl2, HG, HR⟩ := hrel
    have hc : wr.cell? ⟨b, 0, none⟩ = some (.string s) := HR.out.2.1.cell 0
    have fail : typesG s0.size (-1) [] s0 = none → typesT s0 = none := fun h => by rw [typesT, h]; rfl
    have done : ∀ l, typesG s0.size (-1) [] s0 = some l → typesT s0 = some (l, ⟨#[]⟩) := fun l h => by rw [typesT, h]; rfl
    by_cases h0 : s.size = 0
    · obtain rfl := size_empty h0
      have hT : typesT s0 = some (acc, ⟨#[]⟩) := by
        refine done acc ?_
        rw [← HG.out.2.2]
        cases f with
        | zero => rfl
        | succ f => rfl
      have HT := Lib.hid hT
      clear hT fail done h0 HG HS
      repeat (first | (fail) | go_values | go_skip | go_guarded | go_step | go_upon | go_back)
      go_ret
      rw [HT.out]
      exact ⟨_, rfl, HR.out.1, HR.out.2.1, HR.out.2.2⟩
    · obtain ⟨g, rfl⟩ : ∃ g, f = g + 1 := ⟨f - 1, by have := HG.out.1; omega⟩
      have he := toList_isEmpty h0
      have hG := HG.out
      have hst := hG.2.2
      rw [typesG, if_neg h0] at hst
      have hn1 := number_t b s 1 1 rfl wr HR.out.2.1 (by omega)
      have HZ := Lib.hid (And.intro hG.1 hG.2.1)
      have HF := Lib.hid fail
      clear fail done HG hG h0
      cases e1 : numT 1 s with
      | none =>
        have hT : typesT s0 = none := HF.out (by rw [← hst, winT, e1])
        rw [e1] at hn1
        have HT := Lib.hid hT; have HN := Lib.hid hn1
        clear hst hn1 hT HF HZ e1
        repeat (first | (go_at_call 44; refine (Hid.out (p := _) ?_)) | go_values | go_skip | go_guarded | go_step | go_upon | go_back)
        refine Lib.hid ?_
        refine HN.out.mono ?_
        rintro e w1 ⟨rfl, hO⟩
        simp only []
        refine ⟨rfl, ?_⟩
        rw [HT.out]
        exact ⟨rfl, HR.out.2.2.trans hO⟩
      | some q1 =>
        obtain ⟨x, s1⟩ := q1
        rw [e1] at hn1
        have hx := num1 s x s1 e1
        rw [winT, e1] at hst
        simp only [] at hst
        have HST := Lib.hid hst; have HN := Lib.hid hn1; have HX := Lib.hid hx
        clear hst hn1 hx e1
        repeat (first | (go_at_call 44; refine (Hid.out (p := _) ?_)) | go_values | go_skip | go_guarded | go_step | go_upon | go_back)
        refine Lib.hid ?_
        refine HN.out.mono ?_
        rintro e w1 ⟨v, rfl, hv, hS1, hO1⟩
        unfold IntV at hv
        subst hv
        have hn2 := number_t b s1 1 1 rfl w1 hS1 (by omega)
        have HS1 := Lib.hid hS1; have HO1 := Lib.hid hO1
        clear hS1 hO1 HN
        simp only []
        cases e2 : numT 1 s1 with
        | none =>
          have hst := HST.out
          rw [e2] at hst hn2
          have hT : typesT s0 = none := HF.out hst.symm
          have HT := Lib.hid hT; have HN := Lib.hid hn2
          clear hst hn2 hT HF HZ e2
          repeat (first | (go_at_call 44; refine (Hid.out (p := _) ?_)) | go_values | go_skip | go_guarded | go_step | go_upon | go_back)
          refine Lib.hid ?_
          refine HN.out.mono ?_
          rintro e w2 ⟨rfl, hO⟩
          simp only []
          refine ⟨rfl, ?_⟩
          rw [HT.out]
          exact ⟨rfl, (HR.out.2.2.trans HO1.out).trans hO⟩
        | some q2 =>
          obtain ⟨m, s2⟩ := q2
          have hst := HST.out
          rw [e2] at hst hn2
          simp only [] at hst
          have hx2 := num1 s1 m s2 e2
          have HST2 := Lib.hid hst; have HN := Lib.hid hn2; have HX2 := Lib.hid hx2
          clear hst hn2 hx2 e2 HST
          repeat (first | (go_at_call 44; refine (Hid.out (p := _) ?_)) | go_values | go_skip | go_guarded | go_step | go_upon | go_back)
          refine Lib.hid ?_
          refine HN.out.mono ?_
          rintro e w2 ⟨v, rfl, hv, hS2, hO2⟩
          unfold IntV at hv
          subst hv
          have hn3 := bytes_t b s2 m.toNat m (by have := HX2.out; omega) w2 hS2
          have HS2 := Lib.hid hS2; have HO2 := Lib.hid (HO1.out.trans hO2)
          clear hS2 hO2 HN HS1 HO1
          simp only []
          cases e3 : bytesT m.toNat s2 with
          | none =>
            have hst := HST2.out
            rw [e3] at hst hn3
            have hT : typesT s0 = none := HF.out hst.symm
            have HT := Lib.hid hT; have HN := Lib.hid hn3
            clear hst hn3 hT HF HZ e3
            repeat (first | (go_at_call 112; refine (Hid.out (p := _) ?_)) | go_values | go_skip | go_guarded | go_step | go_upon | go_back)
            refine Lib.hid ?_
            refine HN.out.mono ?_
            rintro e w3 ⟨rfl, hO⟩
            simp only []
            refine ⟨rfl, ?_⟩
            rw [HT.out]
            exact ⟨rfl, (HR.out.2.2.trans HO2.out).trans hO⟩
          | some q3 =>
            obtain ⟨bb, s3⟩ := q3
            have hst := HST2.out
            rw [e3] at hst hn3
            simp only [] at hst
            have hsz : bb.size + s3.size = s2.size := by
              unfold bytesT at e3
              split at e3
              · cases e3
                rw [ByteArray.size_extract, ByteArray.size_extract]; omega
              · cases e3
            have HST3 := Lib.hid hst; have HN := Lib.hid hn3; have HX3 := Lib.hid hsz
            clear hst hn3 hsz e3 HST2
            repeat (first | (go_at_call 112; refine (Hid.out (p := _) ?_)) | go_values | go_skip | go_guarded | go_step | go_upon | go_back)
            refine Lib.hid ?_
            refine HN.out.mono ?_
            rintro e w3 ⟨v, rfl, hv, hS3, hO3⟩
            unfold StrV at hv
            subst hv
            have HS3 := Lib.hid hS3; have HO3 := Lib.hid (HO2.out.trans hO3)
            clear hS3 hO3 HN HS2 HO2
            simp only []
            by_cases hok : winOk last x bb
            · have hst := HST3.out
              rw [if_pos hok] at hst
              obtain ⟨k1, k2, k3, k4⟩ := hok
              obtain ⟨q, hq⟩ : ∃ q, bb.size = q + 1 := ⟨bb.size - 1, by omega⟩
              rw [hq, Nat.add_sub_cancel] at k4
              have hlt : q < bb.size := by omega
              have hbg := byt_get bb q hlt
              have hbg2 : bb[q] = byt bb q := hbg
              have k2i : (0 : Int) < (bb.size : Int) := by omega
              have k3i : (bb.size : Int) ≤ 32 := by omega
              have hqi : (bb.size : Int) - 1 = (q : Int) := by omega
              have k5 : (((byt bb q).toNat : Int) != 0) = true := by rw [bne_iff_ne]; omega
              have HST := Lib.hid hst; have HQ := Lib.hid hq
              clear hst HST3 HF k4 hq
              have hownw : OwnI w.heap.size u3 acc w3 := HR.out.1.block fun k hk hk2 => HO3.out.block k hk2 (by have := HS.out.lt; omega)
              have hty := TySt.start (bb := bb) hownw HS3.out (HR.out.2.2.trans HO3.out)
              have hcv := conv_string_bytes w3 bb
              generalize grownCap w3 bb.size 0 5 = cap at hcv
              generalize Lib.bytesWorld w3 5 bb = W0 at hcv hty
              have HG0 := Lib.hid (show b ≠ w3.heap.size by have := HS3.out.lt; omega)
              generalize w3.heap.size = g0 at hcv hty HG0
              have HTY := Lib.hid hty
              clear hownw hty HR HO3 HS3
              repeat (first | ((go_at_call 111; refine (must_ok _ _).mono ?_; rintro e w' ⟨rfl, rfl⟩; simp only [])) | go_values | go_skip | go_guarded | go_step | go_upon | go_back)
              obtain ⟨xn, rfl⟩ : ∃ xn : Nat, x = (xn : Int) := ⟨x.toNat, by have := HX.out.1; omega⟩
              have hxn : xn < 256 := by have := HX.out.2.1; omega
              go_loopw [3, 48] (fun v j wr2 => ∃ (k : Nat), j = .int .i64 k ∧ k ≤ bb.size ∧ Hid (TySt b w s3 g0 bb v (acc ++ winL xn bb k) wr2)) (fun _ j _ => bb.size - (intOf j).toNat)
              case atStart => exact ⟨0, rfl, Nat.zero_le _, Lib.hid (by rw [winL, List.append_nil]; exact HTY.out)⟩
              case round =>
                obtain ⟨k, rfl, hk, HT⟩ := hrel
                by_cases hlt : k < bb.size
                · have c0 := HT.out.row k hlt
                  have hcl := (byt bb k).toNat_lt
                  have hk32 : k < 32 := by omega
                  repeat (first | (fail) | go_values | go_skip | go_guarded | go_step | go_upon | go_back)
                  go_loopw [3, 53] (fun v j wr3 => ∃ (kk : Nat), j = .int .i64 kk ∧ kk ≤ 8 ∧ Hid (TySt b w s3 g0 bb v (acc ++ winL xn bb k ++ bits8 xn k (byt bb k) kk) wr3)) (fun _ j _ => 8 - (intOf j).toNat)
                  case atStart => exact ⟨0, rfl, Nat.zero_le _, Lib.hid (by rw [bits8, List.append_nil]; exact HT.out)⟩
                  case round =>
                    obtain ⟨kk, rfl, hkk, HI⟩ := hrel
                    by_cases h8 : kk < 8
                    · have h8i : (kk : Int) < 8 := by omega
                      have hv := ty_val xn k kk hxn hk32 h8
                      have htt := ty_test (byt bb k).toNat kk hcl
                      have hlen : (acc ++ winL xn bb k ++ bits8 xn k (byt bb k) kk).length + 1 ≤ 1000000 := by
                        have := winL_len xn bb k
                        have := bits8_len xn k (byt bb k) kk
                        have := HZ.out.2
                        rw [List.length_append, List.length_append]; omega
                      have HL := Lib.hid hlen
                      clear hlen
                      by_cases hb1 : (byt bb k).toNat / 2 ^ (7 - kk) % 2 = 1
                      · have t5 : (bits .and .u8 (((byt bb k).toNat : Int) / 2 ^ (7 - kk)) 1 == 1) = true := by rw [htt, hb1]; rfl
                        have hnx : bits8 xn k (byt bb k) (kk + 1) = bits8 xn k (byt bb k) kk ++ [((xn * 256 + k * 8 + kk : Nat) : Int)] := by rw [bits8, bit1, if_pos hb1]
                        have HNX := Lib.hid hnx
                        generalize xn * 256 + k * 8 + kk = z at hv HNX
                        clear hnx htt hb1
                        repeat (first | ((at_builtin; go_loud (refine ty_append HI.out HS.out.lt HG0.out _ HL.out rfl _ _ rfl _ _ _ rfl rfl rfl rfl ?_); refine Lib.hid ?_)) | go_values | go_skip | go_guarded | go_step | go_upon | go_back)
                        intro v1 w4 hT1
                        rw [List.append_assoc, ← HNX.out] at hT1
                        have HT1 := Lib.hid hT1
                        clear hT1 HNX HI c0 hv
                        repeat (first | (fail) | go_values | go_skip | go_guarded | go_step | go_upon | go_back)
                        go_roundw
                        case rel => exact ⟨kk + 1, by go_num, by omega, HT1⟩
                        case measure => simp [intOf]; omega
                      · have t5 : (bits .and .u8 (((byt bb k).toNat : Int) / 2 ^ (7 - kk)) 1 == 1) = false := by rw [htt]; rw [beq_eq_false_iff_ne]; omega
                        have hnx : bits8 xn k (byt bb k) (kk + 1) = bits8 xn k (byt bb k) kk := by rw [bits8, bit1, if_neg hb1, List.append_nil]
                        have HNX := Lib.hid hnx
                        clear hnx htt hb1 hv
                        repeat (first | (fail) | go_values | go_skip | go_guarded | go_step | go_upon | go_back)
                        go_roundw
                        case rel => exact ⟨kk + 1, by go_num, by omega, by rw [HNX.out]; exact HI⟩
                        case measure => simp [intOf]; omega
                    · obtain rfl : kk = 8 := by omega
                      rw [show ((8 : Nat) : Int) = 8 from rfl]
                      have hI := HI.out
                      rw [List.append_assoc, ← winL] at hI
                      have HI2 := Lib.hid hI
                      clear hI HI HT h8 c0
                      repeat (first | (fail) | go_values | go_skip | go_guarded | go_step | go_upon | go_back)
                      go_roundw
                      case rel => exact ⟨k + 1, by go_num, by omega, HI2⟩
                      case measure => simp [intOf]; omega
                · obtain rfl : k = bb.size := by omega
                  have hT := HT.out
                  have hst := HST.out
                  rw [Int.toNat_natCast] at hst
                  have HE := Lib.hid (show s3.size ≤ g ∧ (acc ++ winL xn bb bb.size).length + 8 * s3.size ≤ 16000 ∧ typesG g (xn : Int) (acc ++ winL xn bb bb.size) s3 = typesG s0.size (-1) [] s0 by
                    have := winL_len xn bb bb.size
                    have h1 := HZ.out; have h2 := HX.out; have h3 := HX2.out; have h4 := HX3.out
                    refine ⟨by omega, ?_, hst⟩
                    rw [List.length_append]; omega)
                  have HR := Lib.hid (And.intro hT.own (And.intro hT.src hT.only))
                  have HLT := Lib.hid (show s3.size < s.size by have h2 := HX.out; have h3 := HX2.out; have h4 := HX3.out; omega)
                  have hc2 : wr.cell? ⟨b, 0, none⟩ = some (.string s3) := hT.src.cell 0
                  have hc3 := Lib.hid hc
                  have hc4 := Lib.hid hc2
                  clear hT hst HT HST HZ HX HX2 HX3 hc hc2
                  repeat (first | (fail) | go_values | go_skip | go_guarded | go_step | go_upon | go_back)
                  go_roundw
                  case rel => exact ⟨(xn : Int), acc ++ winL xn bb bb.size, s3, g, rfl, by omega, by omega, HE, HR⟩
                  case measure => rw [hc3.out, hc4.out]; exact HLT.out
            · have hst := HST3.out
              rw [if_neg hok] at hst
              have hT : typesT s0 = none := HF.out hst.symm
              have HT := Lib.hid hT
              have HO := Lib.hid (HR.out.2.2.trans HO3.out)
              clear hst HST3 HF hT HR HO3 HS3 HX HX2 HX3 HZ
              by_cases k1 : last < x
              · by_cases k2 : 0 < bb.size
                · have k2i : (0 : Int) < (bb.size : Int) := by omega
                  by_cases k3 : bb.size ≤ 32
                  · have k3i : (bb.size : Int) ≤ 32 := by omega
                    obtain ⟨q, hq⟩ : ∃ q, bb.size = q + 1 := ⟨bb.size - 1, by omega⟩
                    have hlt : q < bb.size := by omega
                    have hbg := byt_get bb q hlt
                    have hbg2 : bb[q] = byt bb q := hbg
                    have hqi : (bb.size : Int) - 1 = (q : Int) := by omega
                    have k5 : (((byt bb q).toNat : Int) != 0) = false := by
                      rw [bne_eq_false_iff_eq]
                      by_cases h : (byt bb q).toNat = 0
                      · omega
                      · exact absurd ⟨k1, k2, k3, by rw [hq, Nat.add_sub_cancel]; exact h⟩ hok
                    clear hok hq
                    repeat (first | ((go_at_call 111; refine (must_no _ _).mono ?_; rintro e w' ⟨rfl, rfl⟩; simp only [])) | go_values | go_skip | go_guarded | go_step | go_upon | go_back)
                    refine ⟨rfl, ?_⟩
                    rw [HT.out]
                    exact ⟨rfl, HO.out⟩
                  · have k3i : ¬ ((bb.size : Int) ≤ 32) := by omega
                    clear hok
                    repeat (first | ((go_at_call 111; refine (must_no _ _).mono ?_; rintro e w' ⟨rfl, rfl⟩; simp only [])) | go_values | go_skip | go_guarded | go_step | go_upon | go_back)
                    refine ⟨rfl, ?_⟩
                    rw [HT.out]
                    exact ⟨rfl, HO.out⟩
                · have k2i : ¬ ((0 : Int) < (bb.size : Int)) := by omega
                  clear hok
                  repeat (first | ((go_at_call 111; refine (must_no _ _).mono ?_; rintro e w' ⟨rfl, rfl⟩; simp only [])) | go_values | go_skip | go_guarded | go_step | go_upon | go_back)
                  refine ⟨rfl, ?_⟩
                  rw [HT.out]
                  exact ⟨rfl, HO.out⟩
              · clear hok
                repeat (first | ((go_at_call 111; refine (must_no _ _).mono ?_; rintro e w' ⟨rfl, rfl⟩; simp only [])) | go_values | go_skip | go_guarded | go_step | go_upon | go_back)
                refine ⟨rfl, ?_⟩
                rw [HT.out]
                exact ⟨rfl, HO.out⟩
end Go.Proofs.YtkhpcagoggglcaaGreatDoor

/- What all of data's takers share. -/
namespace Go.Proofs.YtkhpcagoggglcaaGreatDoor
open Go.RowKit

theorem numT_le {n : Nat} {s : ByteArray} {x : Int} {r : ByteArray} (h : numT n s = some (x, r)) : r.size ≤ s.size := by
  unfold numT at h
  split at h
  · cases h; rw [ByteArray.size_extract]; omega
  · cases h
theorem bytesT_le {n : Nat} {s : ByteArray} {x : ByteArray} {r : ByteArray} (h : bytesT n s = some (x, r)) : r.size ≤ s.size := by
  unfold bytesT at h
  split at h
  · cases h; rw [ByteArray.size_extract]; omega
  · cases h
theorem nameT_le {s : ByteArray} {x : ByteArray} {r : ByteArray} (h : nameT s = some (x, r)) : r.size ≤ s.size := by
  unfold nameT at h
  split at h
  · split at h
    · cases h; rw [ByteArray.size_extract]; omega
    · cases h
  · cases h
theorem restT_le {s : ByteArray} {x : ByteArray} {r : ByteArray} (h : restT s = some (x, r)) : r.size ≤ s.size := by
  unfold restT at h
  split at h
  · cases h; exact Nat.zero_le _
  · cases h
theorem typesT_le {s : ByteArray} {x : List Int} {r : ByteArray} (h : typesT s = some (x, r)) : r.size ≤ s.size := by
  unfold typesT at h
  rw [Option.map_eq_some_iff] at h
  obtain ⟨l, _, h⟩ := h
  cases h; exact Nat.zero_le _

/-- What data's takers tell of whole data. -/
def takeR {α : Type} (f : ByteArray → Option (α × ByteArray)) (d : ByteArray) : Option α :=
  if d.size ≤ 2000 then (match f d with | some (x, r) => if r.size = 0 then some x else none | none => none) else none
theorem takeR_long {α : Type} {f : ByteArray → Option (α × ByteArray)} {d : ByteArray} (h : ¬ d.size ≤ 2000) : takeR f d = none := by rw [takeR, if_neg h]
theorem takeR_none {α : Type} {f : ByteArray → Option (α × ByteArray)} {d : ByteArray} (h : f d = none) : takeR f d = none := by
  rw [takeR, h]; split <;> rfl
theorem takeR_some {α : Type} {f : ByteArray → Option (α × ByteArray)} {d : ByteArray} {x : α} {r : ByteArray} (h0 : d.size ≤ 2000) (h : f d = some (x, r)) (hr : r.size = 0) : takeR f d = some x := by
  rw [takeR, if_pos h0, h]; simp [hr]
theorem takeR_left {α : Type} {f : ByteArray → Option (α × ByteArray)} {d : ByteArray} {x : α} {r : ByteArray} (h : f d = some (x, r)) (hr : r.size ≠ 0) : takeR f d = none := by
  rw [takeR, h]; simp [hr]

/-- A function that takes data apart: what it has (told by V), or nothing (z) and ErrData. -/
def TakeP {α : Type} (V : α → World → Value → Prop) (z : Value) (p : Option α) (w : World) (e : Ending) (w' : World) : Prop :=
  Below w.heap.size w w' ∧ match p with
    | some x => ∃ v, V x w' v ∧ e = .returned (.tuple #[v, .int .i64 0])
    | none => e = .returned (.tuple #[z, .int .i64 6])
theorem OwnI.len {base : Nat} {v : Value} {l : List Int} {w : World} (h : OwnI base v l w) : ∃ A c, v = .slice A l.length c := by
  rcases h.2 with ⟨rfl, h0⟩ | ⟨g, cap, cur, rfl, _⟩
  · exact ⟨none, 0, by rw [show l.length = 0 by simpa using h0]⟩
  · exact ⟨_, _, rfl⟩
theorem OwnI.lift {lo lo' : Nat} {v : Value} {l : List Int} {w : World} (h : OwnI lo v l w) (hl : lo' ≤ lo) : OwnI lo' v l w := by
  refine ⟨h.1, ?_⟩
  rcases h.2 with h1 | ⟨g, cap, cur, h1, h2, h3, h4⟩
  · exact .inl h1
  · exact .inr ⟨g, cap, cur, h1, Nat.le_trans hl h2, h3, h4⟩
theorem OwnI.set {lo : Nat} {v : Value} {l : List Int} {w : World} (h : OwnI lo v l w) (p : Addr) (hp : p.block < lo) (x : Value) : OwnI lo v l (w.setCell p x) :=
  h.block fun k hk _ => heap_setCell_other _ _ _ _ (by omega)
theorem OwnI.below {lo : Nat} {v : Value} {l : List Int} {w w' : World} (h : OwnI lo v l w) (hb : Below w.heap.size w w') : OwnI lo v l w' :=
  h.block fun k _ hk => hb.block k hk
theorem OwnI.only {lo b : Nat} {v : Value} {l : List Int} {w w' : World} (h : OwnI lo v l w) (hb : Only b w w') (hl : b < lo) : OwnI lo v l w' :=
  h.block fun k hk1 hk => hb.block k hk (by omega)
theorem Only.put {b : Nat} {w w' : World} (h : Only b w w') (j : Nat) (v : Value) : Only b w (w'.setCell ⟨b, j, none⟩ v) := h.trans (Only.setCell ⟨b, j, none⟩ rfl v)
end Go.Proofs.YtkhpcagoggglcaaGreatDoor

/- data.Ds: what such data have: the closure that takes them apart, data.take at this type, data.Ds itself. Lines printed by wip/tools/taker.py. -/
namespace Go.Proofs.YtkhpcagoggglcaaGreatDoor
open Go.RowKit

structure DsR where
  tag : Int
  alg : Int
  kind : Int
  dig : ByteArray
def DsR.v (x : DsR) : Value := .agg #[.int .i64 x.tag, .int .i64 x.alg, .int .i64 x.kind, .string x.dig]
def dsV (_lo : Nat) (x : DsR) (_ : World) (v : Value) : Prop := v = x.v
def zDs : Array Value := #[.int .i64 0, .int .i64 0, .int .i64 0, .string ⟨#[]⟩]
theorem info_Ds : (Tryz.prog.info? 126).map (·.size) = some 4 := by kernel_rfl
/-- What is taken, and what is left. -/
def dsT (s : ByteArray) : Option (DsR × ByteArray) :=
  match numT 2 s with
  | none => none
  | some (a1, s1) =>
    match numT 1 s1 with
    | none => none
    | some (a2, s2) =>
      match numT 1 s2 with
      | none => none
      | some (a3, s3) =>
        match restT s3 with
        | none => none
        | some (a4, s4) =>
          some (⟨a1, a2, a3, a4⟩, s4)

set_option maxRecDepth 100000 in
set_option maxHeartbeats 1000000 in
theorem ds1_t (b : Nat) (s : ByteArray) (w : World) (hS : Src b s w) (hz : s.size ≤ 2000) :
    Calls Tryz.prog 148 #[.pointer (some ⟨b, 0, none⟩)] w (Took b w (dsT s) (dsV (w.heap.size + 1))) := by
  have hne : w.heap.size ≠ b := by have := hS.lt; omega
  have n : b ≠ w.heap.size := fun h => hne h.symm
  have HL := Lib.hid hS.lt
  have HQ0 := Lib.hid hS
  have HZ0 := Lib.hid hz
  clear hS hz
  go_enter Tryz.func148, Tryz.ntmps148
  go_wp2_with fail
  refine (number_t b s 2 2 rfl _ (HQ0.out.alloc _) (by omega)).mono ?_
  rintro e W1 h
  rcases h1 : numT 2 s with _ | ⟨a1, s1⟩
  · rw [h1] at h
    obtain ⟨rfl, hO⟩ := h
    have hO2 : Only b w W1 := (Only.alloc w _).trans hO
    have hT : dsT s = none := by simp only [dsT, h1]
    first
      | (refine ⟨rfl, ?_⟩; rw [hT]; exact ⟨rfl, hO2⟩)
      | (simp only []; refine ⟨rfl, ?_⟩; rw [hT]; exact ⟨rfl, hO2⟩)
  rw [h1] at h
  obtain ⟨v1, rfl, hv, hS, hO⟩ := h
  have hO2 : Only b w W1 := (Only.alloc w _).trans hO
  obtain rfl : v1 = .int .i64 a1 := hv
  have hB2 := (Blk.new w #[.int .i64 0, .int .i64 0, .int .i64 0, .string ⟨#[]⟩] 126).only hO hne
  have HZ1 := Lib.hid (Nat.le_trans (numT_le h1) HZ0.out)
  have HB1 := Lib.hid hB2; have HQ1 := Lib.hid hS; have HO1 := Lib.hid hO2; have E1 := Lib.hid h1
  clear hB2 hS hO hO2 h1 
  go_wp2_with fail
  refine (number_t b s1 1 1 rfl _ (HQ1.out) (by omega)).mono ?_
  rintro e W2 h
  rcases h2 : numT 1 s1 with _ | ⟨a2, s2⟩
  · rw [h2] at h
    obtain ⟨rfl, hO⟩ := h
    have hO2 : Only b w W2 := (HO1.out).trans hO
    have hT : dsT s = none := by have e1 := E1.out; simp only [dsT, e1, h2]
    first
      | (refine ⟨rfl, ?_⟩; rw [hT]; exact ⟨rfl, hO2⟩)
      | (simp only []; refine ⟨rfl, ?_⟩; rw [hT]; exact ⟨rfl, hO2⟩)
  rw [h2] at h
  obtain ⟨v2, rfl, hv, hS, hO⟩ := h
  have hO2 : Only b w W2 := (HO1.out).trans hO
  obtain rfl : v2 = .int .i64 a2 := hv
  have hB2 := HB1.out.only hO hne
  have HZ2 := Lib.hid (Nat.le_trans (numT_le h2) HZ1.out)
  have HB2 := Lib.hid hB2; have HQ2 := Lib.hid hS; have HO2 := Lib.hid hO2; have E2 := Lib.hid h2
  clear hB2 hS hO hO2 h2 
  go_wp2_with fail
  refine (number_t b s2 1 1 rfl _ (HQ2.out) (by omega)).mono ?_
  rintro e W3 h
  rcases h3 : numT 1 s2 with _ | ⟨a3, s3⟩
  · rw [h3] at h
    obtain ⟨rfl, hO⟩ := h
    have hO2 : Only b w W3 := (HO2.out).trans hO
    have hT : dsT s = none := by have e1 := E1.out; have e2 := E2.out; simp only [dsT, e1, e2, h3]
    first
      | (refine ⟨rfl, ?_⟩; rw [hT]; exact ⟨rfl, hO2⟩)
      | (simp only []; refine ⟨rfl, ?_⟩; rw [hT]; exact ⟨rfl, hO2⟩)
  rw [h3] at h
  obtain ⟨v3, rfl, hv, hS, hO⟩ := h
  have hO2 : Only b w W3 := (HO2.out).trans hO
  obtain rfl : v3 = .int .i64 a3 := hv
  have hB2 := HB2.out.only hO hne
  have HZ3 := Lib.hid (Nat.le_trans (numT_le h3) HZ2.out)
  have HB3 := Lib.hid hB2; have HQ3 := Lib.hid hS; have HO3 := Lib.hid hO2; have E3 := Lib.hid h3
  clear hB2 hS hO hO2 h3 
  go_wp2_with fail
  refine (rest_t b s3 _ (HQ3.out)).mono ?_
  rintro e W4 h
  rcases h4 : restT s3 with _ | ⟨a4, s4⟩
  · rw [h4] at h
    obtain ⟨rfl, hO⟩ := h
    have hO2 : Only b w W4 := (HO3.out).trans hO
    have hT : dsT s = none := by have e1 := E1.out; have e2 := E2.out; have e3 := E3.out; simp only [dsT, e1, e2, e3, h4]
    first
      | (refine ⟨rfl, ?_⟩; rw [hT]; exact ⟨rfl, hO2⟩)
      | (simp only []; refine ⟨rfl, ?_⟩; rw [hT]; exact ⟨rfl, hO2⟩)
  rw [h4] at h
  obtain ⟨v4, rfl, hv, hS, hO⟩ := h
  have hO2 : Only b w W4 := (HO3.out).trans hO
  obtain rfl : v4 = .string a4 := hv
  have hB2 := HB3.out.only hO hne
  have HZ4 := Lib.hid (Nat.le_trans (restT_le h4) HZ3.out)
  have HB4 := Lib.hid hB2; have HQ4 := Lib.hid hS; have HO4 := Lib.hid hO2; have E4 := Lib.hid h4
  clear hB2 hS hO hO2 h4 
  have c0 : W4.cell? ⟨w.heap.size, 0, none⟩ = some (.int .i64 0) := HB4.out.cell 0
  have c1 : W4.cell? ⟨w.heap.size, 1, none⟩ = some (.int .i64 0) := HB4.out.cell 1
  have c2 : W4.cell? ⟨w.heap.size, 2, none⟩ = some (.int .i64 0) := HB4.out.cell 2
  have c3 : W4.cell? ⟨w.heap.size, 3, none⟩ = some (.string ⟨#[]⟩) := HB4.out.cell 3
  have f0 := fun j => HB4.out.free j
  go_wp2_with fail
  have hF : Blk ((((((((W4.setCell ⟨w.heap.size, 0, none⟩ (.int .i64 a1)).setCell ⟨w.heap.size, 1, none⟩ (.int .i64 a2)).setCell ⟨w.heap.size, 2, none⟩ (.int .i64 a3)).setCell ⟨w.heap.size, 3, none⟩ (.string a4)).setCell ⟨w.heap.size, 0, none⟩ (.int .i64 a1)).setCell ⟨w.heap.size, 1, none⟩ (.int .i64 a2)).setCell ⟨w.heap.size, 2, none⟩ (.int .i64 a3)).setCell ⟨w.heap.size, 3, none⟩ (.string a4)) w.heap.size #[.int .i64 a1, .int .i64 a2, .int .i64 a3, .string a4] 126 := by
    simpa using ((((((((HB4.out.set 0 (.int .i64 a1)).set 1 (.int .i64 a2)).set 2 (.int .i64 a3)).set 3 (.string a4)).set 0 (.int .i64 a1)).set 1 (.int .i64 a2)).set 2 (.int .i64 a3)).set 3 (.string a4))
  have hT : dsT s = some (⟨a1, a2, a3, a4⟩, s4) := by have e1 := E1.out; have e2 := E2.out; have e3 := E3.out; have e4 := E4.out; simp only [dsT, e1, e2, e3, e4]
  refine bodyPost_ret (results1 rfl ⟨_, rfl, loadVar_blk hF Tryz.underlying126 rfl info_Ds⟩) rfl ?_
  rw [hT]
  refine ⟨_, rfl, rfl, ?_, ?_⟩
  · iterate 8 refine Blk.other ?_ n _
    exact HQ4.out
  · iterate 8 refine Only.setNew ?_ (Nat.le_refl _) _
    exact HO4.out
set_option maxRecDepth 100000 in
theorem ds_panic (B n m : Nat) {v0 v1 v2 v3 : Value} (w : World) (h0 : Blk w n #[v0, v1, v2, v3] 126) (h1 : Blk w m #[.int .i64 0] 25) (hne : n ≠ m) (hBn : B ≤ n) (hBm : B ≤ m) :
    CallsD Tryz.prog 192 #[.pointer (some ⟨n, 0, none⟩), .pointer (some ⟨m, 0, none⟩)] (.panicking [{ v := .iface 162 (.agg #[]), recovered := false }]) w fun e u' w' =>
      e = .returned (.tuple #[]) ∧ u' = .panicking [{ v := .iface 162 (.agg #[]), recovered := true }] ∧ Blk w' n #[.int .i64 0, .int .i64 0, .int .i64 0, .string ⟨#[]⟩] 126 ∧ Blk w' m #[.int .i64 6] 25 ∧ Below B w w' := by
  refine callsD_of_wpS Tryz.func192 rfl fun c₀ cs hu => ?_
  simp only [Tryz.ntmps192, List.size_toArray, List.length_cons, List.length_nil, Nat.reduceAdd, Nat.reduceSub, Array.replicate_succ, Array.replicate_zero, List.push_toArray, List.append_toArray, List.nil_append, List.cons_append]
  apply wpS_seq
  apply wpS_region
  simp [wpOpsS, go_sem, recoverD, hu, Exit.thenS]
  refine wpS_of_wp (wp_mono (Q := fun e a' w' => e = .normal ∧ a'.defers = [] ∧ Blk w' n #[.int .i64 0, .int .i64 0, .int .i64 0, .string ⟨#[]⟩] 126 ∧ Blk w' m #[.int .i64 6] 25 ∧ Below B w w') ?_ ?_)
  · have c0 : w.cell? ⟨n, 0, none⟩ = some v0 := h0.cell 0
    have c1 : w.cell? ⟨n, 1, none⟩ = some v1 := h0.cell 1
    have c2 : w.cell? ⟨n, 2, none⟩ = some v2 := h0.cell 2
    have c3 : w.cell? ⟨n, 3, none⟩ = some v3 := h0.cell 3
    have e0 : w.cell? ⟨m, 0, none⟩ = some (.int .i64 0) := h1.cell 0
    have f0 := fun j => h0.free j
    have f1 := fun j => h1.free j
    have l0 := h0.lt
    have l1 := h1.lt
    have H0 := Lib.hid h0; have H1 := Lib.hid h1; clear h0 h1
    generalize hQ : (fun (e : Exit) (a' : Act) (w' : World) => e = Exit.normal ∧ a'.defers = [] ∧ Blk w' n #[.int .i64 0, .int .i64 0, .int .i64 0, .string ⟨#[]⟩] 126 ∧ Blk w' m #[.int .i64 6] 25 ∧ Below B w w') = Q
    have HQ := Lib.hid hQ; clear hQ
    have hta := assert_stop
    go_wp2
    rw [← HQ.out]
    refine ⟨rfl, rfl, ?_, ?_, ?_⟩
    · refine Blk.alloc (Blk.alloc (Blk.other ?_ hne _) _) _
      simpa using ((((H0.out.set 0 (.int .i64 0)).set 1 (.int .i64 0)).set 2 (.int .i64 0)).set 3 (.string ⟨#[]⟩))
    · refine Blk.alloc (Blk.alloc (Blk.set (cs := #[.int .i64 0]) ?_ 0 _) _) _
      iterate 4 refine Blk.other ?_ (fun h => hne h.symm) _
      exact H1.out
    · refine Below.alloc (Below.alloc ?_ (by simp; omega) _) (by simp; omega) _
      refine Below.setCell ?_ (by simpa using hBm) _
      iterate 4 refine Below.setCell ?_ (by simpa using hBn) _
      exact Below.refl _ _
  · rintro e a w' ⟨rfl, hd, q⟩
    exact ⟨hd, _, rfl, _, results_none rfl _ _ _, rfl, rfl, q⟩

theorem ds_idle (n m : Nat) (w : World) :
    CallsD Tryz.prog 192 #[.pointer (some ⟨n, 0, none⟩), .pointer (some ⟨m, 0, none⟩)] .returning w fun e u' w' => e = .returned (.tuple #[]) ∧ u' = .returning ∧ w' = w := by
  refine callsD_of_wpS Tryz.func192 rfl fun c₀ cs hu => ?_
  simp only [Tryz.ntmps192, List.size_toArray, List.length_cons, List.length_nil, Nat.reduceAdd, Nat.reduceSub, Array.replicate_succ, Array.replicate_zero, List.push_toArray, List.append_toArray, List.nil_append, List.cons_append]
  apply wpS_seq
  apply wpS_region
  simp [wpOpsS, go_sem, recoverD, hu, Exit.thenS]
  refine wpS_of_wp (wp_mono (Q := fun e a' w' => e = .normal ∧ a'.defers = [] ∧ w' = w) ?_ ?_)
  · generalize hQ : (fun (e : Exit) (a' : Act) (w' : World) => e = Exit.normal ∧ a'.defers = [] ∧ w' = w) = Q
    have HQ := Lib.hid hQ; clear hQ
    go_wp2
    rw [← HQ.out]
    exact ⟨rfl, rfl, rfl⟩
  · rintro e a w' ⟨rfl, hd, rfl⟩
    cases c₀
    simp at hu
    subst hu
    exact ⟨hd, _, rfl, _, results_none rfl _ _ _, rfl, rfl, rfl⟩

/-- The world in which take calls its function. -/
def wDs (w : World) (d : ByteArray) : World := ((w.alloc (.cells #[.int .i64 0, .int .i64 0, .int .i64 0, .string ⟨#[]⟩] 126)).alloc (.cells #[.int .i64 0] 25)).alloc (.cells #[.string d] 165)
theorem wDs_src (w : World) (d : ByteArray) : Src (w.heap.size + 1 + 1) d (wDs w d) := by
  have := Blk.new ((w.alloc (.cells #[.int .i64 0, .int .i64 0, .int .i64 0, .string ⟨#[]⟩] 126)).alloc (.cells #[.int .i64 0] 25)) #[.string d] 165
  simpa [wDs, Src] using this
theorem wDs_val (w : World) (d : ByteArray) : Blk (wDs w d) w.heap.size #[.int .i64 0, .int .i64 0, .int .i64 0, .string ⟨#[]⟩] 126 := ((Blk.new w #[.int .i64 0, .int .i64 0, .int .i64 0, .string ⟨#[]⟩] 126).alloc _).alloc _
theorem wDs_err (w : World) (d : ByteArray) : Blk (wDs w d) (w.heap.size + 1) #[.int .i64 0] 25 := by
  have := (Blk.new (w.alloc (.cells #[.int .i64 0, .int .i64 0, .int .i64 0, .string ⟨#[]⟩] 126)) #[.int .i64 0] 25).alloc (.cells #[.string d] 165)
  simpa [wDs] using this
theorem wDs_below (w : World) (d : ByteArray) : Below w.heap.size w (wDs w d) := (((Below.refl _ w).alloc (Nat.le_refl _) _).alloc (by simp) _).alloc (by simp; omega) _

/-- Behind the door, where something panicked. -/
theorem ds_door (p : Option DsR) (hp : p = none) (tmps : Array Value) {v0 v1 v2 v3 : Value} (w w1 : World) (hk : Blk w1 w.heap.size #[v0, v1, v2, v3] 126) (he : Blk w1 (w.heap.size + 1) #[.int .i64 0] 25) (hb : Below w.heap.size w w1)
    (h4 : tmps.getD 4 undef = .pointer (some ⟨w.heap.size, 0, none⟩)) (h5 : tmps.getD 5 undef = .pointer (some ⟨w.heap.size + 1, 0, none⟩)) :
    bodyPostD Tryz.prog Tryz.f147 (TakeP (dsV (w.heap.size + 1)) (.agg #[.int .i64 0, .int .i64 0, .int .i64 0, .string ⟨#[]⟩]) p w) (.panic stopC)
      { tmps := tmps, defers := [{ target := .fn (.func 192) #[.pointer (some ⟨w.heap.size, 0, none⟩), .pointer (some ⟨w.heap.size + 1, 0, none⟩)], args := #[] }] } w1 := by
  subst hp
  refine leaves_cons (f := 192) (args := #[.pointer (some ⟨w.heap.size, 0, none⟩), .pointer (some ⟨w.heap.size + 1, 0, none⟩)]) (by simp) (by simp [go_sem]) ?_
  refine (ds_panic w.heap.size _ _ w1 hk he (by omega) (Nat.le_refl _) (by omega)).mono ?_
  rintro e u' w2 ⟨rfl, rfl, hk2, he2, hb2⟩
  exact ⟨_, results2 rfl ⟨_, h4, loadVar_blk hk2 Tryz.underlying126 rfl info_Ds⟩ ⟨_, h5, loadVar_int he2 Tryz.underlying25⟩, hb.trans hb2, rfl⟩

set_option maxRecDepth 100000 in
set_option maxHeartbeats 1000000 in
theorem take_ds (d : ByteArray) (w : World) :
    Calls Tryz.prog 147 #[.string d, .func (.func 148) #[] #[]] w (TakeP (dsV (w.heap.size + 1)) (.agg #[.int .i64 0, .int .i64 0, .int .i64 0, .string ⟨#[]⟩]) (takeR dsT d) w) := by
  have hmf := makeFunc_run
  by_cases hd : d.size ≤ 2000
  · have hd' : decide ((d.size : Int) ≤ 2000) = true := by simp; omega
    have HD := Lib.hid hd; clear hd
    go_enter_defers Tryz.func147, Tryz.ntmps147
    go_wp2_with (go_at_call 111; refine (must_ok _ _).mono ?_; rintro e w' ⟨rfl, rfl⟩)
    refine (ds1_t (w.heap.size + 1 + 1) d _ (wDs_src w d) HD.out).mono ?_
    rintro e w1 h
    rcases h1 : dsT d with _ | ⟨x, r⟩
    · rw [h1] at h
      obtain ⟨rfl, hO⟩ := h
      exact ds_door _ (takeR_none h1) _ w w1 ((wDs_val w d).only hO (by omega)) ((wDs_err w d).only hO (by omega)) ((wDs_below w d).trans (hO.belowOf (by omega) (by simp [wDs]; omega))) rfl rfl
    rw [h1] at h
    obtain ⟨v, rfl, hv, hS, hO⟩ := h
    obtain rfl : v = x.v := hv
    have hk1 := (wDs_val w d).only hO (by omega)
    have he1 := (wDs_err w d).only hO (by omega)
    have hB1 := (wDs_below w d).trans (hO.belowOf (B := w.heap.size) (by omega) (by simp [wDs]; omega))
    have c0 : w1.cell? ⟨w.heap.size, 0, none⟩ = some (.int .i64 0) := hk1.cell 0
    have c1 : w1.cell? ⟨w.heap.size, 1, none⟩ = some (.int .i64 0) := hk1.cell 1
    have c2 : w1.cell? ⟨w.heap.size, 2, none⟩ = some (.int .i64 0) := hk1.cell 2
    have c3 : w1.cell? ⟨w.heap.size, 3, none⟩ = some (.string ⟨#[]⟩) := hk1.cell 3
    have e0 : w1.cell? ⟨w.heap.size + 1, 0, none⟩ = some (.int .i64 0) := he1.cell 0
    have e5 : w1.cell? ⟨w.heap.size + 1 + 1, 0, none⟩ = some (.string r) := hS.cell 0
    have f0 := fun j => hk1.free j
    have f1 := fun j => he1.free j
    have HK1 := Lib.hid hk1; have HE1 := Lib.hid he1; have HB1 := Lib.hid hB1; have H1 := Lib.hid h1
    clear hk1 he1 hB1 hO hS h1
    simp only [DsR.v]
    by_cases hr : r.size = 0
    · obtain rfl := size_empty hr
      clear hr
      go_wp2_with (go_at_call 111; refine (must_ok _ _).mono ?_; rintro e w' ⟨rfl, rfl⟩)
      refine leaves_cons (f := 192) (args := #[.pointer (some ⟨w.heap.size, 0, none⟩), .pointer (some ⟨w.heap.size + 1, 0, none⟩)]) (by simp) (by simp [go_sem]) ?_
      refine (ds_idle _ _ _).mono ?_
      rintro e u' w2 ⟨rfl, rfl, rfl⟩
      refine ⟨_, results2 rfl ⟨_, rfl, loadVar_blk (cs := #[.int .i64 x.tag, .int .i64 x.alg, .int .i64 x.kind, .string x.dig]) (t := 126) ?_ Tryz.underlying126 rfl info_Ds⟩ ⟨_, rfl, loadVar_int (t := 25) (v := .int .i64 0) ?_ Tryz.underlying25⟩, ?_, ?_⟩
      · refine Blk.other ?_ (by simp) _
        simpa using ((((((((HK1.out.set 0 (.int .i64 x.tag)).set 1 (.int .i64 x.alg)).set 2 (.int .i64 x.kind)).set 3 (.string x.dig)).set 0 (.int .i64 x.tag)).set 1 (.int .i64 x.alg)).set 2 (.int .i64 x.kind)).set 3 (.string x.dig))
      · refine Blk.set (cs := #[.int .i64 0]) ?_ 0 _
        iterate 8 refine Blk.other ?_ (by simp) _
        exact HE1.out
      · refine Below.setCell ?_ (by simp) _
        iterate 8 refine Below.setCell ?_ (by exact Nat.le_refl _) _
        exact HB1.out
      · rw [takeR_some HD.out H1.out rfl]
        exact ⟨_, rfl, rfl⟩
    · have he := toList_isEmpty hr
      have hT := takeR_left H1.out hr
      have HT := Lib.hid hT; clear hT hr
      go_wp2_with (go_at_call 111; refine (must_no _ _).mono ?_; rintro e w' ⟨rfl, rfl⟩)
      refine ds_door _ HT.out _ (v0 := .int .i64 x.tag) (v1 := .int .i64 x.alg) (v2 := .int .i64 x.kind) (v3 := .string x.dig) (w := w) (w1 := _) (hk := ?_) (he := ?_) (hb := ?_) rfl rfl
      · exact (by simpa using ((((HK1.out.set 0 (.int .i64 x.tag)).set 1 (.int .i64 x.alg)).set 2 (.int .i64 x.kind)).set 3 (.string x.dig)) : Blk _ w.heap.size #[.int .i64 x.tag, .int .i64 x.alg, .int .i64 x.kind, .string x.dig] 126)
      · iterate 4 refine Blk.other ?_ (by simp) _
        exact HE1.out
      · iterate 4 refine Below.setCell ?_ (by exact Nat.le_refl _) _
        exact HB1.out
  · have hd' : decide ((d.size : Int) ≤ 2000) = false := by simp; omega
    have HT := Lib.hid (takeR_long (f := dsT) hd)
    clear hd
    go_enter_defers Tryz.func147, Tryz.ntmps147
    go_wp2_with (go_at_call 111; refine (must_no _ _).mono ?_; rintro e w' ⟨rfl, rfl⟩)
    exact ds_door _ HT.out _ w _ (wDs_val w d) (wDs_err w d) (wDs_below w d) rfl rfl

set_option maxRecDepth 100000 in
theorem data_ds (d : ByteArray) (w : World) :
    Calls Tryz.prog 77 #[.string d] w (TakeP (dsV w.heap.size) (.agg #[.int .i64 0, .int .i64 0, .int .i64 0, .string ⟨#[]⟩]) (takeR dsT d) w) := by
  have hmf := makeFunc_run
  go_enter Tryz.func77, Tryz.ntmps77
  go_wp2_with fail
  refine (take_ds d _).mono ?_
  rintro e w1 ⟨hb, h⟩
  have hk1 : Blk w1 w.heap.size #[.int .i64 0, .int .i64 0, .int .i64 0, .string ⟨#[]⟩] 126 := (Blk.new w #[.int .i64 0, .int .i64 0, .int .i64 0, .string ⟨#[]⟩] 126).below hb (by simp)
  have hB : Below w.heap.size w w1 := ((Below.refl _ w).alloc (Nat.le_refl _) _).trans (hb.mono (by simp))
  have c0 : w1.cell? ⟨w.heap.size, 0, none⟩ = some (.int .i64 0) := hk1.cell 0
  have c1 : w1.cell? ⟨w.heap.size, 1, none⟩ = some (.int .i64 0) := hk1.cell 1
  have c2 : w1.cell? ⟨w.heap.size, 2, none⟩ = some (.int .i64 0) := hk1.cell 2
  have c3 : w1.cell? ⟨w.heap.size, 3, none⟩ = some (.string ⟨#[]⟩) := hk1.cell 3
  have f0 := fun j => hk1.free j
  have HK1 := Lib.hid hk1; have HB := Lib.hid hB; clear hk1 hb hB
  rcases h1 : takeR dsT d with _ | x
  · rw [h1] at h
    obtain rfl := h
    go_wp2
    refine bodyPost_ret (results2 rfl ⟨_, rfl, loadVar_blk (cs := #[.int .i64 0, .int .i64 0, .int .i64 0, .string ⟨#[]⟩]) (t := 126) ?_ Tryz.underlying126 rfl info_Ds⟩ rfl) rfl ⟨?_, ?_⟩
    · simpa using ((((HK1.out.set 0 (.int .i64 0)).set 1 (.int .i64 0)).set 2 (.int .i64 0)).set 3 (.string ⟨#[]⟩))
    · iterate 4 refine Below.setCell ?_ (by exact Nat.le_refl _) _
      exact HB.out
    · rw [h1]; rfl
  · rw [h1] at h
    obtain ⟨v, hv, rfl⟩ := h
    obtain rfl : v = x.v := hv
    simp only [DsR.v]
    go_wp2
    refine bodyPost_ret (results2 rfl ⟨_, rfl, loadVar_blk (cs := #[.int .i64 x.tag, .int .i64 x.alg, .int .i64 x.kind, .string x.dig]) (t := 126) ?_ Tryz.underlying126 rfl info_Ds⟩ rfl) rfl ⟨?_, ?_⟩
    · simpa using ((((HK1.out.set 0 (.int .i64 x.tag)).set 1 (.int .i64 x.alg)).set 2 (.int .i64 x.kind)).set 3 (.string x.dig))
    · iterate 4 refine Below.setCell ?_ (by exact Nat.le_refl _) _
      exact HB.out
    · rw [h1]; exact ⟨_, rfl, rfl⟩
end Go.Proofs.YtkhpcagoggglcaaGreatDoor

