/- Rows of bytes that a call appends to; digest.tell, digest.keys. -/
import Derived.Test.YtdmfbcfhfopipaaGreatDoorWord
import Derived.Test.YtdmfbcfhfopipaaGreatDoorLaws
import Derived.Test.YtdmfbcfhfopipaaGreatDoorLower
import Derived.Deep.AppendLies
import Derived.Maps.AppendAt
import Derived.OwnWalk
import Derived.Laws.Tables
import Derived.Deep.WholeRow
namespace Go.Proofs.YtdmfbcfhfopipaaGreatDoor
open Go.RowKit

section
variable {P : Program} {ops : Array Oper} {rest : List Oper} {o : Oper} {a : Act} {Q : Exit → Act → World → Prop}
theorem ownBase {w : World} {base size n : Nat} {e : TypeId} {v : Value} {xs : List Value} (h : w.ownsRow base e size v n xs) : ∀ k, v.ownBlock = some k → base ≤ k := by
  intro k hk
  rcases h.2 with ⟨rfl, _⟩ | ⟨g, cap, cur, rfl, hb, _⟩
  · cases hk
  · obtain rfl : g = k := by simpa [Value.ownBlock] using hk
    exact hb

/-- 'append(v, a, b ..)', the new ones in a block of their own. -/
theorem own_append {w0 W : World} (base : Nat) (cs : Array Value) (hgd : o.guard = none) (s x : Operand) (t e : TypeId) (z : Value) (bytes : Nat)
    (ho : o.op = .call { callee := .builtin .append, args := #[s, x], argTypes := #[t, t] })
    (ht : P.underlying t = some (.slice e)) (hinfo : (P.info? e).map (fun i => (i.zero, i.size, i.bytes)) = some (some z, 1, bytes)) (hz : z.cells.size = 1)
    (v : Value) (xs : List Value) (m c : Nat) (hs : a.eval s = v) (hx : a.eval x = .slice (some ⟨W.heap.size, 0, none⟩) m c) (hm : m = cs.size) (h1 : ∀ u ∈ cs.toList, u.oneCell' = true)
    (HO : W.ownsRow base e 1 v xs.length xs) (HB : Below base w0 W) (hbase : base ≤ W.heap.size) (hb0 : 0 < bytes) (hl : (xs.length + m) * bytes ≤ 140737488355328)
    (h : ∀ v1 w1, w1.ownsRow base e 1 v1 (xs ++ cs.toList).length (xs ++ cs.toList) → Below base w0 w1 → base ≤ w1.heap.size → wpList P ops Q rest (a.put o.dst v1) w1) :
    wpList P ops Q (o :: rest) a (W.alloc (.cells cs e)) := by
  obtain ⟨i0, hi, hzz⟩ := Option.map_eq_some_iff.1 hinfo
  simp only [Prod.mk.injEq] at hzz
  obtain ⟨hz0, hz1, hz2⟩ := hzz
  have hlen : xs.length + m ≤ 140737488355328 := Nat.le_trans (Nat.le_mul_of_pos_right _ hb0) hl
  refine wpList_append_own_at (W.alloc (.cells cs e)) hgd s x t ho base e i0 z 1 bytes ht hi hz0 hz1 hz2 hz (by omega) v xs.length xs hs (HO.alloc _) ⟨W.heap.size, 0, none⟩ m c cs.toList hx (by simp [hm])
    (World.news_of_block (cs := cs) (t := e) (fr := (0, 0)) (heap_alloc_new W _)) h1 (by simp only [maxLen]; omega) hl (by simp; omega) ?_
  intro v1 w1 hown hg _ hat
  have hB := (HB.alloc hbase (.cells cs e)).grown hg (by simp; omega) (ownBase HO)
  refine h v1 w1 (by simpa [hm] using hown) hB (Nat.le_trans (by simp; omega) hg.size)
end

def bv (b : UInt8) : Value := .int .u8 (b.toNat : Int)
/-- v holds these bytes, in a row of the call's own. -/
def OwnB (base : Nat) (v : Value) (l : List UInt8) (w : World) : Prop := w.ownsRow base 5 1 v l.length (l.map bv)
theorem OwnB.nil (base : Nat) (w : World) : OwnB base (.slice none 0 0) [] w := ⟨rfl, .inl ⟨rfl, rfl⟩⟩

theorem OwnB.string {base : Nat} {v : Value} {l : List UInt8} {w : World} (h : OwnB base v l w) : (convert 41 9 v).run Tryz.prog w = .ok (.string ⟨l.toArray⟩) w := by
  rcases h.2 with ⟨rfl, h0⟩ | ⟨g, cap, cur, rfl, _, hg, hn, _, hsz, htk⟩
  · obtain rfl : l = [] := List.eq_nil_of_length_eq_zero (by simpa using h0)
    exact run_convert_bytes_nil (P := Tryz.prog) w 41 5 Tryz.underlying41 Tryz.underlying5 0 0 9 Tryz.underlying9
  · have := run_convert_bytes_arg (P := Tryz.prog) w 41 5 Tryz.underlying41 Tryz.underlying5 g 0 l.length cap (l.map fun b => (b.toNat : Int)) (by simp) (by
      intro i hi
      rw [Nat.zero_add, cell_of_row w g i cur 5 (0, 0) hg]
      have e : cur.toList[i]? = (l.map bv)[i]? := by
        rw [← htk, List.getElem?_take, if_pos (by simpa using hi)]
      rw [← Array.getElem?_toList, e]
      simp [bv, hi]) 9 Tryz.underlying9
    have e : strOfNums (l.map fun b => (b.toNat : Int)) = ⟨l.toArray⟩ := by
      show (⟨((l.map fun b => (b.toNat : Int)).map fun n => UInt8.ofNat n.toNat).toArray⟩ : ByteArray) = ⟨l.toArray⟩
      rw [List.map_map]
      have e : ((fun n : Int => UInt8.ofNat n.toNat) ∘ fun b : UInt8 => (b.toNat : Int)) = id := by
        funext b
        simp
      rw [e, List.map_id]
    rw [this, e]

theorem info_u8b : (Tryz.prog.info? 5).map (fun i => (i.zero, i.size, i.bytes)) = some (some (.int .u8 0), 1, 1) := by kernel_rfl

theorem ownB_append {ops : Array Oper} {rest : List Oper} {o : Oper} {a : Act} {Q : Exit → Act → World → Prop} {base : Nat} {v : Value} {l : List UInt8} {w0 W : World} (HO : OwnB base v l W) (HB : Below base w0 W) (hbase : base ≤ W.heap.size) (bs : List UInt8) (hl : l.length + bs.length ≤ 140737488355328)
    (hgd : o.guard = none) (s x : Operand) (ho : o.op = .call { callee := .builtin .append, args := #[s, x], argTypes := #[41, 41] }) (cs : Array Value) (m c : Nat) (hs : a.eval s = v) (hx : a.eval x = .slice (some ⟨W.heap.size, 0, none⟩) m c) (hcs : cs = (bs.map bv).toArray) (hm : m = bs.length)
    (h : ∀ v1 w1, OwnB base v1 (l ++ bs) w1 → Below base w0 w1 → base ≤ w1.heap.size → wpList Tryz.prog ops Q rest (a.put o.dst v1) w1) : wpList Tryz.prog ops Q (o :: rest) a (W.alloc (.cells cs 5)) := by
  subst hcs hm
  refine own_append base _ hgd s x 41 5 (.int .u8 0) 1 ho Tryz.underlying41 info_u8b rfl v (l.map bv) bs.length c hs hx (by simp) (by intro u hu; simp at hu; obtain ⟨b, _, rfl⟩ := hu; rfl) (by simpa [OwnB] using HO) HB hbase (by omega) (by simpa using hl) ?_
  intro v1 w1 h1 h2 h3
  exact h v1 w1 (by simpa [OwnB] using h1) h2 h3

/-- Words in cells. -/
def encW (l : List W32) : Array Value := (l.map vw).toArray
theorem encW_size (l : List W32) : (encW l).size = l.length := by simp [encW]
theorem encW_get (l : List W32) (i : Nat) (h : i < l.length) : (encW l)[i]? = some (.int .u32 (wd (l.getD i 0))) := by
  simp [encW, vw, List.getD, List.getElem?_eq_getElem h]
theorem encW_set (l : List W32) (i : Nat) (x : W32) : (encW l).setIfInBounds i (.int .u32 (wd x)) = encW (l.set i x) := by
  simp [encW, vw, List.map_set]

def by8 (x : W32) : UInt8 := UInt8.ofNat x.toNat
theorem by8_int (x : W32) : wd x % 256 = ((by8 x).toNat : Int) := by simp [wd, by8]
/-- A word's four bytes. -/
def four (x : W32) : List UInt8 := [by8 (x >>> 24), by8 (x >>> 16), by8 (x >>> 8), by8 x]
def tellW (l : List W32) : List UInt8 := l.flatMap four
theorem tellW_len (l : List W32) : (tellW l).length = 4 * l.length := by
  induction l with
  | nil => rfl
  | cons a l ih => simp only [tellW, List.flatMap_cons, List.length_append, List.length_cons] at *; simp [four, ih]; omega
theorem tellW_take (l : List W32) (i : Nat) (h : i < l.length) : tellW (l.take (i + 1)) = tellW (l.take i) ++ four (l.getD i 0) := by
  rw [List.take_succ_eq_append_getElem h]
  simp only [tellW, List.flatMap_append, List.flatMap_cons, List.flatMap_nil, List.append_nil, List.getD, List.getElem?_eq_getElem h, Option.getD_some]

set_option maxRecDepth 100000 in
theorem tell_any (l : List W32) (g c : Nat) (t : TypeId) (w : World) (hl : l.length ≤ 4294967296) (hb : Blk w g (encW l) t) : Calls Tryz.prog 85 #[.slice (some ⟨g, 0, none⟩) l.length c] w fun e w' => e = .returned (.string ⟨(tellW l).toArray⟩) ∧ Below w.heap.size w w' := by
  have HC := Lib.hid (fun W (h : Below w.heap.size w W) i (hi : i < l.length) => show W.cell? ⟨g, i, none⟩ = some (.int .u32 (wd (l.getD i 0))) from by rw [(hb.below h hb.lt).cell i, encW_get l i hi])
  clear hb
  go_enter Tryz.func85, Tryz.ntmps85
  go_wp2
  go_loopw [3, 8] (fun v i wr => ∃ k : Nat, k ≤ l.length ∧ i = .int .i64 k ∧ Hid (OwnB w.heap.size v (tellW (l.take k)) wr) ∧ Hid (Below w.heap.size w wr ∧ w.heap.size ≤ wr.heap.size)) (fun _ i _ => l.length - (intOf i).toNat)
  case atStart => exact ⟨0, Nat.zero_le _, rfl, Lib.hid (OwnB.nil _ _), Lib.hid ⟨Below.refl _ _, Nat.le_refl _⟩⟩
  case round =>
    obtain ⟨k, hk, rfl, hO, hB⟩ := hrel
    by_cases hlt : k < l.length
    · have hcell := HC.out wr hB.out.1 k hlt
      generalize hx : l.getD k 0 = x at hcell
      have Hx := Lib.hid hx; clear hx
      have s1 : wd x / (16777216 : Int) = wd (x >>> (24 : Nat)) := wd_shr x 24
      have s2 : wd x / (65536 : Int) = wd (x >>> (16 : Nat)) := wd_shr x 16
      have s3 : wd x / (256 : Int) = wd (x >>> (8 : Nat)) := wd_shr x 8
      have s4 := by8_int
      have hlk := (tellW_len (l.take k)).trans (by rw [List.length_take, Nat.min_eq_left hk])
      have HL := Lib.hid hlk; clear hlk
      have info := info_u8b
      go_wp2_with (at_builtin; go_loud (refine ownB_append hO.out hB.out.1 hB.out.2 (four x) (by have := HL.out; simp only [four, List.length_cons, List.length_nil]; omega) rfl _ _ rfl _ 4 4 rfl rfl rfl rfl ?_))
      intro v1 w1 h1 h2 h3
      have ht : tellW (l.take (k + 1)) = tellW (l.take k) ++ four x := by rw [tellW_take l k hlt, Hx.out]
      rw [← ht] at h1
      have H1 := Lib.hid h1; have H2 := Lib.hid (And.intro h2 h3)
      clear h1 h2 h3 ht hO hB
      go_wp2
      go_roundw
      case rel => exact ⟨k + 1, by omega, by go_num, H1, H2⟩
      case measure => simp [intOf]; omega
    · obtain rfl : k = l.length := by omega
      rw [List.take_length] at hO
      have hcv := hO.out.string
      have HV := Lib.hid hB.out.1
      go_wp2
      go_ret
      exact ⟨rfl, HV.out⟩

/-- The words of the rounds of SHA-256. -/
def K256 : List W32 := [0x428a2f98, 0x71374491, 0xb5c0fbcf, 0xe9b5dba5, 0x3956c25b, 0x59f111f1, 0x923f82a4, 0xab1c5ed5, 0xd807aa98, 0x12835b01, 0x243185be, 0x550c7dc3, 0x72be5d74, 0x80deb1fe, 0x9bdc06a7, 0xc19bf174,
  0xe49b69c1, 0xefbe4786, 0x0fc19dc6, 0x240ca1cc, 0x2de92c6f, 0x4a7484aa, 0x5cb0a9dc, 0x76f988da, 0x983e5152, 0xa831c66d, 0xb00327c8, 0xbf597fc7, 0xc6e00bf3, 0xd5a79147, 0x06ca6351, 0x14292967,
  0x27b70a85, 0x2e1b2138, 0x4d2c6dfc, 0x53380d13, 0x650a7354, 0x766a0abb, 0x81c2c92e, 0x92722c85, 0xa2bfe8a1, 0xa81a664b, 0xc24b8b70, 0xc76c51a3, 0xd192e819, 0xd6990624, 0xf40e3585, 0x106aa070,
  0x19a4c116, 0x1e376c08, 0x2748774c, 0x34b0bcb5, 0x391c0cb3, 0x4ed8aa4a, 0x5b9cca4f, 0x682e6ff3, 0x748f82ee, 0x78a5636f, 0x84c87814, 0x8cc70208, 0x90befffa, 0xa4506ceb, 0xbef9a3f7, 0xc67178f2]
theorem K256_enc : encW K256 = #[.int .u32 1116352408, .int .u32 1899447441, .int .u32 3049323471, .int .u32 3921009573, .int .u32 961987163, .int .u32 1508970993, .int .u32 2453635748, .int .u32 2870763221, .int .u32 3624381080, .int .u32 310598401, .int .u32 607225278, .int .u32 1426881987, .int .u32 1925078388, .int .u32 2162078206, .int .u32 2614888103, .int .u32 3248222580,
  .int .u32 3835390401, .int .u32 4022224774, .int .u32 264347078, .int .u32 604807628, .int .u32 770255983, .int .u32 1249150122, .int .u32 1555081692, .int .u32 1996064986, .int .u32 2554220882, .int .u32 2821834349, .int .u32 2952996808, .int .u32 3210313671, .int .u32 3336571891, .int .u32 3584528711, .int .u32 113926993, .int .u32 338241895,
  .int .u32 666307205, .int .u32 773529912, .int .u32 1294757372, .int .u32 1396182291, .int .u32 1695183700, .int .u32 1986661051, .int .u32 2177026350, .int .u32 2456956037, .int .u32 2730485921, .int .u32 2820302411, .int .u32 3259730800, .int .u32 3345764771, .int .u32 3516065817, .int .u32 3600352804, .int .u32 4094571909, .int .u32 275423344,
  .int .u32 430227734, .int .u32 506948616, .int .u32 659060556, .int .u32 883997877, .int .u32 958139571, .int .u32 1322822218, .int .u32 1537002063, .int .u32 1747873779, .int .u32 1955562222, .int .u32 2024104815, .int .u32 2227730452, .int .u32 2361852424, .int .u32 2428436474, .int .u32 2756734187, .int .u32 3204031479, .int .u32 3329325298] := by
  rfl

theorem K256_ones : (encW K256).all (·.oneCell') = true := by kernel_rfl
theorem info_K256 : (Tryz.prog.info? 125).map (·.size) = some (encW K256).size := by kernel_rfl
set_option maxRecDepth 100000 in
theorem keys_any (w : World) : Calls Tryz.prog 80 #[] w fun e w' => e = .returned (.agg (encW K256)) ∧ Below w.heap.size w w' := by
  go_enter Tryz.func80, Tryz.ntmps80
  apply wp_seq
  apply wp_region
  change wpList _ _ _ (_ :: []) _ _
  refine wpList_alloc rfl _ rfl (.agg (encW (List.replicate 64 0))) (fun w => by kernel_rfl) ?_
  change Code.wp _ _ _ _ _
  apply wp_seq
  apply wp_region
  change wpList _ _ _ (_ :: _ :: []) _ _
  refine wpList_build rfl 125 _ rfl (by kernel_rfl) ?_
  refine wpList_store_row rfl 125 _ _ rfl w.heap.size (encW K256) rfl (congrArg Value.agg (by kernel_rfl)) 125 (encW (List.replicate 64 0)) (Blk.new w _ _) info_K256 rfl K256_ones ?_
  change Code.wp _ _ _ _ _
  rw [World.setRow_alloc_new]
  have hl := loadVar_blk (P := Tryz.prog) (ty := 125) (Blk.new w (encW K256) 125) Tryz.underlying125 rfl info_K256
  apply wp_ret
  refine ⟨by rfl, .agg (encW K256), results1 rfl (r := .cell 0 125) ⟨⟨w.heap.size, 0, none⟩, by rfl, hl⟩, rfl, (Below.refl _ w).alloc (Nat.le_refl _) _⟩
end Go.Proofs.YtdmfbcfhfopipaaGreatDoor
