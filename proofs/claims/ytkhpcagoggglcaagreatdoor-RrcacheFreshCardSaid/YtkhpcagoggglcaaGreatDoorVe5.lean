import Derived.Test.YtkhpcagoggglcaaGreatDoorVe4
import Derived.Test.YtkhpcagoggglcaaGreatDoorVe2
import Derived.Test.YtkhpcagoggglcaaGreatDoorVe1
import Derived.Test.YtkhpcagoggglcaaGreatDoorRep
import Derived.Deep.RegionWith
import Derived.Recover
import Derived.Defers
import Derived.Laws.EntriesVeiled
import Derived.Test.YtkhpcagoggglcaaGreatDoorVe3
/- The document's own reader of a name (its chapter 1): its labels, and whether it is one. -/
namespace Go.Proofs.YtkhpcagoggglcaaGreatDoor
open Go.RowKit

/-- v holds these texts, in a row of the call's own. -/
def OwnS (base : Nat) (v : Value) (l : List ByteArray) (w : World) : Prop := w.ownsRow base 9 1 v l.length (l.map .string)
theorem OwnS.nil (base : Nat) (w : World) : OwnS base (.slice none 0 0) [] w := ⟨rfl, .inl ⟨rfl, rfl⟩⟩
theorem info_str : (Tryz.prog.info? 9).map (fun i => (i.zero, i.size, i.bytes)) = some (some (.string ⟨#[]⟩), 1, 16) := by kernel_rfl
theorem ownS_append {ops : Array Oper} {rest : List Oper} {o : Oper} {a : Act} {Q : Exit → Act → World → Prop} {base : Nat} {v : Value} {l : List ByteArray} {w0 W : World} (HO : OwnS base v l W) (HB : Below base w0 W) (hbase : base ≤ W.heap.size) (x : ByteArray) (hl : l.length + 1 ≤ 1000000)
    (hgd : o.guard = none) (s y : Operand) (ho : o.op = .call { callee := .builtin .append, args := #[s, y], argTypes := #[28, 28] }) (cs : Array Value) (m c : Nat) (hs : a.eval s = v) (hx : a.eval y = .slice (some ⟨W.heap.size, 0, none⟩) m c) (hcs : cs = #[.string x]) (hm : m = 1)
    (h : ∀ v1 w1, OwnS base v1 (l ++ [x]) w1 → Below base w0 w1 → base ≤ w1.heap.size → wpList Tryz.prog ops Q rest (a.put o.dst v1) w1) : wpList Tryz.prog ops Q (o :: rest) a (W.alloc (.cells cs 9)) := by
  subst hcs hm
  refine own_append base _ hgd s y 28 9 (.string ⟨#[]⟩) 16 ho Tryz.underlying28 info_str rfl v (l.map .string) 1 c hs hx (by simp) (by intro u hu; simp at hu; obtain rfl := hu; rfl) (by simpa [OwnS] using HO) HB hbase (by omega) (by simp; omega) ?_
  intro v1 w1 h1 h2 h3
  exact h v1 w1 (by simpa [OwnS] using h1) h2 h3

/-- What the reader has taken so far: the names of its labels, up to place p. -/
structure LabSt (s : ByteArray) (pre : List (Nat × ByteArray)) (f p : Nat) : Prop where
  all : labels s = pre ++ labs s f p
  fin : endOf pre = p
  fuel : s.size < p + f
  len : pre.length ≤ p
theorem LabSt.start (s : ByteArray) : LabSt s [] (s.size + 1) 0 := ⟨rfl, rfl, by omega, Nat.le_refl _⟩
theorem LabSt.end_ {s : ByteArray} {pre : List (Nat × ByteArray)} {f p : Nat} (h : LabSt s pre f p) (hl : labs s f p = []) : labels s = pre ∧ nameEnd s = p := by
  have h1 : labels s = pre := by rw [h.all, hl, List.append_nil]
  exact ⟨h1, by rw [nameEnd, h1]; exact h.fin⟩
theorem labs_stop {s : ByteArray} {f p : Nat} (h : ¬ (p < s.size ∧ byt s p ≠ 0 ∧ (byt s p).toNat ≤ 63 ∧ p + 1 + (byt s p).toNat ≤ s.size)) : labs s f p = [] := by
  cases f with
  | zero => rfl
  | succ f => rw [labs, if_neg h]
theorem LabSt.next {s : ByteArray} {pre : List (Nat × ByteArray)} {f p : Nat} (h : LabSt s pre f p) (hp : p < s.size) (h0 : (byt s p).toNat ≠ 0) (h63 : (byt s p).toNat ≤ 63) (hs : p + 1 + (byt s p).toNat ≤ s.size) :
    ∃ g, LabSt s (pre ++ [(p, s.extract (p + 1) (p + 1 + (byt s p).toNat))]) g (p + 1 + (byt s p).toNat) := by
  obtain ⟨f, rfl⟩ : ∃ g, f = g + 1 := ⟨f - 1, by have := h.fuel; omega⟩
  have hne : byt s p ≠ 0 := fun e => h0 (by rw [e]; rfl)
  refine ⟨f, ?_, ?_, by have := h.fuel; omega, ?_⟩
  · rw [h.all, labs, if_pos ⟨hp, hne, h63, hs⟩]; simp
  · rw [endOf_snoc]
    have e : (s.extract (p + 1) (p + 1 + (byt s p).toNat)).size = (byt s p).toNat := by rw [ByteArray.size_extract]; omega
    show p + 1 + (s.extract (p + 1) (p + 1 + (byt s p).toNat)).size = _
    rw [e]
  · have := h.len; simp; omega
theorem right_at {s : ByteArray} {p : Nat} (h : nameEnd s = p) (h255 : s.size ≤ 255) : nameRight s = (decide (p + 1 = s.size) && (byt s p == 0)) := by
  rw [nameRight, h]
  by_cases e : p + 1 = s.size
  · rw [decide_eq_true e, decide_eq_true (by omega)]; rfl
  · rw [decide_eq_false e]; simp

def LabPost (s : ByteArray) (w : World) (e : Ending) (w' : World) : Prop :=
  Below w.heap.size w w' ∧ ∃ v, e = .returned (.tuple #[v, .bool (nameRight s)]) ∧ (nameRight s = true → OwnS w.heap.size v ((labels s).map (·.2)) w')

theorem labPost_no {s : ByteArray} {w w' : World} {v : Value} (hb : Below w.heap.size w w') (hr : nameRight s = false) : LabPost s w (.returned (.tuple #[v, .bool false])) w' :=
  ⟨hb, v, by rw [hr], fun h => by rw [hr] at h; cases h⟩
theorem labPost_yes {s : ByteArray} {w w' : World} {v : Value} (hb : Below w.heap.size w w') (hr : nameRight s = true) (ho : OwnS w.heap.size v ((labels s).map (·.2)) w') : LabPost s w (.returned (.tuple #[v, .bool true])) w' :=
  ⟨hb, v, by rw [hr], fun _ => ho⟩

end Go.Proofs.YtkhpcagoggglcaaGreatDoor

/- digest.blocks: what a text is made up to, block by block, whatever is called with each. -/
namespace Go.Proofs.YtkhpcagoggglcaaGreatDoor
open Go.RowKit

/-- A text of these bytes. -/
def bs (l : List UInt8) : ByteArray := ⟨l.toArray⟩
theorem bs_toList (s : ByteArray) : bs s.data.toList = s := by cases s; simp [bs]
theorem bs_size (l : List UInt8) : (bs l).size = l.length := by simp [bs, ByteArray.size]
theorem bs_append (l m : List UInt8) : bs l ++ bs m = bs (l ++ m) := by
  apply ByteArray.ext
  simp [bs, ByteArray.data_append]
theorem byt_bs (l : List UInt8) (k : Nat) : byt (bs l) k = l.getD k 0 := by simp [byt, bs]

/-- The length, in eight bytes, the first m of them. -/
def lenB (N m : Nat) : List UInt8 := (List.range m).map fun i => UInt8.ofNat (N / 2 ^ (56 - 8 * i))
def padT (n : Nat) : List UInt8 := 128 :: List.replicate ((119 - n % 64) % 64) 0
def padL (l : List UInt8) : List UInt8 := l ++ (padT l.length ++ lenB (8 * l.length % 18446744073709551616) 8)
def word4 (a b c d : UInt8) : W32 := (((BitVec.ofNat 32 a.toNat <<< (24 : Nat)) ||| (BitVec.ofNat 32 b.toNat <<< (16 : Nat))) ||| (BitVec.ofNat 32 c.toNat <<< (8 : Nat))) ||| BitVec.ofNat 32 d.toNat
def wordsN (l : List UInt8) (k : Nat) : List W32 := (List.range k).map fun i => word4 (l.getD (4 * i) 0) (l.getD (4 * i + 1) 0) (l.getD (4 * i + 2) 0) (l.getD (4 * i + 3) 0)
/-- Block by block. -/
def foldB {α : Type} (f : α → List W32 → α) : Nat → α → List UInt8 → α
  | 0, st, _ => st
  | n + 1, st, l => foldB f n (f st (wordsN l 16)) (l.drop 64)

theorem padL_len (l : List UInt8) : (padL l).length % 64 = 0 := by
  simp only [padL, padT, lenB, List.length_append, List.length_cons, List.length_replicate, List.length_map, List.length_range]
  omega

theorem lenB_succ (N m : Nat) : lenB N (m + 1) = lenB N m ++ [UInt8.ofNat (N / 2 ^ (56 - 8 * m))] := by simp [lenB, List.range_succ]

theorem repeatL_one (x : UInt8) (c : Nat) : Lib.repeatL [x] c = List.replicate c x := by
  induction c with
  | zero => rfl
  | succ c ih => simp [Lib.repeatL, ih, List.replicate_succ] at *
theorem conv_byte (W : World) (b : UInt8) : (convert 82 9 (.slice (some ⟨W.heap.size, 0, none⟩) 1 1)).run Tryz.prog (W.alloc (.cells #[.int .u8 (b.toNat : Int)] 5)) = .ok (.string (bs [b])) (W.alloc (.cells #[.int .u8 (b.toNat : Int)] 5)) :=
  conv_bytes_string _ W.heap.size 1 1 (bs [b]) (by
    have := Blk.new W #[.int .u8 (b.toNat : Int)] 5
    simpa [encS, bs] using this) rfl

theorem run_loadCells_blk {P : Program} {w : World} {b : Nat} {cs : Array Value} {t : TypeId} (h : Blk w b cs t) (n : Nat) (hn : cs.size = n) : (loadCellsFrom ⟨b, 0, none⟩ 0 n #[]).run P w = .ok cs w := by
  subst hn
  have := run_loadCells_list (P := P) w ⟨b, 0, none⟩ cs.toList (fun j v hv => by
    have hadd : (⟨b, 0, none⟩ : Addr).add j = ⟨b, j, none⟩ := by unfold Addr.add; split <;> simp_all
    rw [hadd, h.cell]
    simpa using hv)
  simpa [loadCells] using this

theorem bs_get (l : List UInt8) (k : Nat) (h : k < (bs l).size) : (bs l)[k]'h = l.getD k 0 := by
  rw [← byt_bs]
  exact byt_get _ _ h
theorem bs_drop (l : List UInt8) (k : Nat) : (bs l).extract k l.length = bs (l.drop k) := by
  apply ByteArray.ext
  simp only [bs, ByteArray.data_extract, List.extract_toArray, List.extract_eq_take_drop]
  rw [List.take_of_length_le (by simp)]
theorem bs_ne {l : List UInt8} (h : l ≠ []) : ¬ bs l = ⟨#[]⟩ := by
  intro e
  have := congrArg ByteArray.size e
  rw [bs_size] at this
  exact h (List.eq_nil_of_length_eq_zero (by simpa [ByteArray.size] using this))

/-- The first i words of a text, and noughts. -/
def part4 (l : List UInt8) (i : Nat) : List W32 := wordsN l i ++ List.replicate (16 - i) 0
theorem part4_len (l : List UInt8) (i : Nat) (h : i ≤ 16) : (part4 l i).length = 16 := by simp [part4, wordsN]; omega
theorem part4_step (l : List UInt8) (i : Nat) (h : i < 16) : part4 l (i + 1) = (part4 l i).set i (word4 (l.getD (4 * i) 0) (l.getD (4 * i + 1) 0) (l.getD (4 * i + 2) 0) (l.getD (4 * i + 3) 0)) := by
  have e1 : (wordsN l i).length = i := by simp [wordsN]
  rw [part4, part4, show 16 - i = (16 - (i + 1)) + 1 by omega, List.replicate_succ, List.set_append, if_neg (by omega), e1, Nat.sub_self, List.set_cons_zero]
  simp [wordsN, List.range_succ]
theorem part4_all (l : List UInt8) : part4 l 16 = wordsN l 16 := by simp [part4]

theorem or_byte (X : W32) (d : UInt8) : bits .or .u32 (wd X) (d.toNat : Int) = wd (X ||| BitVec.ofNat 32 d.toNat) := by
  rw [← wd_or, wd_lit _ (by have := d.toNat_lt; omega)]
theorem shl_byte (a : UInt8) (n : Nat) : (a.toNat : Int) * 2 ^ n % 4294967296 = wd (BitVec.ofNat 32 a.toNat <<< n) := by
  rw [← wd_shl, wd_lit _ (by have := a.toNat_lt; omega)]

def strLen : Value → Nat
  | .string s => s.size
  | _ => 0
theorem word4_val (a b c d : UInt8) : bits .or .u32 (bits .or .u32 (bits .or .u32 ((a.toNat : Int) % 4294967296 * 16777216 % 4294967296) ((b.toNat : Int) % 4294967296 * 65536 % 4294967296)) ((c.toNat : Int) % 4294967296 * 256 % 4294967296)) ((d.toNat : Int) % 4294967296) = wd (word4 a b c d) := by
  have m (x : UInt8) : (x.toNat : Int) % 4294967296 = (x.toNat : Int) := by have := x.toNat_lt; omega
  have s24 := shl_byte a 24; have s16 := shl_byte b 16; have s8 := shl_byte c 8
  rw [show ((2 : Int) ^ 24) = 16777216 from rfl] at s24
  rw [show ((2 : Int) ^ 16) = 65536 from rfl] at s16
  rw [show ((2 : Int) ^ 8) = 256 from rfl] at s8
  rw [m, m, m, m, s24, s16, s8, wd_or, wd_or, or_byte]
  rfl
theorem foldB_succ {α : Type} (f : α → List W32 → α) (n : Nat) (st : α) (l : List UInt8) : foldB f (n + 1) st l = foldB f n (f st (wordsN l 16)) (l.drop 64) := rfl

end Go.Proofs.YtkhpcagoggglcaaGreatDoor

/- The document's own small letters of a name (its chapter 1): it is the program's. -/
namespace Go.Proofs.YtkhpcagoggglcaaGreatDoor
open Go.RowKit

theorem OwnS.cell {base : Nat} {v : Value} {l : List ByteArray} {w : World} (h : OwnS base v l w) (hl : l ≠ []) :
    ∃ g c, v = .slice (some ⟨g, 0, none⟩) l.length c ∧ base ≤ g ∧ g < w.heap.size ∧ ∀ i (hi : i < l.length), w.cell? ⟨g, i, none⟩ = some (.string l[i]) := by
  rcases h.2 with ⟨rfl, h0⟩ | ⟨g, cap, cur, rfl, hb, hg, hn, _, hsz, htk⟩
  · exact absurd (List.eq_nil_of_length_eq_zero (by simpa using h0)) hl
  · refine ⟨g, cap, rfl, hb, lt_of_block hg, fun i hi => ?_⟩
    rw [cell_of_row w g i cur 9 (0, 0) hg]
    have e : cur.toList[i]? = (l.map Value.string)[i]? := by
      rw [← htk, List.getElem?_take, if_pos (by simpa using hi)]
    rw [← Array.getElem?_toList, e]
    simp [hi]
theorem OwnS.len {base : Nat} {v : Value} {l : List ByteArray} {w : World} (h : OwnS base v l w) : ∃ A c, v = .slice A l.length c := by
  rcases h.2 with ⟨rfl, h0⟩ | ⟨g, cap, cur, rfl, hb, hg, hn, _, hsz, htk⟩
  · exact ⟨none, 0, by rw [show l.length = 0 by simpa using h0]⟩
  · exact ⟨_, _, rfl⟩

def joinL (l : List ByteArray) : List UInt8 := l.flatMap fun x => UInt8.ofNat x.size :: x.data.toList
def joinS (l : List ByteArray) : List UInt8 := l.flatMap fun x => UInt8.ofNat x.size :: x.data.toList.map smallB
def lowT (l : List ByteArray) (k : Nat) : ByteArray := bs (joinS (l.take k))
theorem lowT_next (l : List ByteArray) (k : Nat) (h : k < l.length) : lowT l (k + 1) = (lowT l k ++ bs [UInt8.ofNat l[k].size]) ++ lowS l[k] := by
  rw [lowT, lowT, List.take_succ_eq_append_getElem h]
  simp only [joinS, List.flatMap_append, List.flatMap_cons, List.flatMap_nil, List.append_nil]
  have e : lowS l[k] = bs (l[k].data.toList.map smallB) := by
    show (⟨l[k].data.map smallB⟩ : ByteArray) = ⟨(l[k].data.toList.map smallB).toArray⟩
    congr 1
    apply Array.toList_inj.1
    rw [Array.toList_map]
  rw [e, bs_append, bs_append, List.append_assoc]
  rfl
theorem smallB_little (n : Nat) (h : n ≤ 63) : smallB (UInt8.ofNat n) = UInt8.ofNat n := by
  unfold smallB
  rw [if_neg]
  intro h1
  have := h1.1
  rw [UInt8.le_iff_toNat_le] at this
  have e : (UInt8.ofNat n).toNat = n := by simp; omega
  rw [e] at this
  have : (65 : UInt8).toNat = 65 := rfl
  omega
theorem joinS_eq (l : List ByteArray) (h : ∀ x ∈ l, x.size ≤ 63) : joinS l = (joinL l).map smallB := by
  induction l with
  | nil => rfl
  | cons x l ih =>
    have hx := smallB_little x.size (h x (by simp))
    simp only [joinS, joinL, List.flatMap_cons, List.map_append, List.map_cons, hx] at *
    rw [ih (fun y hy => h y (by simp [hy]))]
theorem labs_join (s : ByteArray) : ∀ (f p : Nat), p ≤ s.size → ∃ e, p ≤ e ∧ e ≤ s.size ∧ (labs s f p = [] → e = p) ∧ (labs s f p ≠ [] → e = endOf (labs s f p)) ∧ joinL ((labs s f p).map (·.2)) = (s.data.toList.drop p).take (e - p) := by
  intro f
  induction f with
  | zero => intro p hp; exact ⟨p, Nat.le_refl _, hp, fun _ => rfl, fun h => absurd rfl h, by simp [labs, joinL]⟩
  | succ f ih =>
    intro p hp
    by_cases hc : p < s.size ∧ byt s p ≠ 0 ∧ (byt s p).toNat ≤ 63 ∧ p + 1 + (byt s p).toNat ≤ s.size
    · have e1 : labs s (f + 1) p = (p, s.extract (p + 1) (p + 1 + (byt s p).toNat)) :: labs s f (p + 1 + (byt s p).toNat) := by rw [labs, if_pos hc]
      obtain ⟨e, h1, h2, h3, h4, h5⟩ := ih (p + 1 + (byt s p).toNat) hc.2.2.2
      have hsz : (s.extract (p + 1) (p + 1 + (byt s p).toNat)).size = (byt s p).toNat := by rw [ByteArray.size_extract]; omega
      refine ⟨e, by omega, h2, (by rw [e1]; intro h; cases h), ?_, ?_⟩
      · intro _
        rw [e1]
        by_cases hr : labs s f (p + 1 + (byt s p).toNat) = []
        · rw [hr, h3 hr]
          show _ = p + 1 + (s.extract (p + 1) (p + 1 + (byt s p).toNat)).size
          rw [hsz]
        · rw [h4 hr]
          unfold endOf
          obtain ⟨y, ys, hy⟩ := List.exists_cons_of_ne_nil hr
          rw [hy, List.getLast?_cons_cons]
      · rw [e1]
        have hn : (s.extract (p + 1) (p + 1 + (byt s p).toNat)).data.toList = (s.data.toList.drop (p + 1)).take (byt s p).toNat := by
          rw [ByteArray.data_extract, Array.toList_extract, List.extract_eq_take_drop]
          congr 1; omega
        have h6 : joinL (((p, s.extract (p + 1) (p + 1 + (byt s p).toNat)) :: labs s f (p + 1 + (byt s p).toNat)).map (·.2)) = (UInt8.ofNat (byt s p).toNat :: (s.data.toList.drop (p + 1)).take (byt s p).toNat) ++ joinL ((labs s f (p + 1 + (byt s p).toNat)).map (·.2)) := by
          simp only [joinL, List.map_cons, List.flatMap_cons, hsz, hn]
        rw [h6, h5]
        have hd : s.data.toList.drop p = byt s p :: s.data.toList.drop (p + 1) := by
          rw [List.drop_eq_getElem_cons (by simpa using hc.1)]
          congr 1
          simp [byt, List.getD, List.getElem?_eq_getElem (show p < s.data.toList.length by simpa using hc.1)]
        rw [hd, show e - p = (e - (p + 1 + (byt s p).toNat)) + (byt s p).toNat + 1 by omega, List.take_succ_cons]
        have hof : UInt8.ofNat (byt s p).toNat = byt s p := by simp
        rw [hof, List.cons_append]
        congr 1
        rw [Nat.add_comm (e - _) (byt s p).toNat, List.take_add, List.drop_drop]
    · have e1 : labs s (f + 1) p = [] := labs_stop hc
      rw [e1]
      exact ⟨p, Nat.le_refl _, hp, fun _ => rfl, fun h => absurd rfl h, by simp [joinL]⟩
theorem joinS_len (l : List ByteArray) : l.length ≤ (joinS l).length := by
  induction l with
  | nil => simp
  | cons x l ih => simp only [joinS, List.flatMap_cons, List.length_append, List.length_cons, List.length_map] at *; omega
theorem lowT_size (l : List ByteArray) (h : ∀ x ∈ l, x.size ≤ 63) (k : Nat) (hk : k ≤ l.length) : (lowT l k).size ≤ 64 * k := by
  rw [lowT, bs_size]
  induction k with
  | zero => simp [joinS]
  | succ k ih =>
    have h1 := ih (by omega)
    have h2 := h _ (List.getElem_mem (show k < l.length by omega))
    rw [List.take_succ_eq_append_getElem (by omega)]
    simp only [joinS, List.flatMap_append, List.flatMap_cons, List.flatMap_nil, List.append_nil, List.length_append, List.length_cons, List.length_map] at *
    have e : (l[k].data.toList).length = l[k].size := by simp
    omega
theorem lowT_room {s : ByteArray} {ls : List ByteArray} (h : lowT ls ls.length ++ ⟨#[0]⟩ = lowS s) (hs : s.size ≤ 255) : ls.length ≤ 255 := by
  have h1 := congrArg ByteArray.size h
  rw [ByteArray.size_append, size_lowS, lowT, bs_size, List.take_length] at h1
  have := joinS_len ls
  omega
theorem labels_len (s : ByteArray) : ∀ x ∈ (labels s).map (·.2), x.size ≤ 63 := by
  intro x hx
  obtain ⟨y, hy, rfl⟩ := List.mem_map.1 hx
  exact (labels_le s y hy).2.2.2.1
theorem lowT_all {s : ByteArray} (h : nameRight s = true) : lowT ((labels s).map (·.2)) ((labels s).map (·.2)).length ++ ⟨#[0]⟩ = lowS s := by
  obtain ⟨e, h1, h2, h3, h4, h5⟩ := labs_join s (s.size + 1) 0 (Nat.zero_le _)
  have he : e = nameEnd s := by
    show e = endOf (labels s)
    by_cases hn : labels s = []
    · rw [h3 hn, hn]; rfl
    · exact h4 hn
  have hj : joinL ((labels s).map (·.2)) = s.data.toList.take (nameEnd s) := by
    have := h5
    rw [he, Nat.sub_zero, List.drop_zero] at this
    exact this
  simp only [nameRight, Bool.and_eq_true, decide_eq_true_eq, beq_iff_eq] at h
  obtain ⟨⟨_, hz⟩, h0⟩ := h
  have hs : s.data.toList = s.data.toList.take (nameEnd s) ++ [0] := by
    have hl : nameEnd s < s.data.toList.length := by simp; omega
    have h7 := List.take_succ_eq_append_getElem hl
    rw [List.take_of_length_le (by simp; omega)] at h7
    have h8 : s.data.toList[nameEnd s] = 0 := by simpa [byt, List.getD, List.getElem?_eq_getElem hl] using h0
    rw [h8] at h7
    exact h7
  rw [lowT, List.take_length, joinS_eq _ (labels_len s), hj]
  have e2 : (⟨#[0]⟩ : ByteArray) = bs [0] := rfl
  rw [e2, bs_append]
  show bs _ = ⟨s.data.map smallB⟩
  have e3 : s.data.map smallB = (s.data.toList.map smallB).toArray := by
    apply Array.toList_inj.1
    rw [Array.toList_map]
  rw [e3]
  show bs _ = bs _
  congr 1
  have e4 := congrArg (List.map smallB) hs
  rw [e4, List.map_append]
  rfl

theorem held_alloc {W : World} {g k : Nat} {v : Value} {o : Obj} (h : W.cell? ⟨g, k, none⟩ = some v) (hg : g < W.heap.size) : (W.alloc o).drew.cell? ⟨g, k, none⟩ = some v := by
  show (W.alloc o).cell? _ = _
  rw [World.cell?_alloc_old _ _ _ (Nat.ne_of_lt hg)]; exact h
theorem held_lt {W : World} {g : Nat} {o : Obj} (hg : g < W.heap.size) : g < (W.alloc o).drew.heap.size := by simp; omega
theorem held_call {W W' : World} {g k : Nat} {v : Value} (h : W.cell? ⟨g, k, none⟩ = some v) (hg : g < W.heap.size) (hb : Below W.heap.size W W') : W'.cell? ⟨g, k, none⟩ = some v ∧ g < W'.heap.size :=
  ⟨by rw [hb.cell (p := ⟨g, k, none⟩) hg]; exact h, Nat.lt_of_lt_of_le hg hb.size⟩
theorem held_new {W W' : World} {v : Value} {t : TypeId} (hb : Below (W.alloc (.cells #[v] t)).drew.heap.size (W.alloc (.cells #[v] t)).drew W') : W'.cell? ⟨W.heap.size, 0, none⟩ = some v := by
  have h := (Blk.new W #[v] t).drew.below hb (by simp)
  exact h.cell 0
theorem held_end1 {W0 W W' : World} {o : Obj} (h : Below W0.heap.size W0 W) (hb : Below (W.alloc o).drew.heap.size (W.alloc o).drew W') : Below W0.heap.size W0 W' := by
  have h1 := (h.alloc h.size o).drew
  exact h1.trans (hb.mono h1.size)
theorem held_end2 {W0 W W' : World} (h : Below W0.heap.size W0 W) (hb : Below W.drew.heap.size W.drew W') (o : Obj) : Below W0.heap.size W0 (W'.alloc o) := by
  have h1 := h.drew.trans (hb.mono h.drew.size)
  exact h1.alloc h1.size o
theorem conv_one (x : ByteArray) (W : World) (g : Nat) (hc : W.cell? ⟨g, 0, none⟩ = some (.int .u8 (x.size : Int))) :
    (convert 82 9 (.slice (some ⟨g, 0, none⟩) 1 1)).run Tryz.prog W = .ok (.string (bs [UInt8.ofNat x.size])) W := by
  have := run_convert_bytes_arg (P := Tryz.prog) W 82 5 Tryz.underlying82 Tryz.underlying5 g 0 1 1 [(x.size : Int)] (by simp) (by
    intro i hi
    obtain rfl : i = 0 := by omega
    rw [Nat.zero_add, hc]; rfl) 9 Tryz.underlying9
  rw [this]
  rfl

end Go.Proofs.YtkhpcagoggglcaaGreatDoor

/- data.texts: what TXT has: texts, each behind its length. -/
namespace Go.Proofs.YtkhpcagoggglcaaGreatDoor
open Go.RowKit

def textsG : Nat → List ByteArray → ByteArray → Option (List ByteArray)
  | 0, acc, s => if s.size = 0 then some acc else none
  | f + 1, acc, s => if s.size = 0 then some acc else
    match numT 1 s with
    | none => none
    | some (n, s1) => match bytesT n.toNat s1 with
      | none => none
      | some (x, s2) => textsG f (acc ++ [x]) s2
def textsT (s : ByteArray) : Option (List ByteArray × ByteArray) := if s.size = 0 then none else (textsG s.size [] s).map fun l => (l, ⟨#[]⟩)
def textsV (lo : Nat) (l : List ByteArray) (w : World) (v : Value) : Prop := OwnS lo v l w
theorem OwnS.block {base : Nat} {v : Value} {l : List ByteArray} {w w' : World} (h : OwnS base v l w) (hb : ∀ k, base ≤ k → k < w.heap.size → w'.heap[k]? = w.heap[k]?) : OwnS base v l w' := by
  refine ⟨h.1, ?_⟩
  rcases h.2 with h1 | ⟨g, cap, cur, h1, h2, h3, h4⟩
  · exact .inl h1
  · exact .inr ⟨g, cap, cur, h1, h2, by rw [hb g h2 (lt_of_block h3)]; exact h3, h4⟩
theorem OwnS.lift {lo lo' : Nat} {v : Value} {l : List ByteArray} {w : World} (h : OwnS lo v l w) (hl : lo' ≤ lo) : OwnS lo' v l w := by
  refine ⟨h.1, ?_⟩
  rcases h.2 with h1 | ⟨g, cap, cur, h1, h2, h3, h4⟩
  · exact .inl h1
  · exact .inr ⟨g, cap, cur, h1, Nat.le_trans hl h2, h3, h4⟩
theorem OwnS.below {lo : Nat} {v : Value} {l : List ByteArray} {w w' : World} (h : OwnS lo v l w) (hb : Below w.heap.size w w') : OwnS lo v l w' :=
  h.block fun k _ hk => hb.block k hk
theorem OwnS.only {lo b : Nat} {v : Value} {l : List ByteArray} {w w' : World} (h : OwnS lo v l w) (hb : Only b w w') (hl : b < lo) : OwnS lo v l w' :=
  h.block fun k hk1 hk => hb.block k hk (by omega)

set_option maxRecDepth 100000 in
set_option maxHeartbeats 1000000 in
theorem texts1_t (b : Nat) (s0 : ByteArray) (w : World) (hS : Src b s0 w) (hz : s0.size ≤ 2000) :
    Calls Tryz.prog 142 #[.pointer (some ⟨b, 0, none⟩)] w (Took b w (textsT s0) (textsV w.heap.size)) := by
  have HL := Lib.hid hS.lt
  have hc : w.cell? ⟨b, 0, none⟩ = some (.string s0) := hS.cell 0
  have HS := Lib.hid hS
  clear hS
  by_cases h0 : s0.size = 0
  · obtain rfl := size_empty h0
    clear h0
    go_enter Tryz.func142, Tryz.ntmps142
    go_wp2_with (go_at_call 111; refine (must_no _ _).mono ?_; rintro e w' ⟨rfl, rfl⟩)
    refine ⟨rfl, ?_⟩
    exact ⟨rfl, Only.refl _ _⟩
  have he := toList_isEmpty h0
  have hdone : ∀ l, textsG s0.size [] s0 = l → textsT s0 = l.map fun l => (l, ⟨#[]⟩) := fun l h => by rw [textsT, if_neg h0, h]
  have HD := Lib.hid hdone
  clear hdone h0
  go_enter Tryz.func142, Tryz.ntmps142
  go_wp2_with (go_at_call 111; refine (must_ok _ _).mono ?_; rintro e w' ⟨rfl, rfl⟩)
  clear hc he
  go_loopw [2] (fun v wr => ∃ (acc : List ByteArray) (s : ByteArray) (f : Nat), Hid (s.size ≤ f ∧ acc.length + s.size ≤ 2000 ∧ textsG f acc s = textsG s0.size [] s0) ∧ Hid (OwnS w.heap.size v acc wr ∧ Src b s wr ∧ Only b w wr)) (fun _ wr => match wr.cell? ⟨b, 0, none⟩ with | some (.string s) => s.size | _ => 0)
  case atStart => exact ⟨[], s0, s0.size, Lib.hid ⟨Nat.le_refl _, by simp; omega, rfl⟩, Lib.hid ⟨OwnS.nil _ _, HS.out, Only.refl _ _⟩⟩
  case round =>
    obtain ⟨acc, s, f, HG, HR⟩ := hrel
    have hc : wr.cell? ⟨b, 0, none⟩ = some (.string s) := HR.out.2.1.cell 0
    by_cases h0 : s.size = 0
    · obtain rfl := size_empty h0
      have hT : textsT s0 = some (acc, ⟨#[]⟩) := by
        have hg := HG.out.2.2
        have : textsG f acc ⟨#[]⟩ = some acc := by cases f <;> rfl
        rw [this] at hg
        exact HD.out _ hg.symm
      obtain ⟨A, c, rfl⟩ := OwnS.len HR.out.1
      have HT := Lib.hid hT
      clear hT h0 HG HS HD
      repeat (first | (fail) | go_values | go_skip | go_guarded | go_step | go_upon | go_back)
      go_ret
      rw [HT.out]
      exact ⟨_, rfl, HR.out.1, HR.out.2.1, HR.out.2.2⟩
    · obtain ⟨g, rfl⟩ : ∃ g, f = g + 1 := ⟨f - 1, by have := HG.out.1; omega⟩
      have he := toList_isEmpty h0
      have hst := HG.out.2.2
      rw [textsG, if_neg h0] at hst
      have HST := Lib.hid hst
      obtain ⟨A, c, rfl⟩ := OwnS.len HR.out.1
      clear h0 hst
      repeat (first | (fail) | go_values | go_skip | go_guarded | go_step | go_upon | go_back)
      refine (number_t b s 1 1 rfl _ HR.out.2.1 (by omega)).mono ?_
      rintro e W1 h
      rcases h1 : numT 1 s with _ | ⟨n, s1⟩
      · rw [h1] at h
        obtain ⟨rfl, hO⟩ := h
        have hT : textsT s0 = none := by
          have hg := HST.out
          rw [h1] at hg
          exact HD.out _ hg.symm
        refine ⟨rfl, ?_⟩
        rw [hT]
        exact ⟨rfl, HR.out.2.2.trans hO⟩
      rw [h1] at h
      obtain ⟨v1, rfl, hv, hS1, hO1⟩ := h
      obtain rfl : v1 = .int .i64 n := hv
      have E1 := Lib.hid h1
      have HR1 := Lib.hid (And.intro (OwnS.only HR.out.1 hO1 HL.out) (And.intro hS1 (HR.out.2.2.trans hO1)))
      clear h1 hS1 hO1 hc he
      simp only []
      repeat (first | (fail) | go_values | go_skip | go_guarded | go_step | go_upon | go_back)
      refine (bytes_t b s1 n.toNat n (by have := (num1 _ _ _ E1.out).1; omega) _ HR1.out.2.1).mono ?_
      rintro e W2 h
      rcases h2 : bytesT n.toNat s1 with _ | ⟨x, s2⟩
      · rw [h2] at h
        obtain ⟨rfl, hO⟩ := h
        have hT : textsT s0 = none := by
          have hg := HST.out
          simp only [E1.out, h2] at hg
          exact HD.out _ hg.symm
        refine ⟨rfl, ?_⟩
        rw [hT]
        exact ⟨rfl, HR1.out.2.2.trans hO⟩
      rw [h2] at h
      obtain ⟨v2, rfl, hv, hS2, hO2⟩ := h
      obtain rfl : v2 = .string x := hv
      have hst : textsG g (acc ++ [x]) s2 = textsG s0.size [] s0 := by
        have hg := HST.out
        simp only [E1.out, h2] at hg
        exact hg
      have hsz : s2.size + 1 ≤ s.size := by
        have h1 := (num1 _ _ _ E1.out).2.2
        have := bytesT_le h2
        omega
      have HR2 := Lib.hid (And.intro (OwnS.only HR1.out.1 hO2 HL.out) (And.intro hS2 (HR1.out.2.2.trans hO2)))
      have HZ := Lib.hid (show s2.size + 1 ≤ s.size ∧ s2.size ≤ g ∧ (acc ++ [x]).length + s2.size ≤ 2000 ∧ textsG g (acc ++ [x]) s2 = textsG s0.size [] s0 from ⟨hsz, by have := HG.out.1; omega, by have := HG.out.2.1; simp; omega, hst⟩)
      have hcs := Lib.hid HR.out.2.1
      clear h2 hS2 hO2 hst hsz HR1
      simp only []
      have info := info_str
      go_wp2_with (at_builtin; go_loud (refine ownS_append HR2.out.1 (Below.refl _ _) HR2.out.2.2.size x (by have := HZ.out.2.2.1; simp at this; omega) rfl _ _ rfl _ 1 1 rfl rfl rfl rfl ?_))
      intro v3 w3 a1 a2 a3
      have HA := Lib.hid (show OwnS w.heap.size v3 (acc ++ [x]) w3 ∧ Src b s2 w3 ∧ Only b w w3 from ⟨a1, HR2.out.2.1.below a2 HL.out, HR2.out.2.2.base (Nat.le_refl _) a2⟩)
      clear a1 a2 a3 HR2 info
      repeat (first | (fail) | go_values | go_skip | go_guarded | go_step | go_upon | go_back)
      go_roundw
      case rel => exact ⟨acc ++ [x], s2, g, Lib.hid HZ.out.2, HA⟩
      case measure =>
        have e1 : wr.cell? ⟨b, 0, none⟩ = some (.string s) := hcs.out.cell 0
        have e2 : w3.cell? ⟨b, 0, none⟩ = some (.string s2) := HA.out.2.1.cell 0
        rw [e1, e2]
        exact HZ.out.1
theorem loadVar_slice {P : Program} {w : World} {g : Nat} {t ty e : TypeId} {v : Value} (hg : Blk w g #[v] t) (hu : P.underlying ty = some (.slice e)) : (loadVar ty ⟨g, 0, none⟩).run P w = .ok v w := by
  have hagg : (isAgg ty).run P w = .ok false w := by
    unfold isAgg
    rw [Sem.run_bind, run_underlying hu w]
    rfl
  have hc : w.cell? ⟨g, 0, none⟩ = some v := hg.cell 0
  simp [loadVar, Sem.run_bind, hagg, go_sem, hc]
set_option maxRecDepth 100000 in
theorem texts_panic (B n m : Nat) {v0 : Value} (w : World) (h0 : Blk w n #[v0] 28) (h1 : Blk w m #[.int .i64 0] 25) (hne : n ≠ m) (hBn : B ≤ n) (hBm : B ≤ m) :
    CallsD Tryz.prog 190 #[.pointer (some ⟨n, 0, none⟩), .pointer (some ⟨m, 0, none⟩)] (.panicking [{ v := .iface 162 (.agg #[]), recovered := false }]) w fun e u' w' =>
      e = .returned (.tuple #[]) ∧ u' = .panicking [{ v := .iface 162 (.agg #[]), recovered := true }] ∧ Blk w' n #[.slice none 0 0] 28 ∧ Blk w' m #[.int .i64 6] 25 ∧ Below B w w' := by
  refine callsD_of_wpS Tryz.func190 rfl fun c₀ cs hu => ?_
  simp only [Tryz.ntmps190, List.size_toArray, List.length_cons, List.length_nil, Nat.reduceAdd, Nat.reduceSub, Array.replicate_succ, Array.replicate_zero, List.push_toArray, List.append_toArray, List.nil_append, List.cons_append]
  apply wpS_seq
  apply wpS_region
  simp [wpOpsS, go_sem, recoverD, hu, Exit.thenS]
  refine wpS_of_wp (wp_mono (Q := fun e a' w' => e = .normal ∧ a'.defers = [] ∧ Blk w' n #[.slice none 0 0] 28 ∧ Blk w' m #[.int .i64 6] 25 ∧ Below B w w') ?_ ?_)
  · have c0 : w.cell? ⟨n, 0, none⟩ = some v0 := h0.cell 0
    have e0 : w.cell? ⟨m, 0, none⟩ = some (.int .i64 0) := h1.cell 0
    have f0 := fun j => h0.free j
    have f1 := fun j => h1.free j
    have l0 := h0.lt
    have l1 := h1.lt
    have H0 := Lib.hid h0; have H1 := Lib.hid h1; clear h0 h1
    generalize hQ : (fun (e : Exit) (a' : Act) (w' : World) => e = Exit.normal ∧ a'.defers = [] ∧ Blk w' n #[.slice none 0 0] 28 ∧ Blk w' m #[.int .i64 6] 25 ∧ Below B w w') = Q
    have HQ := Lib.hid hQ; clear hQ
    have hta := assert_stop
    go_wp2
    rw [← HQ.out]
    refine ⟨rfl, rfl, ?_, ?_, ?_⟩
    · refine Blk.alloc (Blk.other ?_ hne _) _
      simpa using (H0.out.set 0 (.slice none 0 0))
    · refine Blk.alloc (Blk.set (cs := #[.int .i64 0]) ?_ 0 _) _
      iterate 1 refine Blk.other ?_ (fun h => hne h.symm) _
      exact H1.out
    · refine Below.alloc ?_ (by simp; omega) _
      refine Below.setCell ?_ (by simpa using hBm) _
      iterate 1 refine Below.setCell ?_ (by simpa using hBn) _
      exact Below.refl _ _
  · rintro e a w' ⟨rfl, hd, q⟩
    exact ⟨hd, _, rfl, _, results_none rfl _ _ _, rfl, rfl, q⟩

theorem texts_idle (n m : Nat) (w : World) :
    CallsD Tryz.prog 190 #[.pointer (some ⟨n, 0, none⟩), .pointer (some ⟨m, 0, none⟩)] .returning w fun e u' w' => e = .returned (.tuple #[]) ∧ u' = .returning ∧ w' = w := by
  refine callsD_of_wpS Tryz.func190 rfl fun c₀ cs hu => ?_
  simp only [Tryz.ntmps190, List.size_toArray, List.length_cons, List.length_nil, Nat.reduceAdd, Nat.reduceSub, Array.replicate_succ, Array.replicate_zero, List.push_toArray, List.append_toArray, List.nil_append, List.cons_append]
  apply wpS_seq
  apply wpS_region
  simp [wpOpsS, go_sem, recoverD, hu, Exit.thenS]
  refine wpS_of_wp (wp_mono (Q := fun e a' w' => e = .normal ∧ a'.defers = [] ∧ w' = w) ?_ ?_)
  · generalize hQ : (fun (e : Exit) (a' : Act) (w' : World) => e = Exit.normal ∧ a'.defers = [] ∧ w' = w) = Q
    have HQ := Lib.hid hQ; clear hQ
    go_wp2
    rw [← HQ.out]
    exact ⟨rfl, rfl, rfl⟩
  · rintro e a w' ⟨rfl, hd, rfl⟩
    cases c₀
    simp at hu
    subst hu
    exact ⟨hd, _, rfl, _, results_none rfl _ _ _, rfl, rfl, rfl⟩

/-- The world in which take calls its function. -/
def wTexts (w : World) (d : ByteArray) : World := ((w.alloc (.cells #[.slice none 0 0] 28)).alloc (.cells #[.int .i64 0] 25)).alloc (.cells #[.string d] 165)
theorem wTexts_src (w : World) (d : ByteArray) : Src (w.heap.size + 1 + 1) d (wTexts w d) := by
  have := Blk.new ((w.alloc (.cells #[.slice none 0 0] 28)).alloc (.cells #[.int .i64 0] 25)) #[.string d] 165
  simpa [wTexts, Src] using this
theorem wTexts_val (w : World) (d : ByteArray) : Blk (wTexts w d) w.heap.size #[.slice none 0 0] 28 := ((Blk.new w #[.slice none 0 0] 28).alloc _).alloc _
theorem wTexts_err (w : World) (d : ByteArray) : Blk (wTexts w d) (w.heap.size + 1) #[.int .i64 0] 25 := by
  have := (Blk.new (w.alloc (.cells #[.slice none 0 0] 28)) #[.int .i64 0] 25).alloc (.cells #[.string d] 165)
  simpa [wTexts] using this
theorem wTexts_below (w : World) (d : ByteArray) : Below w.heap.size w (wTexts w d) := (((Below.refl _ w).alloc (Nat.le_refl _) _).alloc (by simp) _).alloc (by simp; omega) _

/-- Behind the door, where something panicked. -/
theorem texts_door (p : Option (List ByteArray)) (hp : p = none) (tmps : Array Value) {v0 : Value} (w w1 : World) (hk : Blk w1 w.heap.size #[v0] 28) (he : Blk w1 (w.heap.size + 1) #[.int .i64 0] 25) (hb : Below w.heap.size w w1)
    (h4 : tmps.getD 4 undef = .pointer (some ⟨w.heap.size, 0, none⟩)) (h5 : tmps.getD 5 undef = .pointer (some ⟨w.heap.size + 1, 0, none⟩)) :
    bodyPostD Tryz.prog Tryz.f141 (TakeP (textsV (w.heap.size + 1)) (.slice none 0 0) p w) (.panic stopC)
      { tmps := tmps, defers := [{ target := .fn (.func 190) #[.pointer (some ⟨w.heap.size, 0, none⟩), .pointer (some ⟨w.heap.size + 1, 0, none⟩)], args := #[] }] } w1 := by
  subst hp
  refine leaves_cons (f := 190) (args := #[.pointer (some ⟨w.heap.size, 0, none⟩), .pointer (some ⟨w.heap.size + 1, 0, none⟩)]) (by simp) (by simp [go_sem]) ?_
  refine (texts_panic w.heap.size _ _ w1 hk he (by omega) (Nat.le_refl _) (by omega)).mono ?_
  rintro e u' w2 ⟨rfl, rfl, hk2, he2, hb2⟩
  exact ⟨_, results2 rfl ⟨_, h4, loadVar_slice hk2 Tryz.underlying28⟩ ⟨_, h5, loadVar_int he2 Tryz.underlying25⟩, hb.trans hb2, rfl⟩

set_option maxRecDepth 100000 in
set_option maxHeartbeats 1000000 in
theorem take_texts (d : ByteArray) (w : World) :
    Calls Tryz.prog 141 #[.string d, .func (.func 142) #[] #[]] w (TakeP (textsV (w.heap.size + 1)) (.slice none 0 0) (takeR textsT d) w) := by
  have hmf := makeFunc_run
  by_cases hd : d.size ≤ 2000
  · have hd' : decide ((d.size : Int) ≤ 2000) = true := by simp; omega
    have HD := Lib.hid hd; clear hd
    go_enter_defers Tryz.func141, Tryz.ntmps141
    go_wp2_with (go_at_call 111; refine (must_ok _ _).mono ?_; rintro e w' ⟨rfl, rfl⟩)
    refine (texts1_t (w.heap.size + 1 + 1) d _ (wTexts_src w d) HD.out).mono ?_
    rintro e w1 h
    rcases h1 : textsT d with _ | ⟨x, r⟩
    · rw [h1] at h
      obtain ⟨rfl, hO⟩ := h
      exact texts_door _ (takeR_none h1) _ w w1 ((wTexts_val w d).only hO (by omega)) ((wTexts_err w d).only hO (by omega)) ((wTexts_below w d).trans (hO.belowOf (by omega) (by simp [wTexts]; omega))) rfl rfl
    rw [h1] at h
    obtain ⟨v, rfl, hv, hS, hO⟩ := h
    have hu := hv
    obtain ⟨uA, uc, rfl⟩ := OwnS.len hu
    have HU : Hid (OwnS (w.heap.size + 3) (.slice uA x.length uc) x w1) := Lib.hid (OwnS.lift hu (by simp [wTexts]))
    clear hu
    have hk1 := (wTexts_val w d).only hO (by omega)
    have he1 := (wTexts_err w d).only hO (by omega)
    have hB1 := (wTexts_below w d).trans (hO.belowOf (B := w.heap.size) (by omega) (by simp [wTexts]; omega))
    have c0 : w1.cell? ⟨w.heap.size, 0, none⟩ = some (.slice none 0 0) := hk1.cell 0
    have e0 : w1.cell? ⟨w.heap.size + 1, 0, none⟩ = some (.int .i64 0) := he1.cell 0
    have e5 : w1.cell? ⟨w.heap.size + 1 + 1, 0, none⟩ = some (.string r) := hS.cell 0
    have f0 := fun j => hk1.free j
    have f1 := fun j => he1.free j
    have HK1 := Lib.hid hk1; have HE1 := Lib.hid he1; have HB1 := Lib.hid hB1; have H1 := Lib.hid h1
    clear hk1 he1 hB1 hO hS h1
    by_cases hr : r.size = 0
    · obtain rfl := size_empty hr
      clear hr
      go_wp2_with (go_at_call 111; refine (must_ok _ _).mono ?_; rintro e w' ⟨rfl, rfl⟩)
      refine leaves_cons (f := 190) (args := #[.pointer (some ⟨w.heap.size, 0, none⟩), .pointer (some ⟨w.heap.size + 1, 0, none⟩)]) (by simp) (by simp [go_sem]) ?_
      refine (texts_idle _ _ _).mono ?_
      rintro e u' w2 ⟨rfl, rfl, rfl⟩
      refine ⟨_, results2 rfl ⟨_, rfl, loadVar_slice (v := .slice uA x.length uc) (t := 28) ?_ Tryz.underlying28⟩ ⟨_, rfl, loadVar_int (t := 25) (v := .int .i64 0) ?_ Tryz.underlying25⟩, ?_, ?_⟩
      · refine Blk.other ?_ (by simp) _
        simpa using ((HK1.out.set 0 (.slice uA x.length uc)).set 0 (.slice uA x.length uc))
      · refine Blk.set (cs := #[.int .i64 0]) ?_ 0 _
        iterate 2 refine Blk.other ?_ (by simp) _
        exact HE1.out
      · refine Below.setCell ?_ (by simp) _
        iterate 2 refine Below.setCell ?_ (by exact Nat.le_refl _) _
        exact HB1.out
      · rw [takeR_some HD.out H1.out rfl]
        refine ⟨_, ?_, rfl⟩
        refine OwnS.lift (lo := w.heap.size + 3) ?_ (by omega)
        refine OwnS.only (b := w.heap.size + 1) ?_ ((Only.refl _ _).put _ _) (by omega)
        refine OwnS.only (b := w.heap.size) HU.out ?_ (by omega)
        iterate 2 refine Only.put ?_ _ _
        exact Only.refl _ _
    · have he := toList_isEmpty hr
      have hT := takeR_left H1.out hr
      have HT := Lib.hid hT; clear hT hr
      go_wp2_with (go_at_call 111; refine (must_no _ _).mono ?_; rintro e w' ⟨rfl, rfl⟩)
      refine texts_door _ HT.out _ (v0 := .slice uA x.length uc) (w := w) (w1 := _) (hk := ?_) (he := ?_) (hb := ?_) rfl rfl
      · exact (by simpa using (HK1.out.set 0 (.slice uA x.length uc)) : Blk _ w.heap.size #[.slice uA x.length uc] 28)
      · iterate 1 refine Blk.other ?_ (by simp) _
        exact HE1.out
      · iterate 1 refine Below.setCell ?_ (by exact Nat.le_refl _) _
        exact HB1.out
  · have hd' : decide ((d.size : Int) ≤ 2000) = false := by simp; omega
    have HT := Lib.hid (takeR_long (f := textsT) hd)
    clear hd
    go_enter_defers Tryz.func141, Tryz.ntmps141
    go_wp2_with (go_at_call 111; refine (must_no _ _).mono ?_; rintro e w' ⟨rfl, rfl⟩)
    exact texts_door _ HT.out _ w _ (wTexts_val w d) (wTexts_err w d) (wTexts_below w d) rfl rfl

set_option maxRecDepth 100000 in
theorem data_texts (d : ByteArray) (w : World) :
    Calls Tryz.prog 74 #[.string d] w (TakeP (textsV w.heap.size) (.slice none 0 0) (takeR textsT d) w) := by
  have hmf := makeFunc_run
  go_enter Tryz.func74, Tryz.ntmps74
  go_wp2_with fail
  refine (take_texts d _).mono ?_
  rintro e w1 ⟨hb, h⟩
  have HB := Lib.hid hb; clear hb
  rcases h1 : takeR textsT d with _ | x
  · rw [h1] at h
    obtain rfl := h
    go_wp2
    go_ret2
    refine ⟨HB.out, ?_⟩
    rw [h1]; rfl
  · rw [h1] at h
    obtain ⟨v, hv, rfl⟩ := h
    have HU : Hid (OwnS w.heap.size v x w1) := Lib.hid (OwnS.lift hv (by omega))
    clear hv
    go_wp2
    go_ret2
    refine ⟨HB.out, ?_⟩
    rw [h1]; exact ⟨_, HU.out, rfl⟩
end Go.Proofs.YtkhpcagoggglcaaGreatDoor

/- data.Right at DNSKEY, and keys.Tag. -/
namespace Go.Proofs.YtkhpcagoggglcaaGreatDoor
open Go.RowKit

theorem is_key (g : Nat) (w : World) : Calls Tryz.prog 91 #[.func (.func g) #[] #[]] w fun e w' => e = .returned (.func (.func 160) #[] #[.pointer (some ⟨w.heap.size, 0, none⟩)]) ∧ w' = w.alloc (.cells #[.func (.func g) #[] #[]] 142) := by
  have hmf := makeFunc_run
  go_enter Tryz.func91, Tryz.ntmps91
  go_wp2
  go_ret
  exact ⟨rfl, rfl⟩

theorem is_key1 (d : ByteArray) (c : Nat) (w : World) (hc : Blk w c #[.func (.func 92) #[] #[]] 142) :
    Calls Tryz.prog 160 #[.string d, .pointer (some ⟨c, 0, none⟩)] w fun e w' => e = .returned (.bool (keyRight d)) ∧ Below w.heap.size w w' := by
  have hk := fun w => data_key d w
  have c0 : w.cell? ⟨c, 0, none⟩ = some (.func (.func 92) #[] #[]) := hc.cell 0
  clear hc
  obtain ⟨f, p, a, q, hv⟩ : ∃ f p a q, (if keyRight d then keyOfD d else KeyD.none).v = .agg #[.int .i64 f, .int .i64 p, .int .i64 a, .string q] := ⟨_, _, _, _, rfl⟩
  rw [hv] at hk
  have HK := Lib.hid hk; clear hv hk
  cases hr : keyRight d
  all_goals
    rw [hr] at HK
    have HR := Lib.hid hr; clear hr
    simp only [if_true, Bool.false_eq_true, if_false] at HK
    go_enter Tryz.func160, Tryz.ntmps160
    go_wp2_with fail
    refine (HK.out _).mono ?_
    rintro e w1 ⟨rfl, hb⟩
    go_wp2
    go_ret
    exact ⟨rfl, hb.alloc hb.size _⟩

theorem info_form : (Tryz.prog.info? 94).map (·.size) = some 4 := by kernel_rfl

set_option maxRecDepth 100000 in
theorem form_key (w : World) : Calls Tryz.prog 38 #[.int .i64 48] w fun e w' =>
    ∃ c, e = .returned (.agg #[.func (.func 160) #[] #[.pointer (some ⟨c, 0, none⟩)], .func (.func 93) #[] #[], .func (.func 94) #[] #[], .nilFunc]) ∧
      Blk w' c #[.func (.func 92) #[] #[]] 142 ∧ Below w.heap.size w w' := by
  go_enter Tryz.func38, Tryz.ntmps38
  go_wp2_with (go_at_call 91; refine (is_key _ _).mono ?_; rintro e w' ⟨rfl, rfl⟩)
  refine bodyPost_ret (results1 rfl ⟨_, rfl, loadVar_blk (cs := #[.func (.func 160) #[] #[.pointer (some ⟨w.heap.size + 1 + 1, 0, none⟩)], .func (.func 93) #[] #[], .func (.func 94) #[] #[], .nilFunc]) (t := 94) ?_ Tryz.underlying94 rfl info_form⟩) rfl ⟨w.heap.size + 1 + 1, rfl, ?_, ?_⟩
  · exact ((Blk.new w _ _).alloc _).alloc _
  · have := Blk.new ((w.alloc (.cells #[.func (.func 160) #[] #[.pointer (some ⟨w.heap.size + 1 + 1, 0, none⟩)], .func (.func 93) #[] #[], .func (.func 94) #[] #[], .nilFunc] 94)).alloc (.cells #[.func (.func 24) #[] #[], .func (.func 50) #[] #[], .func (.func 52) #[] #[], .func (.func 55) #[] #[]] 94)) #[.func (.func 92) #[] #[]] 142
    simpa using this
  · exact (((Below.refl _ w).alloc (Nat.le_refl _) _).alloc (by simp) _).alloc (by simp; omega) _

theorem form_field0 (a b c d : Value) (w : World) : (Instr.field 94 (.agg #[a, b, c, d]) 0).run Tryz.prog w = .ok a w := by kernel_rfl

set_option maxRecDepth 100000 in
theorem right_key (d : ByteArray) (w : World) : Calls Tryz.prog 28 #[.int .i64 48, .string d] w fun e w' => e = .returned (.bool (keyRight d)) ∧ Below w.heap.size w w' := by
  by_cases hd : d.size ≤ 2000
  · have hd' : decide ((d.size : Int) ≤ 2000) = true := by simp; omega
    clear hd
    have hfl := form_field0
    go_enter Tryz.func28, Tryz.ntmps28
    go_wp2_with (first | (go_at_call 37; refine (isType_any _ _).mono ?_; rintro e w' ⟨rfl, rfl⟩) | (go_at_call 38; refine (form_key _).mono ?_; rintro e w1 ⟨c, rfl, hc, hb⟩; have HC := Lib.hid hc; clear hc) | (go_at_call 160; refine (is_key1 _ _ _ HC.out).mono ?_; rintro e w2 ⟨rfl, hb2⟩))
    go_ret
    exact ⟨rfl, hb.trans (hb2.mono hb.size)⟩
  · have hd' : decide ((d.size : Int) ≤ 2000) = false := by simp; omega
    have hk : keyRight d = false := by simp [keyRight, hd]
    rw [hk]
    clear hd hk
    go_enter Tryz.func28, Tryz.ntmps28
    go_wp2_with (go_at_call 37; refine (isType_any _ _).mono ?_; rintro e w' ⟨rfl, rfl⟩)
    go_ret
    exact ⟨rfl, Below.refl _ _⟩

/-- A key's tag. -/
def tagSum : List UInt8 → Nat → Int
  | [], _ => 0
  | b :: l, i => (if i % 2 = 0 then 256 * (b.toNat : Int) else (b.toNat : Int)) + tagSum l (i + 1)
def tagOf (d : ByteArray) : Int := (tagSum d.data.toList 0 + tagSum d.data.toList 0 / 65536) % 65536

theorem tagSum_bd : ∀ (l : List UInt8) (i : Nat), 0 ≤ tagSum l i ∧ tagSum l i ≤ 65280 * l.length := by
  intro l
  induction l with
  | nil => intro i; simp [tagSum]
  | cons b l ih =>
    intro i
    have := ih (i + 1)
    have hb := b.toNat_lt
    simp only [tagSum, List.length_cons]
    split <;> omega
theorem tagSum_drop (l : List UInt8) (k : Nat) (h : k < l.length) : tagSum (l.drop k) k = (if k % 2 = 0 then 256 * ((l.getD k 0).toNat : Int) else ((l.getD k 0).toNat : Int)) + tagSum (l.drop (k + 1)) (k + 1) := by
  rw [List.drop_eq_getElem_cons h]
  simp [tagSum, List.getD, List.getElem?_eq_getElem h]
theorem i64_and1_even (k : Nat) (h : k % 2 = 0) (hk : k < 9223372036854775808) : bits .and .i64 (k : Int) 1 = 0 := by
  have := i64_and_nat k 1 hk (by omega)
  rw [show ((1 : Nat) : Int) = 1 from rfl] at this
  rw [this, Nat.and_one_is_mod]; omega
theorem i64_and1_odd (k : Nat) (h : ¬ k % 2 = 0) (hk : k < 9223372036854775808) : bits .and .i64 (k : Int) 1 = 1 := by
  have := i64_and_nat k 1 hk (by omega)
  rw [show ((1 : Nat) : Int) = 1 from rfl] at this
  rw [this, Nat.and_one_is_mod]; omega

end Go.Proofs.YtkhpcagoggglcaaGreatDoor

/- data.is, data.formOf, data.Right: at every kind of data. Lines printed by wip/tools/rights.py. -/
namespace Go.Proofs.YtkhpcagoggglcaaGreatDoor
open Go.RowKit

theorem is_soa (g : Nat) (w : World) : Calls Tryz.prog 62 #[.func (.func g) #[] #[]] w fun e w' => e = .returned (.func (.func 131) #[] #[.pointer (some ⟨w.heap.size, 0, none⟩)]) ∧ w' = w.alloc (.cells #[.func (.func g) #[] #[]] 114) := by
  have hmf := makeFunc_run
  go_enter Tryz.func62, Tryz.ntmps62
  go_wp2
  go_ret
  exact ⟨rfl, rfl⟩
set_option maxRecDepth 100000 in
theorem is_soa1 (d : ByteArray) (c : Nat) (w : World) (hc : Blk w c #[.func (.func 63) #[] #[]] 114) :
    Calls Tryz.prog 131 #[.string d, .pointer (some ⟨c, 0, none⟩)] w fun e w' => e = .returned (.bool (takeR soaT d).isSome) ∧ Below w.heap.size w w' := by
  have c0 : w.cell? ⟨c, 0, none⟩ = some (.func (.func 63) #[] #[]) := hc.cell 0
  clear hc
  go_enter Tryz.func131, Tryz.ntmps131
  go_wp2_with fail
  refine (data_soa d _).mono ?_
  rintro e w1 ⟨hb, h⟩
  rcases h1 : takeR soaT d with _ | x
  · rw [h1] at h
    obtain rfl := h
    have H1 := Lib.hid h1; clear h1
    go_wp2
    go_ret
    rw [H1.out]
    exact ⟨rfl, hb.alloc hb.size _⟩
  · rw [h1] at h
    obtain ⟨v, hv, rfl⟩ := h
    have H1 := Lib.hid h1; clear h1
    obtain rfl : v = x.v := hv
    simp only [SoaR.v]
    go_wp2
    go_ret
    rw [H1.out]
    exact ⟨rfl, hb.alloc hb.size _⟩

set_option maxRecDepth 100000 in
theorem form_soa (w : World) : Calls Tryz.prog 38 #[.int .i64 6] w fun e w' =>
    ∃ c, e = .returned (.agg #[.func (.func 131) #[] #[.pointer (some ⟨c, 0, none⟩)], .func (.func 64) #[] #[], .func (.func 65) #[] #[], .func (.func 66) #[] #[]]) ∧ Blk w' c #[.func (.func 63) #[] #[]] 114 ∧ Below w.heap.size w w' := by
  go_enter Tryz.func38, Tryz.ntmps38
  go_wp2_with (go_at_call 62; refine (is_soa _ _).mono ?_; rintro e w' ⟨rfl, rfl⟩)
  refine bodyPost_ret (results1 rfl ⟨_, rfl, loadVar_blk (cs := #[.func (.func 131) #[] #[.pointer (some ⟨w.heap.size + 1 + 1, 0, none⟩)], .func (.func 64) #[] #[], .func (.func 65) #[] #[], .func (.func 66) #[] #[]]) (t := 94) ?_ Tryz.underlying94 rfl info_form⟩) rfl ⟨w.heap.size + 1 + 1, rfl, ?_, ?_⟩
  · exact ((Blk.new w _ _).alloc _).alloc _
  · have := Blk.new ((w.alloc (.cells #[.func (.func 131) #[] #[.pointer (some ⟨w.heap.size + 1 + 1, 0, none⟩)], .func (.func 64) #[] #[], .func (.func 65) #[] #[], .func (.func 66) #[] #[]] 94)).alloc (.cells #[.func (.func 24) #[] #[], .func (.func 50) #[] #[], .func (.func 52) #[] #[], .func (.func 55) #[] #[]] 94)) #[.func (.func 63) #[] #[]] 114
    simpa using this
  · exact (((Below.refl _ w).alloc (Nat.le_refl _) _).alloc (by simp) _).alloc (by simp; omega) _

set_option maxRecDepth 100000 in
theorem right_soa (d : ByteArray) (w : World) : Calls Tryz.prog 28 #[.int .i64 6, .string d] w fun e w' => e = .returned (.bool (decide (d.size ≤ 2000) && (takeR soaT d).isSome)) ∧ Below w.heap.size w w' := by
  by_cases hd : d.size ≤ 2000
  · have hd' : decide ((d.size : Int) ≤ 2000) = true := by simp; omega
    rw [decide_eq_true hd, Bool.true_and]
    clear hd
    have hfl := form_field0
    go_enter Tryz.func28, Tryz.ntmps28
    go_wp2_with (first | (go_at_call 37; refine (isType_any _ _).mono ?_; rintro e w' ⟨rfl, rfl⟩) | (go_at_call 38; refine (form_soa _).mono ?_; rintro e w1 ⟨c, rfl, hc, hb⟩; have HC := Lib.hid hc; clear hc) | (go_at_call 131; refine (is_soa1 _ _ _ HC.out).mono ?_; rintro e w2 ⟨rfl, hb2⟩))
    go_ret
    exact ⟨rfl, hb.trans (hb2.mono hb.size)⟩
  · have hd' : decide ((d.size : Int) ≤ 2000) = false := by simp; omega
    rw [decide_eq_false hd, Bool.false_and]
    clear hd
    go_enter Tryz.func28, Tryz.ntmps28
    go_wp2_with (go_at_call 37; refine (isType_any _ _).mono ?_; rintro e w' ⟨rfl, rfl⟩)
    go_ret
    exact ⟨rfl, Below.refl _ _⟩

theorem is_mail (g : Nat) (w : World) : Calls Tryz.prog 67 #[.func (.func g) #[] #[]] w fun e w' => e = .returned (.func (.func 136) #[] #[.pointer (some ⟨w.heap.size, 0, none⟩)]) ∧ w' = w.alloc (.cells #[.func (.func g) #[] #[]] 119) := by
  have hmf := makeFunc_run
  go_enter Tryz.func67, Tryz.ntmps67
  go_wp2
  go_ret
  exact ⟨rfl, rfl⟩
set_option maxRecDepth 100000 in
theorem is_mail1 (d : ByteArray) (c : Nat) (w : World) (hc : Blk w c #[.func (.func 68) #[] #[]] 119) :
    Calls Tryz.prog 136 #[.string d, .pointer (some ⟨c, 0, none⟩)] w fun e w' => e = .returned (.bool (takeR mailT d).isSome) ∧ Below w.heap.size w w' := by
  have c0 : w.cell? ⟨c, 0, none⟩ = some (.func (.func 68) #[] #[]) := hc.cell 0
  clear hc
  go_enter Tryz.func136, Tryz.ntmps136
  go_wp2_with fail
  refine (data_mail d _).mono ?_
  rintro e w1 ⟨hb, h⟩
  rcases h1 : takeR mailT d with _ | x
  · rw [h1] at h
    obtain rfl := h
    have H1 := Lib.hid h1; clear h1
    go_wp2
    go_ret
    rw [H1.out]
    exact ⟨rfl, hb.alloc hb.size _⟩
  · rw [h1] at h
    obtain ⟨v, hv, rfl⟩ := h
    have H1 := Lib.hid h1; clear h1
    obtain rfl : v = x.v := hv
    simp only [mailR.v]
    go_wp2
    go_ret
    rw [H1.out]
    exact ⟨rfl, hb.alloc hb.size _⟩

set_option maxRecDepth 100000 in
theorem form_mail (w : World) : Calls Tryz.prog 38 #[.int .i64 15] w fun e w' =>
    ∃ c, e = .returned (.agg #[.func (.func 136) #[] #[.pointer (some ⟨c, 0, none⟩)], .func (.func 69) #[] #[], .func (.func 71) #[] #[], .func (.func 72) #[] #[]]) ∧ Blk w' c #[.func (.func 68) #[] #[]] 119 ∧ Below w.heap.size w w' := by
  go_enter Tryz.func38, Tryz.ntmps38
  go_wp2_with (go_at_call 67; refine (is_mail _ _).mono ?_; rintro e w' ⟨rfl, rfl⟩)
  refine bodyPost_ret (results1 rfl ⟨_, rfl, loadVar_blk (cs := #[.func (.func 136) #[] #[.pointer (some ⟨w.heap.size + 1 + 1, 0, none⟩)], .func (.func 69) #[] #[], .func (.func 71) #[] #[], .func (.func 72) #[] #[]]) (t := 94) ?_ Tryz.underlying94 rfl info_form⟩) rfl ⟨w.heap.size + 1 + 1, rfl, ?_, ?_⟩
  · exact ((Blk.new w _ _).alloc _).alloc _
  · have := Blk.new ((w.alloc (.cells #[.func (.func 136) #[] #[.pointer (some ⟨w.heap.size + 1 + 1, 0, none⟩)], .func (.func 69) #[] #[], .func (.func 71) #[] #[], .func (.func 72) #[] #[]] 94)).alloc (.cells #[.func (.func 24) #[] #[], .func (.func 50) #[] #[], .func (.func 52) #[] #[], .func (.func 55) #[] #[]] 94)) #[.func (.func 68) #[] #[]] 119
    simpa using this
  · exact (((Below.refl _ w).alloc (Nat.le_refl _) _).alloc (by simp) _).alloc (by simp; omega) _

set_option maxRecDepth 100000 in
theorem right_mail (d : ByteArray) (w : World) : Calls Tryz.prog 28 #[.int .i64 15, .string d] w fun e w' => e = .returned (.bool (decide (d.size ≤ 2000) && (takeR mailT d).isSome)) ∧ Below w.heap.size w w' := by
  by_cases hd : d.size ≤ 2000
  · have hd' : decide ((d.size : Int) ≤ 2000) = true := by simp; omega
    rw [decide_eq_true hd, Bool.true_and]
    clear hd
    have hfl := form_field0
    go_enter Tryz.func28, Tryz.ntmps28
    go_wp2_with (first | (go_at_call 37; refine (isType_any _ _).mono ?_; rintro e w' ⟨rfl, rfl⟩) | (go_at_call 38; refine (form_mail _).mono ?_; rintro e w1 ⟨c, rfl, hc, hb⟩; have HC := Lib.hid hc; clear hc) | (go_at_call 136; refine (is_mail1 _ _ _ HC.out).mono ?_; rintro e w2 ⟨rfl, hb2⟩))
    go_ret
    exact ⟨rfl, hb.trans (hb2.mono hb.size)⟩
  · have hd' : decide ((d.size : Int) ≤ 2000) = false := by simp; omega
    rw [decide_eq_false hd, Bool.false_and]
    clear hd
    go_enter Tryz.func28, Tryz.ntmps28
    go_wp2_with (go_at_call 37; refine (isType_any _ _).mono ?_; rintro e w' ⟨rfl, rfl⟩)
    go_ret
    exact ⟨rfl, Below.refl _ _⟩

theorem is_texts (g : Nat) (w : World) : Calls Tryz.prog 73 #[.func (.func g) #[] #[]] w fun e w' => e = .returned (.func (.func 140) #[] #[.pointer (some ⟨w.heap.size, 0, none⟩)]) ∧ w' = w.alloc (.cells #[.func (.func g) #[] #[]] 123) := by
  have hmf := makeFunc_run
  go_enter Tryz.func73, Tryz.ntmps73
  go_wp2
  go_ret
  exact ⟨rfl, rfl⟩
set_option maxRecDepth 100000 in
theorem is_texts1 (d : ByteArray) (c : Nat) (w : World) (hc : Blk w c #[.func (.func 74) #[] #[]] 123) :
    Calls Tryz.prog 140 #[.string d, .pointer (some ⟨c, 0, none⟩)] w fun e w' => e = .returned (.bool (takeR textsT d).isSome) ∧ Below w.heap.size w w' := by
  have c0 : w.cell? ⟨c, 0, none⟩ = some (.func (.func 74) #[] #[]) := hc.cell 0
  clear hc
  go_enter Tryz.func140, Tryz.ntmps140
  go_wp2_with fail
  refine (data_texts d _).mono ?_
  rintro e w1 ⟨hb, h⟩
  rcases h1 : takeR textsT d with _ | x
  · rw [h1] at h
    obtain rfl := h
    have H1 := Lib.hid h1; clear h1
    go_wp2
    go_ret
    rw [H1.out]
    exact ⟨rfl, hb⟩
  · rw [h1] at h
    obtain ⟨v, hv, rfl⟩ := h
    have H1 := Lib.hid h1; clear h1
    obtain ⟨uA, uc, rfl⟩ := OwnS.len hv
    clear hv
    go_wp2
    go_ret
    rw [H1.out]
    exact ⟨rfl, hb⟩

set_option maxRecDepth 100000 in
theorem form_texts (w : World) : Calls Tryz.prog 38 #[.int .i64 16] w fun e w' =>
    ∃ c, e = .returned (.agg #[.func (.func 140) #[] #[.pointer (some ⟨c, 0, none⟩)], .func (.func 75) #[] #[], .nilFunc, .nilFunc]) ∧ Blk w' c #[.func (.func 74) #[] #[]] 123 ∧ Below w.heap.size w w' := by
  go_enter Tryz.func38, Tryz.ntmps38
  go_wp2_with (go_at_call 73; refine (is_texts _ _).mono ?_; rintro e w' ⟨rfl, rfl⟩)
  refine bodyPost_ret (results1 rfl ⟨_, rfl, loadVar_blk (cs := #[.func (.func 140) #[] #[.pointer (some ⟨w.heap.size + 1 + 1, 0, none⟩)], .func (.func 75) #[] #[], .nilFunc, .nilFunc]) (t := 94) ?_ Tryz.underlying94 rfl info_form⟩) rfl ⟨w.heap.size + 1 + 1, rfl, ?_, ?_⟩
  · exact ((Blk.new w _ _).alloc _).alloc _
  · have := Blk.new ((w.alloc (.cells #[.func (.func 140) #[] #[.pointer (some ⟨w.heap.size + 1 + 1, 0, none⟩)], .func (.func 75) #[] #[], .nilFunc, .nilFunc] 94)).alloc (.cells #[.func (.func 24) #[] #[], .func (.func 50) #[] #[], .func (.func 52) #[] #[], .func (.func 55) #[] #[]] 94)) #[.func (.func 74) #[] #[]] 123
    simpa using this
  · exact (((Below.refl _ w).alloc (Nat.le_refl _) _).alloc (by simp) _).alloc (by simp; omega) _

set_option maxRecDepth 100000 in
theorem right_texts (d : ByteArray) (w : World) : Calls Tryz.prog 28 #[.int .i64 16, .string d] w fun e w' => e = .returned (.bool (decide (d.size ≤ 2000) && (takeR textsT d).isSome)) ∧ Below w.heap.size w w' := by
  by_cases hd : d.size ≤ 2000
  · have hd' : decide ((d.size : Int) ≤ 2000) = true := by simp; omega
    rw [decide_eq_true hd, Bool.true_and]
    clear hd
    have hfl := form_field0
    go_enter Tryz.func28, Tryz.ntmps28
    go_wp2_with (first | (go_at_call 37; refine (isType_any _ _).mono ?_; rintro e w' ⟨rfl, rfl⟩) | (go_at_call 38; refine (form_texts _).mono ?_; rintro e w1 ⟨c, rfl, hc, hb⟩; have HC := Lib.hid hc; clear hc) | (go_at_call 140; refine (is_texts1 _ _ _ HC.out).mono ?_; rintro e w2 ⟨rfl, hb2⟩))
    go_ret
    exact ⟨rfl, hb.trans (hb2.mono hb.size)⟩
  · have hd' : decide ((d.size : Int) ≤ 2000) = false := by simp; omega
    rw [decide_eq_false hd, Bool.false_and]
    clear hd
    go_enter Tryz.func28, Tryz.ntmps28
    go_wp2_with (go_at_call 37; refine (isType_any _ _).mono ?_; rintro e w' ⟨rfl, rfl⟩)
    go_ret
    exact ⟨rfl, Below.refl _ _⟩

theorem is_ds (g : Nat) (w : World) : Calls Tryz.prog 76 #[.func (.func g) #[] #[]] w fun e w' => e = .returned (.func (.func 146) #[] #[.pointer (some ⟨w.heap.size, 0, none⟩)]) ∧ w' = w.alloc (.cells #[.func (.func g) #[] #[]] 127) := by
  have hmf := makeFunc_run
  go_enter Tryz.func76, Tryz.ntmps76
  go_wp2
  go_ret
  exact ⟨rfl, rfl⟩
set_option maxRecDepth 100000 in
theorem is_ds1 (d : ByteArray) (c : Nat) (w : World) (hc : Blk w c #[.func (.func 77) #[] #[]] 127) :
    Calls Tryz.prog 146 #[.string d, .pointer (some ⟨c, 0, none⟩)] w fun e w' => e = .returned (.bool (takeR dsT d).isSome) ∧ Below w.heap.size w w' := by
  have c0 : w.cell? ⟨c, 0, none⟩ = some (.func (.func 77) #[] #[]) := hc.cell 0
  clear hc
  go_enter Tryz.func146, Tryz.ntmps146
  go_wp2_with fail
  refine (data_ds d _).mono ?_
  rintro e w1 ⟨hb, h⟩
  rcases h1 : takeR dsT d with _ | x
  · rw [h1] at h
    obtain rfl := h
    have H1 := Lib.hid h1; clear h1
    go_wp2
    go_ret
    rw [H1.out]
    exact ⟨rfl, hb.alloc hb.size _⟩
  · rw [h1] at h
    obtain ⟨v, hv, rfl⟩ := h
    have H1 := Lib.hid h1; clear h1
    obtain rfl : v = x.v := hv
    simp only [DsR.v]
    go_wp2
    go_ret
    rw [H1.out]
    exact ⟨rfl, hb.alloc hb.size _⟩

set_option maxRecDepth 100000 in
theorem form_ds (w : World) : Calls Tryz.prog 38 #[.int .i64 43] w fun e w' =>
    ∃ c, e = .returned (.agg #[.func (.func 146) #[] #[.pointer (some ⟨c, 0, none⟩)], .func (.func 78) #[] #[], .func (.func 80) #[] #[], .nilFunc]) ∧ Blk w' c #[.func (.func 77) #[] #[]] 127 ∧ Below w.heap.size w w' := by
  go_enter Tryz.func38, Tryz.ntmps38
  go_wp2_with (go_at_call 76; refine (is_ds _ _).mono ?_; rintro e w' ⟨rfl, rfl⟩)
  refine bodyPost_ret (results1 rfl ⟨_, rfl, loadVar_blk (cs := #[.func (.func 146) #[] #[.pointer (some ⟨w.heap.size + 1 + 1, 0, none⟩)], .func (.func 78) #[] #[], .func (.func 80) #[] #[], .nilFunc]) (t := 94) ?_ Tryz.underlying94 rfl info_form⟩) rfl ⟨w.heap.size + 1 + 1, rfl, ?_, ?_⟩
  · exact ((Blk.new w _ _).alloc _).alloc _
  · have := Blk.new ((w.alloc (.cells #[.func (.func 146) #[] #[.pointer (some ⟨w.heap.size + 1 + 1, 0, none⟩)], .func (.func 78) #[] #[], .func (.func 80) #[] #[], .nilFunc] 94)).alloc (.cells #[.func (.func 24) #[] #[], .func (.func 50) #[] #[], .func (.func 52) #[] #[], .func (.func 55) #[] #[]] 94)) #[.func (.func 77) #[] #[]] 127
    simpa using this
  · exact (((Below.refl _ w).alloc (Nat.le_refl _) _).alloc (by simp) _).alloc (by simp; omega) _

set_option maxRecDepth 100000 in
theorem right_ds (d : ByteArray) (w : World) : Calls Tryz.prog 28 #[.int .i64 43, .string d] w fun e w' => e = .returned (.bool (decide (d.size ≤ 2000) && (takeR dsT d).isSome)) ∧ Below w.heap.size w w' := by
  by_cases hd : d.size ≤ 2000
  · have hd' : decide ((d.size : Int) ≤ 2000) = true := by simp; omega
    rw [decide_eq_true hd, Bool.true_and]
    clear hd
    have hfl := form_field0
    go_enter Tryz.func28, Tryz.ntmps28
    go_wp2_with (first | (go_at_call 37; refine (isType_any _ _).mono ?_; rintro e w' ⟨rfl, rfl⟩) | (go_at_call 38; refine (form_ds _).mono ?_; rintro e w1 ⟨c, rfl, hc, hb⟩; have HC := Lib.hid hc; clear hc) | (go_at_call 146; refine (is_ds1 _ _ _ HC.out).mono ?_; rintro e w2 ⟨rfl, hb2⟩))
    go_ret
    exact ⟨rfl, hb.trans (hb2.mono hb.size)⟩
  · have hd' : decide ((d.size : Int) ≤ 2000) = false := by simp; omega
    rw [decide_eq_false hd, Bool.false_and]
    clear hd
    go_enter Tryz.func28, Tryz.ntmps28
    go_wp2_with (go_at_call 37; refine (isType_any _ _).mono ?_; rintro e w' ⟨rfl, rfl⟩)
    go_ret
    exact ⟨rfl, Below.refl _ _⟩

theorem is_sig (g : Nat) (w : World) : Calls Tryz.prog 81 #[.func (.func g) #[] #[]] w fun e w' => e = .returned (.func (.func 152) #[] #[.pointer (some ⟨w.heap.size, 0, none⟩)]) ∧ w' = w.alloc (.cells #[.func (.func g) #[] #[]] 80) := by
  have hmf := makeFunc_run
  go_enter Tryz.func81, Tryz.ntmps81
  go_wp2
  go_ret
  exact ⟨rfl, rfl⟩
set_option maxRecDepth 100000 in
theorem is_sig1 (d : ByteArray) (c : Nat) (w : World) (hc : Blk w c #[.func (.func 30) #[] #[]] 80) :
    Calls Tryz.prog 152 #[.string d, .pointer (some ⟨c, 0, none⟩)] w fun e w' => e = .returned (.bool (takeR sigT d).isSome) ∧ Below w.heap.size w w' := by
  have c0 : w.cell? ⟨c, 0, none⟩ = some (.func (.func 30) #[] #[]) := hc.cell 0
  clear hc
  go_enter Tryz.func152, Tryz.ntmps152
  go_wp2_with fail
  refine (data_sig d _).mono ?_
  rintro e w1 ⟨hb, h⟩
  rcases h1 : takeR sigT d with _ | x
  · rw [h1] at h
    obtain rfl := h
    have H1 := Lib.hid h1; clear h1
    go_wp2
    go_ret
    rw [H1.out]
    exact ⟨rfl, hb.alloc hb.size _⟩
  · rw [h1] at h
    obtain ⟨v, hv, rfl⟩ := h
    have H1 := Lib.hid h1; clear h1
    obtain rfl : v = x.v := hv
    simp only [SigR.v]
    go_wp2
    go_ret
    rw [H1.out]
    exact ⟨rfl, hb.alloc hb.size _⟩

set_option maxRecDepth 100000 in
theorem form_sig (w : World) : Calls Tryz.prog 38 #[.int .i64 46] w fun e w' =>
    ∃ c, e = .returned (.agg #[.func (.func 152) #[] #[.pointer (some ⟨c, 0, none⟩)], .func (.func 82) #[] #[], .func (.func 83) #[] #[], .nilFunc]) ∧ Blk w' c #[.func (.func 30) #[] #[]] 80 ∧ Below w.heap.size w w' := by
  go_enter Tryz.func38, Tryz.ntmps38
  go_wp2_with (go_at_call 81; refine (is_sig _ _).mono ?_; rintro e w' ⟨rfl, rfl⟩)
  refine bodyPost_ret (results1 rfl ⟨_, rfl, loadVar_blk (cs := #[.func (.func 152) #[] #[.pointer (some ⟨w.heap.size + 1 + 1, 0, none⟩)], .func (.func 82) #[] #[], .func (.func 83) #[] #[], .nilFunc]) (t := 94) ?_ Tryz.underlying94 rfl info_form⟩) rfl ⟨w.heap.size + 1 + 1, rfl, ?_, ?_⟩
  · exact ((Blk.new w _ _).alloc _).alloc _
  · have := Blk.new ((w.alloc (.cells #[.func (.func 152) #[] #[.pointer (some ⟨w.heap.size + 1 + 1, 0, none⟩)], .func (.func 82) #[] #[], .func (.func 83) #[] #[], .nilFunc] 94)).alloc (.cells #[.func (.func 24) #[] #[], .func (.func 50) #[] #[], .func (.func 52) #[] #[], .func (.func 55) #[] #[]] 94)) #[.func (.func 30) #[] #[]] 80
    simpa using this
  · exact (((Below.refl _ w).alloc (Nat.le_refl _) _).alloc (by simp) _).alloc (by simp; omega) _

set_option maxRecDepth 100000 in
theorem right_sig (d : ByteArray) (w : World) : Calls Tryz.prog 28 #[.int .i64 46, .string d] w fun e w' => e = .returned (.bool (decide (d.size ≤ 2000) && (takeR sigT d).isSome)) ∧ Below w.heap.size w w' := by
  by_cases hd : d.size ≤ 2000
  · have hd' : decide ((d.size : Int) ≤ 2000) = true := by simp; omega
    rw [decide_eq_true hd, Bool.true_and]
    clear hd
    have hfl := form_field0
    go_enter Tryz.func28, Tryz.ntmps28
    go_wp2_with (first | (go_at_call 37; refine (isType_any _ _).mono ?_; rintro e w' ⟨rfl, rfl⟩) | (go_at_call 38; refine (form_sig _).mono ?_; rintro e w1 ⟨c, rfl, hc, hb⟩; have HC := Lib.hid hc; clear hc) | (go_at_call 152; refine (is_sig1 _ _ _ HC.out).mono ?_; rintro e w2 ⟨rfl, hb2⟩))
    go_ret
    exact ⟨rfl, hb.trans (hb2.mono hb.size)⟩
  · have hd' : decide ((d.size : Int) ≤ 2000) = false := by simp; omega
    rw [decide_eq_false hd, Bool.false_and]
    clear hd
    go_enter Tryz.func28, Tryz.ntmps28
    go_wp2_with (go_at_call 37; refine (isType_any _ _).mono ?_; rintro e w' ⟨rfl, rfl⟩)
    go_ret
    exact ⟨rfl, Below.refl _ _⟩

theorem is_nsec (g : Nat) (w : World) : Calls Tryz.prog 84 #[.func (.func g) #[] #[]] w fun e w' => e = .returned (.func (.func 155) #[] #[.pointer (some ⟨w.heap.size, 0, none⟩)]) ∧ w' = w.alloc (.cells #[.func (.func g) #[] #[]] 134) := by
  have hmf := makeFunc_run
  go_enter Tryz.func84, Tryz.ntmps84
  go_wp2
  go_ret
  exact ⟨rfl, rfl⟩
set_option maxRecDepth 100000 in
theorem is_nsec1 (d : ByteArray) (c : Nat) (w : World) (hc : Blk w c #[.func (.func 85) #[] #[]] 134) :
    Calls Tryz.prog 155 #[.string d, .pointer (some ⟨c, 0, none⟩)] w fun e w' => e = .returned (.bool (takeR nsecT d).isSome) ∧ Below w.heap.size w w' := by
  have c0 : w.cell? ⟨c, 0, none⟩ = some (.func (.func 85) #[] #[]) := hc.cell 0
  clear hc
  go_enter Tryz.func155, Tryz.ntmps155
  go_wp2_with fail
  refine (data_nsec d _).mono ?_
  rintro e w1 ⟨hb, h⟩
  rcases h1 : takeR nsecT d with _ | x
  · rw [h1] at h
    obtain rfl := h
    have H1 := Lib.hid h1; clear h1
    go_wp2
    go_ret
    rw [H1.out]
    exact ⟨rfl, hb.alloc hb.size _⟩
  · rw [h1] at h
    obtain ⟨v, hv, rfl⟩ := h
    have H1 := Lib.hid h1; clear h1
    obtain ⟨u, rfl, hu⟩ := hv
    obtain ⟨uA, uc, rfl⟩ := OwnI.len hu
    clear hu
    simp only [NsecR.v]
    go_wp2
    go_ret
    rw [H1.out]
    exact ⟨rfl, hb.alloc hb.size _⟩

set_option maxRecDepth 100000 in
theorem form_nsec (w : World) : Calls Tryz.prog 38 #[.int .i64 47] w fun e w' =>
    ∃ c, e = .returned (.agg #[.func (.func 155) #[] #[.pointer (some ⟨c, 0, none⟩)], .func (.func 86) #[] #[], .func (.func 88) #[] #[], .nilFunc]) ∧ Blk w' c #[.func (.func 85) #[] #[]] 134 ∧ Below w.heap.size w w' := by
  go_enter Tryz.func38, Tryz.ntmps38
  go_wp2_with (go_at_call 84; refine (is_nsec _ _).mono ?_; rintro e w' ⟨rfl, rfl⟩)
  refine bodyPost_ret (results1 rfl ⟨_, rfl, loadVar_blk (cs := #[.func (.func 155) #[] #[.pointer (some ⟨w.heap.size + 1 + 1, 0, none⟩)], .func (.func 86) #[] #[], .func (.func 88) #[] #[], .nilFunc]) (t := 94) ?_ Tryz.underlying94 rfl info_form⟩) rfl ⟨w.heap.size + 1 + 1, rfl, ?_, ?_⟩
  · exact ((Blk.new w _ _).alloc _).alloc _
  · have := Blk.new ((w.alloc (.cells #[.func (.func 155) #[] #[.pointer (some ⟨w.heap.size + 1 + 1, 0, none⟩)], .func (.func 86) #[] #[], .func (.func 88) #[] #[], .nilFunc] 94)).alloc (.cells #[.func (.func 24) #[] #[], .func (.func 50) #[] #[], .func (.func 52) #[] #[], .func (.func 55) #[] #[]] 94)) #[.func (.func 85) #[] #[]] 134
    simpa using this
  · exact (((Below.refl _ w).alloc (Nat.le_refl _) _).alloc (by simp) _).alloc (by simp; omega) _

set_option maxRecDepth 100000 in
theorem right_nsec (d : ByteArray) (w : World) : Calls Tryz.prog 28 #[.int .i64 47, .string d] w fun e w' => e = .returned (.bool (decide (d.size ≤ 2000) && (takeR nsecT d).isSome)) ∧ Below w.heap.size w w' := by
  by_cases hd : d.size ≤ 2000
  · have hd' : decide ((d.size : Int) ≤ 2000) = true := by simp; omega
    rw [decide_eq_true hd, Bool.true_and]
    clear hd
    have hfl := form_field0
    go_enter Tryz.func28, Tryz.ntmps28
    go_wp2_with (first | (go_at_call 37; refine (isType_any _ _).mono ?_; rintro e w' ⟨rfl, rfl⟩) | (go_at_call 38; refine (form_nsec _).mono ?_; rintro e w1 ⟨c, rfl, hc, hb⟩; have HC := Lib.hid hc; clear hc) | (go_at_call 155; refine (is_nsec1 _ _ _ HC.out).mono ?_; rintro e w2 ⟨rfl, hb2⟩))
    go_ret
    exact ⟨rfl, hb.trans (hb2.mono hb.size)⟩
  · have hd' : decide ((d.size : Int) ≤ 2000) = false := by simp; omega
    rw [decide_eq_false hd, Bool.false_and]
    clear hd
    go_enter Tryz.func28, Tryz.ntmps28
    go_wp2_with (go_at_call 37; refine (isType_any _ _).mono ?_; rintro e w' ⟨rfl, rfl⟩)
    go_ret
    exact ⟨rfl, Below.refl _ _⟩

theorem is_nsec3 (g : Nat) (w : World) : Calls Tryz.prog 95 #[.func (.func g) #[] #[]] w fun e w' => e = .returned (.func (.func 164) #[] #[.pointer (some ⟨w.heap.size, 0, none⟩)]) ∧ w' = w.alloc (.cells #[.func (.func g) #[] #[]] 147) := by
  have hmf := makeFunc_run
  go_enter Tryz.func95, Tryz.ntmps95
  go_wp2
  go_ret
  exact ⟨rfl, rfl⟩
set_option maxRecDepth 100000 in
theorem is_nsec31 (d : ByteArray) (c : Nat) (w : World) (hc : Blk w c #[.func (.func 96) #[] #[]] 147) :
    Calls Tryz.prog 164 #[.string d, .pointer (some ⟨c, 0, none⟩)] w fun e w' => e = .returned (.bool (takeR nsec3T d).isSome) ∧ Below w.heap.size w w' := by
  have c0 : w.cell? ⟨c, 0, none⟩ = some (.func (.func 96) #[] #[]) := hc.cell 0
  clear hc
  go_enter Tryz.func164, Tryz.ntmps164
  go_wp2_with fail
  refine (data_nsec3 d _).mono ?_
  rintro e w1 ⟨hb, h⟩
  rcases h1 : takeR nsec3T d with _ | x
  · rw [h1] at h
    obtain rfl := h
    have H1 := Lib.hid h1; clear h1
    go_wp2
    go_ret
    rw [H1.out]
    exact ⟨rfl, hb.alloc hb.size _⟩
  · rw [h1] at h
    obtain ⟨v, hv, rfl⟩ := h
    have H1 := Lib.hid h1; clear h1
    obtain ⟨u, rfl, hu⟩ := hv
    obtain ⟨uA, uc, rfl⟩ := OwnI.len hu
    clear hu
    simp only [Nsec3R.v]
    go_wp2
    go_ret
    rw [H1.out]
    exact ⟨rfl, hb.alloc hb.size _⟩

set_option maxRecDepth 100000 in
theorem form_nsec3 (w : World) : Calls Tryz.prog 38 #[.int .i64 50] w fun e w' =>
    ∃ c, e = .returned (.agg #[.func (.func 164) #[] #[.pointer (some ⟨c, 0, none⟩)], .func (.func 97) #[] #[], .func (.func 98) #[] #[], .nilFunc]) ∧ Blk w' c #[.func (.func 96) #[] #[]] 147 ∧ Below w.heap.size w w' := by
  go_enter Tryz.func38, Tryz.ntmps38
  go_wp2_with (go_at_call 95; refine (is_nsec3 _ _).mono ?_; rintro e w' ⟨rfl, rfl⟩)
  refine bodyPost_ret (results1 rfl ⟨_, rfl, loadVar_blk (cs := #[.func (.func 164) #[] #[.pointer (some ⟨w.heap.size + 1 + 1, 0, none⟩)], .func (.func 97) #[] #[], .func (.func 98) #[] #[], .nilFunc]) (t := 94) ?_ Tryz.underlying94 rfl info_form⟩) rfl ⟨w.heap.size + 1 + 1, rfl, ?_, ?_⟩
  · exact ((Blk.new w _ _).alloc _).alloc _
  · have := Blk.new ((w.alloc (.cells #[.func (.func 164) #[] #[.pointer (some ⟨w.heap.size + 1 + 1, 0, none⟩)], .func (.func 97) #[] #[], .func (.func 98) #[] #[], .nilFunc] 94)).alloc (.cells #[.func (.func 24) #[] #[], .func (.func 50) #[] #[], .func (.func 52) #[] #[], .func (.func 55) #[] #[]] 94)) #[.func (.func 96) #[] #[]] 147
    simpa using this
  · exact (((Below.refl _ w).alloc (Nat.le_refl _) _).alloc (by simp) _).alloc (by simp; omega) _

set_option maxRecDepth 100000 in
theorem right_nsec3 (d : ByteArray) (w : World) : Calls Tryz.prog 28 #[.int .i64 50, .string d] w fun e w' => e = .returned (.bool (decide (d.size ≤ 2000) && (takeR nsec3T d).isSome)) ∧ Below w.heap.size w w' := by
  by_cases hd : d.size ≤ 2000
  · have hd' : decide ((d.size : Int) ≤ 2000) = true := by simp; omega
    rw [decide_eq_true hd, Bool.true_and]
    clear hd
    have hfl := form_field0
    go_enter Tryz.func28, Tryz.ntmps28
    go_wp2_with (first | (go_at_call 37; refine (isType_any _ _).mono ?_; rintro e w' ⟨rfl, rfl⟩) | (go_at_call 38; refine (form_nsec3 _).mono ?_; rintro e w1 ⟨c, rfl, hc, hb⟩; have HC := Lib.hid hc; clear hc) | (go_at_call 164; refine (is_nsec31 _ _ _ HC.out).mono ?_; rintro e w2 ⟨rfl, hb2⟩))
    go_ret
    exact ⟨rfl, hb.trans (hb2.mono hb.size)⟩
  · have hd' : decide ((d.size : Int) ≤ 2000) = false := by simp; omega
    rw [decide_eq_false hd, Bool.false_and]
    clear hd
    go_enter Tryz.func28, Tryz.ntmps28
    go_wp2_with (go_at_call 37; refine (isType_any _ _).mono ?_; rintro e w' ⟨rfl, rfl⟩)
    go_ret
    exact ⟨rfl, Below.refl _ _⟩

theorem fn_four (d : ByteArray) (w : World) : Calls Tryz.prog 56 #[.string d] w fun e w' => e = .returned (.bool (decide (d.size = 4))) ∧ w = w' := by
  by_cases h : d.size = 4
  · have t1 : ((d.size : Int) == 4) = true := by rw [beq_iff_eq]; omega
    rw [decide_eq_true h]; clear h
    go_enter Tryz.func56, Tryz.ntmps56
    go_wp2
    go_ret
    exact ⟨rfl, rfl⟩
  · have t1 : ((d.size : Int) == 4) = false := by rw [beq_eq_false_iff_ne]; omega
    rw [decide_eq_false h]; clear h
    go_enter Tryz.func56, Tryz.ntmps56
    go_wp2
    go_ret
    exact ⟨rfl, rfl⟩

theorem fn_sixteen (d : ByteArray) (w : World) : Calls Tryz.prog 59 #[.string d] w fun e w' => e = .returned (.bool (decide (d.size = 16))) ∧ w = w' := by
  by_cases h : d.size = 16
  · have t1 : ((d.size : Int) == 16) = true := by rw [beq_iff_eq]; omega
    rw [decide_eq_true h]; clear h
    go_enter Tryz.func59, Tryz.ntmps59
    go_wp2
    go_ret
    exact ⟨rfl, rfl⟩
  · have t1 : ((d.size : Int) == 16) = false := by rw [beq_eq_false_iff_ne]; omega
    rw [decide_eq_false h]; clear h
    go_enter Tryz.func59, Tryz.ntmps59
    go_wp2
    go_ret
    exact ⟨rfl, rfl⟩

theorem fn_any (d : ByteArray) (w : World) : Calls Tryz.prog 99 #[.string d] w fun e w' => e = .returned (.bool true) ∧ w = w' := by
  go_enter Tryz.func99, Tryz.ntmps99
  go_wp2
  go_ret
  exact ⟨rfl, rfl⟩

set_option maxRecDepth 100000 in
theorem form_four (w : World) : Calls Tryz.prog 38 #[.int .i64 1] w fun e w' => e = .returned (.agg #[.func (.func 56) #[] #[], .func (.func 57) #[] #[], .func (.func 58) #[] #[], .nilFunc]) ∧ Below w.heap.size w w' := by
  go_enter Tryz.func38, Tryz.ntmps38
  go_wp2_with fail
  refine bodyPost_ret (results1 rfl ⟨_, rfl, loadVar_blk (cs := #[.func (.func 56) #[] #[], .func (.func 57) #[] #[], .func (.func 58) #[] #[], .nilFunc]) (t := 94) ?_ Tryz.underlying94 rfl info_form⟩) rfl ⟨rfl, ?_⟩
  · exact (Blk.new w _ _).alloc _
  · exact ((Below.refl _ w).alloc (Nat.le_refl _) _).alloc (by simp) _

set_option maxRecDepth 100000 in
theorem form_sixteen (w : World) : Calls Tryz.prog 38 #[.int .i64 28] w fun e w' => e = .returned (.agg #[.func (.func 59) #[] #[], .func (.func 60) #[] #[], .func (.func 61) #[] #[], .nilFunc]) ∧ Below w.heap.size w w' := by
  go_enter Tryz.func38, Tryz.ntmps38
  go_wp2_with fail
  refine bodyPost_ret (results1 rfl ⟨_, rfl, loadVar_blk (cs := #[.func (.func 59) #[] #[], .func (.func 60) #[] #[], .func (.func 61) #[] #[], .nilFunc]) (t := 94) ?_ Tryz.underlying94 rfl info_form⟩) rfl ⟨rfl, ?_⟩
  · exact (Blk.new w _ _).alloc _
  · exact ((Below.refl _ w).alloc (Nat.le_refl _) _).alloc (by simp) _

set_option maxRecDepth 100000 in
theorem form_ns (w : World) : Calls Tryz.prog 38 #[.int .i64 2] w fun e w' => e = .returned (.agg #[.func (.func 24) #[] #[], .func (.func 50) #[] #[], .func (.func 52) #[] #[], .func (.func 55) #[] #[]]) ∧ Below w.heap.size w w' := by
  go_enter Tryz.func38, Tryz.ntmps38
  go_wp2_with fail
  refine bodyPost_ret (results1 rfl ⟨_, rfl, loadVar_blk (cs := #[.func (.func 24) #[] #[], .func (.func 50) #[] #[], .func (.func 52) #[] #[], .func (.func 55) #[] #[]]) (t := 94) ?_ Tryz.underlying94 rfl info_form⟩) rfl ⟨rfl, ?_⟩
  · exact (Blk.new w _ _).alloc _
  · exact ((Below.refl _ w).alloc (Nat.le_refl _) _).alloc (by simp) _

set_option maxRecDepth 100000 in
theorem form_cname (w : World) : Calls Tryz.prog 38 #[.int .i64 5] w fun e w' => e = .returned (.agg #[.func (.func 24) #[] #[], .func (.func 50) #[] #[], .func (.func 52) #[] #[], .func (.func 55) #[] #[]]) ∧ Below w.heap.size w w' := by
  go_enter Tryz.func38, Tryz.ntmps38
  go_wp2_with fail
  refine bodyPost_ret (results1 rfl ⟨_, rfl, loadVar_blk (cs := #[.func (.func 24) #[] #[], .func (.func 50) #[] #[], .func (.func 52) #[] #[], .func (.func 55) #[] #[]]) (t := 94) ?_ Tryz.underlying94 rfl info_form⟩) rfl ⟨rfl, ?_⟩
  · exact (Blk.new w _ _).alloc _
  · exact ((Below.refl _ w).alloc (Nat.le_refl _) _).alloc (by simp) _

set_option maxRecDepth 100000 in
theorem form_dname (w : World) : Calls Tryz.prog 38 #[.int .i64 39] w fun e w' => e = .returned (.agg #[.func (.func 24) #[] #[], .func (.func 50) #[] #[], .func (.func 52) #[] #[], .func (.func 55) #[] #[]]) ∧ Below w.heap.size w w' := by
  go_enter Tryz.func38, Tryz.ntmps38
  go_wp2_with fail
  refine bodyPost_ret (results1 rfl ⟨_, rfl, loadVar_blk (cs := #[.func (.func 24) #[] #[], .func (.func 50) #[] #[], .func (.func 52) #[] #[], .func (.func 55) #[] #[]]) (t := 94) ?_ Tryz.underlying94 rfl info_form⟩) rfl ⟨rfl, ?_⟩
  · exact (Blk.new w _ _).alloc _
  · exact ((Below.refl _ w).alloc (Nat.le_refl _) _).alloc (by simp) _

def otherKind (k : Int) : Prop := k ≠ 1 ∧ k ≠ 28 ∧ k ≠ 2 ∧ k ≠ 5 ∧ k ≠ 39 ∧ k ≠ 6 ∧ k ≠ 15 ∧ k ≠ 16 ∧ k ≠ 43 ∧ k ≠ 46 ∧ k ≠ 47 ∧ k ≠ 48 ∧ k ≠ 50
set_option maxRecDepth 100000 in
theorem form_other (k : Int) (w : World) (hk : otherKind k) : Calls Tryz.prog 38 #[.int .i64 k] w fun e w' => e = .returned (.agg #[.func (.func 99) #[] #[], .func (.func 100) #[] #[], .func (.func 101) #[] #[], .nilFunc]) ∧ Below w.heap.size w w' := by
  obtain ⟨n1, n28, n2, n5, n39, n6, n15, n16, n43, n46, n47, n48, n50⟩ := hk
  have t1 : (k == 1) = false := by rw [beq_eq_false_iff_ne]; omega
  have t28 : (k == 28) = false := by rw [beq_eq_false_iff_ne]; omega
  have t2 : (k == 2) = false := by rw [beq_eq_false_iff_ne]; omega
  have t5 : (k == 5) = false := by rw [beq_eq_false_iff_ne]; omega
  have t39 : (k == 39) = false := by rw [beq_eq_false_iff_ne]; omega
  have t6 : (k == 6) = false := by rw [beq_eq_false_iff_ne]; omega
  have t15 : (k == 15) = false := by rw [beq_eq_false_iff_ne]; omega
  have t16 : (k == 16) = false := by rw [beq_eq_false_iff_ne]; omega
  have t43 : (k == 43) = false := by rw [beq_eq_false_iff_ne]; omega
  have t46 : (k == 46) = false := by rw [beq_eq_false_iff_ne]; omega
  have t47 : (k == 47) = false := by rw [beq_eq_false_iff_ne]; omega
  have t48 : (k == 48) = false := by rw [beq_eq_false_iff_ne]; omega
  have t50 : (k == 50) = false := by rw [beq_eq_false_iff_ne]; omega
  clear n1 n28 n2 n5 n39 n6 n15 n16 n43 n46 n47 n48 n50
  go_enter Tryz.func38, Tryz.ntmps38
  go_wp2_with fail
  refine bodyPost_ret (results1 rfl ⟨_, rfl, loadVar_blk (cs := #[.func (.func 99) #[] #[], .func (.func 100) #[] #[], .func (.func 101) #[] #[], .nilFunc]) (t := 94) ?_ Tryz.underlying94 rfl info_form⟩) rfl ⟨rfl, ?_⟩
  · exact (Blk.new w _ _).alloc _
  · exact ((Below.refl _ w).alloc (Nat.le_refl _) _).alloc (by simp) _

set_option maxRecDepth 100000 in
theorem right_four (d : ByteArray) (w : World) : Calls Tryz.prog 28 #[.int .i64 1, .string d] w fun e w' => e = .returned (.bool (decide (d.size ≤ 2000) && decide (d.size = 4))) ∧ Below w.heap.size w w' := by
  by_cases hd : d.size ≤ 2000
  · have hd' : decide ((d.size : Int) ≤ 2000) = true := by simp; omega
    rw [decide_eq_true hd, Bool.true_and]
    clear hd
    have hfl := form_field0
    go_enter Tryz.func28, Tryz.ntmps28
    go_wp2_with (first | (go_at_call 37; refine (isType_any _ _).mono ?_; rintro e w' ⟨rfl, rfl⟩) | (go_at_call 38; refine (form_four _).mono ?_; rintro e w1 ⟨rfl, hb⟩) | (go_at_call 56; refine (fn_four _ _).mono ?_; rintro e w2 ⟨rfl, rfl⟩))
    go_ret
    exact ⟨rfl, hb⟩
  · have hd' : decide ((d.size : Int) ≤ 2000) = false := by simp; omega
    rw [decide_eq_false hd, Bool.false_and]
    clear hd
    go_enter Tryz.func28, Tryz.ntmps28
    go_wp2_with (go_at_call 37; refine (isType_any _ _).mono ?_; rintro e w' ⟨rfl, rfl⟩)
    go_ret
    exact ⟨rfl, Below.refl _ _⟩

set_option maxRecDepth 100000 in
theorem right_sixteen (d : ByteArray) (w : World) : Calls Tryz.prog 28 #[.int .i64 28, .string d] w fun e w' => e = .returned (.bool (decide (d.size ≤ 2000) && decide (d.size = 16))) ∧ Below w.heap.size w w' := by
  by_cases hd : d.size ≤ 2000
  · have hd' : decide ((d.size : Int) ≤ 2000) = true := by simp; omega
    rw [decide_eq_true hd, Bool.true_and]
    clear hd
    have hfl := form_field0
    go_enter Tryz.func28, Tryz.ntmps28
    go_wp2_with (first | (go_at_call 37; refine (isType_any _ _).mono ?_; rintro e w' ⟨rfl, rfl⟩) | (go_at_call 38; refine (form_sixteen _).mono ?_; rintro e w1 ⟨rfl, hb⟩) | (go_at_call 59; refine (fn_sixteen _ _).mono ?_; rintro e w2 ⟨rfl, rfl⟩))
    go_ret
    exact ⟨rfl, hb⟩
  · have hd' : decide ((d.size : Int) ≤ 2000) = false := by simp; omega
    rw [decide_eq_false hd, Bool.false_and]
    clear hd
    go_enter Tryz.func28, Tryz.ntmps28
    go_wp2_with (go_at_call 37; refine (isType_any _ _).mono ?_; rintro e w' ⟨rfl, rfl⟩)
    go_ret
    exact ⟨rfl, Below.refl _ _⟩

set_option maxRecDepth 100000 in
theorem right_ns (d : ByteArray) (w : World) : Calls Tryz.prog 28 #[.int .i64 2, .string d] w fun e w' => e = .returned (.bool (decide (d.size ≤ 2000) && nameRight d)) ∧ Below w.heap.size w w' := by
  by_cases hd : d.size ≤ 2000
  · have hd' : decide ((d.size : Int) ≤ 2000) = true := by simp; omega
    rw [decide_eq_true hd, Bool.true_and]
    clear hd
    have hfl := form_field0
    go_enter Tryz.func28, Tryz.ntmps28
    go_wp2_with (first | (go_at_call 37; refine (isType_any _ _).mono ?_; rintro e w' ⟨rfl, rfl⟩) | (go_at_call 38; refine (form_ns _).mono ?_; rintro e w1 ⟨rfl, hb⟩) | (go_at_call 24; refine (name_right _ _).mono ?_; rintro e w2 ⟨rfl, hb2⟩))
    go_ret
    exact ⟨rfl, hb.trans (hb2.mono hb.size)⟩
  · have hd' : decide ((d.size : Int) ≤ 2000) = false := by simp; omega
    rw [decide_eq_false hd, Bool.false_and]
    clear hd
    go_enter Tryz.func28, Tryz.ntmps28
    go_wp2_with (go_at_call 37; refine (isType_any _ _).mono ?_; rintro e w' ⟨rfl, rfl⟩)
    go_ret
    exact ⟨rfl, Below.refl _ _⟩

set_option maxRecDepth 100000 in
theorem right_cname (d : ByteArray) (w : World) : Calls Tryz.prog 28 #[.int .i64 5, .string d] w fun e w' => e = .returned (.bool (decide (d.size ≤ 2000) && nameRight d)) ∧ Below w.heap.size w w' := by
  by_cases hd : d.size ≤ 2000
  · have hd' : decide ((d.size : Int) ≤ 2000) = true := by simp; omega
    rw [decide_eq_true hd, Bool.true_and]
    clear hd
    have hfl := form_field0
    go_enter Tryz.func28, Tryz.ntmps28
    go_wp2_with (first | (go_at_call 37; refine (isType_any _ _).mono ?_; rintro e w' ⟨rfl, rfl⟩) | (go_at_call 38; refine (form_cname _).mono ?_; rintro e w1 ⟨rfl, hb⟩) | (go_at_call 24; refine (name_right _ _).mono ?_; rintro e w2 ⟨rfl, hb2⟩))
    go_ret
    exact ⟨rfl, hb.trans (hb2.mono hb.size)⟩
  · have hd' : decide ((d.size : Int) ≤ 2000) = false := by simp; omega
    rw [decide_eq_false hd, Bool.false_and]
    clear hd
    go_enter Tryz.func28, Tryz.ntmps28
    go_wp2_with (go_at_call 37; refine (isType_any _ _).mono ?_; rintro e w' ⟨rfl, rfl⟩)
    go_ret
    exact ⟨rfl, Below.refl _ _⟩

set_option maxRecDepth 100000 in
theorem right_dname (d : ByteArray) (w : World) : Calls Tryz.prog 28 #[.int .i64 39, .string d] w fun e w' => e = .returned (.bool (decide (d.size ≤ 2000) && nameRight d)) ∧ Below w.heap.size w w' := by
  by_cases hd : d.size ≤ 2000
  · have hd' : decide ((d.size : Int) ≤ 2000) = true := by simp; omega
    rw [decide_eq_true hd, Bool.true_and]
    clear hd
    have hfl := form_field0
    go_enter Tryz.func28, Tryz.ntmps28
    go_wp2_with (first | (go_at_call 37; refine (isType_any _ _).mono ?_; rintro e w' ⟨rfl, rfl⟩) | (go_at_call 38; refine (form_dname _).mono ?_; rintro e w1 ⟨rfl, hb⟩) | (go_at_call 24; refine (name_right _ _).mono ?_; rintro e w2 ⟨rfl, hb2⟩))
    go_ret
    exact ⟨rfl, hb.trans (hb2.mono hb.size)⟩
  · have hd' : decide ((d.size : Int) ≤ 2000) = false := by simp; omega
    rw [decide_eq_false hd, Bool.false_and]
    clear hd
    go_enter Tryz.func28, Tryz.ntmps28
    go_wp2_with (go_at_call 37; refine (isType_any _ _).mono ?_; rintro e w' ⟨rfl, rfl⟩)
    go_ret
    exact ⟨rfl, Below.refl _ _⟩

set_option maxRecDepth 100000 in
theorem right_other (k : Int) (d : ByteArray) (w : World) (hk : otherKind k) (h0 : 0 ≤ k) (h1 : k < 65536) : Calls Tryz.prog 28 #[.int .i64 k, .string d] w fun e w' => e = .returned (.bool (decide (d.size ≤ 2000) && true)) ∧ Below w.heap.size w w' := by
  have HK := Lib.hid hk; clear hk
  have t0 : decide (0 ≤ k) = true := by simpa using h0
  have t1 : decide (k < 65536) = true := by simpa using h1
  by_cases hd : d.size ≤ 2000
  · have hd' : decide ((d.size : Int) ≤ 2000) = true := by simp; omega
    rw [decide_eq_true hd, Bool.true_and]
    clear hd
    have hfl := form_field0
    go_enter Tryz.func28, Tryz.ntmps28
    go_wp2_with (first | (go_at_call 37; refine (isType_any _ _).mono ?_; rintro e w' ⟨rfl, rfl⟩) | (go_at_call 38; refine (form_other _ _ HK.out).mono ?_; rintro e w1 ⟨rfl, hb⟩) | (go_at_call 99; refine (fn_any _ _).mono ?_; rintro e w2 ⟨rfl, rfl⟩))
    go_ret
    exact ⟨rfl, hb⟩
  · have hd' : decide ((d.size : Int) ≤ 2000) = false := by simp; omega
    rw [decide_eq_false hd, Bool.false_and]
    clear hd
    go_enter Tryz.func28, Tryz.ntmps28
    go_wp2_with (go_at_call 37; refine (isType_any _ _).mono ?_; rintro e w' ⟨rfl, rfl⟩)
    go_ret
    exact ⟨rfl, Below.refl _ _⟩

theorem right_out (k : Int) (d : ByteArray) (w : World) (h : ¬ (0 ≤ k ∧ k < 65536)) : Calls Tryz.prog 28 #[.int .i64 k, .string d] w fun e w' => e = .returned (.bool false) ∧ Below w.heap.size w w' := by
  by_cases h0 : 0 ≤ k
  · have t0 : decide (0 ≤ k) = true := by simpa using h0
    have t1 : decide (k < 65536) = false := by simp; omega
    clear h
    go_enter Tryz.func28, Tryz.ntmps28
    go_wp2_with (go_at_call 37; refine (isType_any _ _).mono ?_; rintro e w' ⟨rfl, rfl⟩)
    go_ret
    exact ⟨rfl, Below.refl _ _⟩
  · have t0 : decide (0 ≤ k) = false := by simpa using h0
    clear h
    go_enter Tryz.func28, Tryz.ntmps28
    go_wp2_with (go_at_call 37; refine (isType_any _ _).mono ?_; rintro e w' ⟨rfl, rfl⟩)
    go_ret
    exact ⟨rfl, Below.refl _ _⟩

/-- Whether data are of their kind. -/
def formRight (k : Int) (d : ByteArray) : Bool :=
  if k = 1 then decide (d.size = 4) else if k = 28 then decide (d.size = 16) else if k = 2 then nameRight d else if k = 5 then nameRight d else if k = 39 then nameRight d else
  if k = 6 then (takeR soaT d).isSome else if k = 15 then (takeR mailT d).isSome else if k = 16 then (takeR textsT d).isSome else if k = 43 then (takeR dsT d).isSome else if k = 46 then (takeR sigT d).isSome else
  if k = 47 then (takeR nsecT d).isSome else if k = 48 then keyRight d else if k = 50 then (takeR nsec3T d).isSome else true
def dataRight (k : Int) (d : ByteArray) : Bool := decide (0 ≤ k) && decide (k < 65536) && decide (d.size ≤ 2000) && formRight k d
theorem right_any (k : Int) (d : ByteArray) (w : World) : Calls Tryz.prog 28 #[.int .i64 k, .string d] w fun e w' => e = .returned (.bool (dataRight k d)) ∧ Below w.heap.size w w' := by
  by_cases hr : 0 ≤ k ∧ k < 65536
  case neg =>
    have e : dataRight k d = false := by rw [dataRight]; simp; omega
    rw [e]; exact right_out k d w hr
  have e : dataRight k d = (decide (d.size ≤ 2000) && formRight k d) := by rw [dataRight, decide_eq_true hr.1, decide_eq_true hr.2]; rfl
  rw [e]
  by_cases h1 : k = 1
  · subst h1
    exact right_four d w
  by_cases h28 : k = 28
  · subst h28
    exact right_sixteen d w
  by_cases h2 : k = 2
  · subst h2
    exact right_ns d w
  by_cases h5 : k = 5
  · subst h5
    exact right_cname d w
  by_cases h39 : k = 39
  · subst h39
    exact right_dname d w
  by_cases h6 : k = 6
  · subst h6
    exact right_soa d w
  by_cases h15 : k = 15
  · subst h15
    exact right_mail d w
  by_cases h16 : k = 16
  · subst h16
    exact right_texts d w
  by_cases h43 : k = 43
  · subst h43
    exact right_ds d w
  by_cases h46 : k = 46
  · subst h46
    exact right_sig d w
  by_cases h47 : k = 47
  · subst h47
    exact right_nsec d w
  by_cases h48 : k = 48
  · subst h48
    have e2 : (decide (d.size ≤ 2000) && formRight 48 d) = keyRight d := by
      show (decide (d.size ≤ 2000) && keyRight d) = keyRight d
      rw [keyRight]; by_cases h : d.size ≤ 2000 <;> simp [h]
    rw [e2]; exact right_key d w
  by_cases h50 : k = 50
  · subst h50
    exact right_nsec3 d w
  have e3 : formRight k d = true := by rw [formRight, if_neg h1, if_neg h28, if_neg h2, if_neg h5, if_neg h39, if_neg h6, if_neg h15, if_neg h16, if_neg h43, if_neg h46, if_neg h47, if_neg h48, if_neg h50]
  rw [e3]
  exact right_other k d w ⟨h1, h28, h2, h5, h39, h6, h15, h16, h43, h46, h47, h48, h50⟩ hr.1 hr.2
end Go.Proofs.YtkhpcagoggglcaaGreatDoor

