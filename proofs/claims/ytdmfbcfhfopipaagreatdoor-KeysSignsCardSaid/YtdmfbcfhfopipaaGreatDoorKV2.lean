import Derived.Test.YtdmfbcfhfopipaaGreatDoorKV1
import Derived.Test.YtdmfbcfhfopipaaGreatDoorRep
import Derived.Deep.OwnRows
import Derived.Laws.CopyRow
/- digest.blocks: what a text is made up to, block by block, whatever is called with each. -/
namespace Go.Proofs.YtdmfbcfhfopipaaGreatDoor
open Go.RowKit

/-- A text of these bytes. -/
def bs (l : List UInt8) : ByteArray := ⟨l.toArray⟩
theorem bs_toList (s : ByteArray) : bs s.data.toList = s := by cases s; simp [bs]
theorem bs_size (l : List UInt8) : (bs l).size = l.length := by simp [bs, ByteArray.size]
theorem bs_append (l m : List UInt8) : bs l ++ bs m = bs (l ++ m) := by
  apply ByteArray.ext
  simp [bs, ByteArray.data_append]
theorem byt_bs (l : List UInt8) (k : Nat) : byt (bs l) k = l.getD k 0 := by simp [byt, bs]

/-- The length, in eight bytes, the first m of them. -/
def lenB (N m : Nat) : List UInt8 := (List.range m).map fun i => UInt8.ofNat (N / 2 ^ (56 - 8 * i))
def padT (n : Nat) : List UInt8 := 128 :: List.replicate ((119 - n % 64) % 64) 0
def padL (l : List UInt8) : List UInt8 := l ++ (padT l.length ++ lenB (8 * l.length % 18446744073709551616) 8)
def word4 (a b c d : UInt8) : W32 := (((BitVec.ofNat 32 a.toNat <<< (24 : Nat)) ||| (BitVec.ofNat 32 b.toNat <<< (16 : Nat))) ||| (BitVec.ofNat 32 c.toNat <<< (8 : Nat))) ||| BitVec.ofNat 32 d.toNat
def wordsN (l : List UInt8) (k : Nat) : List W32 := (List.range k).map fun i => word4 (l.getD (4 * i) 0) (l.getD (4 * i + 1) 0) (l.getD (4 * i + 2) 0) (l.getD (4 * i + 3) 0)
/-- Block by block. -/
def foldB {α : Type} (f : α → List W32 → α) : Nat → α → List UInt8 → α
  | 0, st, _ => st
  | n + 1, st, l => foldB f n (f st (wordsN l 16)) (l.drop 64)

theorem padL_len (l : List UInt8) : (padL l).length % 64 = 0 := by
  simp only [padL, padT, lenB, List.length_append, List.length_cons, List.length_replicate, List.length_map, List.length_range]
  omega

theorem lenB_succ (N m : Nat) : lenB N (m + 1) = lenB N m ++ [UInt8.ofNat (N / 2 ^ (56 - 8 * m))] := by simp [lenB, List.range_succ]

theorem repeatL_one (x : UInt8) (c : Nat) : Lib.repeatL [x] c = List.replicate c x := by
  induction c with
  | zero => rfl
  | succ c ih => simp [Lib.repeatL, ih, List.replicate_succ] at *
theorem repeat_byte (x : UInt8) (c : Nat) (w : World) (hc : c ≤ 4294967296) : Calls Tryz.prog 49 #[.string ⟨#[x]⟩, .int .i64 (c : Int)] w fun e w' => e = .returned (.string (bs (List.replicate c x))) ∧ Below w.heap.size w w' := by
  refine (Tryz.strings_Repeat ⟨#[x]⟩ c w (by omega) (by show 1 * c ≤ _; omega)).mono ?_
  rintro e w' ⟨rfl, h⟩
  refine ⟨?_, h⟩
  rw [show (⟨#[x]⟩ : ByteArray).data.toList = [x] from rfl, repeatL_one]
  rfl

theorem conv_byte (W : World) (b : UInt8) : (convert 41 9 (.slice (some ⟨W.heap.size, 0, none⟩) 1 1)).run Tryz.prog (W.alloc (.cells #[.int .u8 (b.toNat : Int)] 5)) = .ok (.string (bs [b])) (W.alloc (.cells #[.int .u8 (b.toNat : Int)] 5)) :=
  conv_bytes_string _ W.heap.size 1 1 (bs [b]) (by
    have := Blk.new W #[.int .u8 (b.toNat : Int)] 5
    simpa [encS, bs] using this) rfl

theorem run_loadCells_blk {P : Program} {w : World} {b : Nat} {cs : Array Value} {t : TypeId} (h : Blk w b cs t) (n : Nat) (hn : cs.size = n) : (loadCellsFrom ⟨b, 0, none⟩ 0 n #[]).run P w = .ok cs w := by
  subst hn
  have := run_loadCells_list (P := P) w ⟨b, 0, none⟩ cs.toList (fun j v hv => by
    have hadd : (⟨b, 0, none⟩ : Addr).add j = ⟨b, j, none⟩ := by unfold Addr.add; split <;> simp_all
    rw [hadd, h.cell]
    simpa using hv)
  simpa [loadCells] using this

theorem bs_get (l : List UInt8) (k : Nat) (h : k < (bs l).size) : (bs l)[k]'h = l.getD k 0 := by
  rw [← byt_bs]
  exact byt_get _ _ h
theorem bs_drop (l : List UInt8) (k : Nat) : (bs l).extract k l.length = bs (l.drop k) := by
  apply ByteArray.ext
  simp only [bs, ByteArray.data_extract, List.extract_toArray, List.extract_eq_take_drop]
  rw [List.take_of_length_le (by simp)]
theorem bs_ne {l : List UInt8} (h : l ≠ []) : ¬ bs l = ⟨#[]⟩ := by
  intro e
  have := congrArg ByteArray.size e
  rw [bs_size] at this
  exact h (List.eq_nil_of_length_eq_zero (by simpa [ByteArray.size] using this))

/-- The first i words of a text, and noughts. -/
def part4 (l : List UInt8) (i : Nat) : List W32 := wordsN l i ++ List.replicate (16 - i) 0
theorem part4_len (l : List UInt8) (i : Nat) (h : i ≤ 16) : (part4 l i).length = 16 := by simp [part4, wordsN]; omega
theorem part4_step (l : List UInt8) (i : Nat) (h : i < 16) : part4 l (i + 1) = (part4 l i).set i (word4 (l.getD (4 * i) 0) (l.getD (4 * i + 1) 0) (l.getD (4 * i + 2) 0) (l.getD (4 * i + 3) 0)) := by
  have e1 : (wordsN l i).length = i := by simp [wordsN]
  rw [part4, part4, show 16 - i = (16 - (i + 1)) + 1 by omega, List.replicate_succ, List.set_append, if_neg (by omega), e1, Nat.sub_self, List.set_cons_zero]
  simp [wordsN, List.range_succ]
theorem part4_all (l : List UInt8) : part4 l 16 = wordsN l 16 := by simp [part4]

theorem or_byte (X : W32) (d : UInt8) : bits .or .u32 (wd X) (d.toNat : Int) = wd (X ||| BitVec.ofNat 32 d.toNat) := by
  rw [← wd_or, wd_lit _ (by have := d.toNat_lt; omega)]
theorem shl_byte (a : UInt8) (n : Nat) : (a.toNat : Int) * 2 ^ n % 4294967296 = wd (BitVec.ofNat 32 a.toNat <<< n) := by
  rw [← wd_shl, wd_lit _ (by have := a.toNat_lt; omega)]

def strLen : Value → Nat
  | .string s => s.size
  | _ => 0
theorem word4_val (a b c d : UInt8) : bits .or .u32 (bits .or .u32 (bits .or .u32 ((a.toNat : Int) % 4294967296 * 16777216 % 4294967296) ((b.toNat : Int) % 4294967296 * 65536 % 4294967296)) ((c.toNat : Int) % 4294967296 * 256 % 4294967296)) ((d.toNat : Int) % 4294967296) = wd (word4 a b c d) := by
  have m (x : UInt8) : (x.toNat : Int) % 4294967296 = (x.toNat : Int) := by have := x.toNat_lt; omega
  have s24 := shl_byte a 24; have s16 := shl_byte b 16; have s8 := shl_byte c 8
  rw [show ((2 : Int) ^ 24) = 16777216 from rfl] at s24
  rw [show ((2 : Int) ^ 16) = 65536 from rfl] at s16
  rw [show ((2 : Int) ^ 8) = 256 from rfl] at s8
  rw [m, m, m, m, s24, s16, s8, wd_or, wd_or, or_byte]
  rfl
theorem foldB_succ {α : Type} (f : α → List W32 → α) (n : Nat) (st : α) (l : List UInt8) : foldB f (n + 1) st l = foldB f n (f st (wordsN l 16)) (l.drop 64) := rfl

set_option maxRecDepth 100000 in
set_option maxHeartbeats 1000000 in
theorem blocks_any {α : Type} (f : α → List W32 → α) (I : α → World → Prop) (g : Nat) (cap : Array Value) (B : Nat) (s : ByteArray) (w : World) (st0 : α) (hs : s.size ≤ 9223372036854775000)
    (hst : ∀ st W W', I st W → Below B W W' → I st W') (hB : B ≤ w.heap.size) (hg : ∀ (args : Array Value) (W : World), (callFunc g args).run Tryz.prog W = .ok (.enter g args) W)
    (hf : ∀ st bl W, I st W → bl.length = 16 → Calls Tryz.prog g (#[.agg (encW bl)] ++ cap) W fun e W' => e = .returned (.tuple #[]) ∧ I (f st bl) W' ∧ B ≤ W'.heap.size) (h0 : I st0 w) :
    Calls Tryz.prog 81 #[.string s, .func (.func g) #[] cap] w fun e W' => e = .returned (.tuple #[]) ∧ I (foldB f ((padL s.data.toList).length / 64) st0 (padL s.data.toList)) W' := by
  obtain ⟨l, rfl⟩ : ∃ l, s = bs l := ⟨_, (bs_toList s).symm⟩
  have hl : (bs l).data.toList = l := by simp [bs]
  rw [hl]
  rw [bs_size] at hs
  have hsz := bs_size l
  have HG := Lib.hid hg; have HF := Lib.hid hf; have HST := Lib.hid hst; have H0 := Lib.hid h0
  clear hf hst h0 hl hg
  obtain ⟨r0, q1, hr0⟩ : ∃ r0 : Nat, (119 - (l.length : Int)) % 64 = (r0 : Int) ∧ r0 = (119 - l.length % 64) % 64 := ⟨(119 - l.length % 64) % 64, by omega, rfl⟩
  have hc : (⟨#[128]⟩ : ByteArray) ++ bs (List.replicate r0 0) = bs (padT l.length) := by
    rw [padT, ← hr0, show (⟨#[128]⟩ : ByteArray) = bs [128] from rfl, bs_append]; rfl
  have q1' : ((119 - l.length % 64 : Nat) : Int) % 64 = (r0 : Int) := by omega
  have hr64 : r0 < 64 := by omega
  have hsr := bs_size (List.replicate r0 0)
  rw [List.length_replicate] at hsr
  have HR0 := Lib.hid hr0
  clear hr0
  go_enter Tryz.func81, Tryz.ntmps81
  go_wp2_with (go_at_call 49; refine (repeat_byte _ _ _ (by omega)).mono ?_; rintro e w1 ⟨rfl, hB1⟩)
  have hN : ∃ N : Nat, IntKind.u64.wrap ((l.length : Int) * 8) = (N : Int) ∧ N = 8 * l.length % 18446744073709551616 ∧ N < 18446744073709551616 := ⟨8 * l.length % 18446744073709551616, by rw [IntKind.wrap_u64]; omega, rfl, by omega⟩
  obtain ⟨N, q2, hNe, hNl⟩ := hN
  have HNE := Lib.hid hNe
  clear hNe
  have hcv := conv_byte
  have HC := Lib.hid hc
  clear hc
  have hBs : Hid (Below w.heap.size w w1 ∧ w.heap.size ≤ w1.heap.size) := Lib.hid ⟨hB1, hB1.size⟩
  clear hB1
  rw [q2]
  go_loopw [5, 6] (fun x z wr => ∃ m : Nat, m ≤ 8 ∧ (∃ zi : Int, zi = 56 - 8 * (m : Int) ∧ z = .int .i64 zi) ∧ x = .string (bs (padT l.length ++ lenB N m)) ∧ Hid (Below w.heap.size w wr ∧ w.heap.size ≤ wr.heap.size)) (fun _ z _ => (intOf z + 8).toNat)
  case atStart => exact ⟨0, Nat.zero_le _, ⟨56, by omega, rfl⟩, by simp [lenB], hBs⟩
  case round =>
    obtain ⟨m, hm, ⟨zi, hz, rfl⟩, rfl, hBw⟩ := hrel
    by_cases hlt : m < 8
    · obtain ⟨sh, rfl⟩ : ∃ sh : Nat, zi = (sh : Int) := ⟨56 - 8 * m, by omega⟩
      have hsh : 56 - 8 * m = sh := by omega
      have hd : decide ((0 : Int) ≤ (sh : Int)) = true := decide_eq_true (by omega)
      have hbyte : (N : Int) / 2 ^ sh % 256 = ((UInt8.ofNat (N / 2 ^ sh)).toNat : Int) := by
        have e : (N : Int) / 2 ^ sh = ((N / 2 ^ sh : Nat) : Int) := by push_cast; rfl
        rw [e]; simp
      have hlen : lenB N (m + 1) = lenB N m ++ [UInt8.ofNat (N / 2 ^ sh)] := by rw [lenB_succ, hsh]
      generalize UInt8.ofNat (N / 2 ^ sh) = bt at hbyte hlen
      have happ : bs (padT l.length ++ lenB N m) ++ bs [bt] = bs (padT l.length ++ lenB N (m + 1)) := by rw [bs_append, hlen, List.append_assoc]
      have hz1 : (bs (padT l.length ++ lenB N m)).size = 1 + r0 + m := by rw [bs_size, List.length_append]; simp [padT, lenB, HR0.out]; omega
      have hz2 : (bs [bt]).size = 1 := bs_size _
      have hmin : min sh 64 = sh := by omega
      have HL := Lib.hid hlen; have HZ := Lib.hid hz; have HSH := Lib.hid hsh
      clear hlen hz hsh
      go_wp2_with fail
      go_roundw
      case rel => exact ⟨m + 1, by omega, ⟨(sh : Int) - 8, by have := HZ.out; omega, by go_num⟩, rfl, Lib.hid ⟨hBw.out.1.alloc hBw.out.2 _, by simp; have := hBw.out.2; omega⟩⟩
      case measure => simp [intOf]; have := HZ.out; omega
    · obtain rfl : m = 8 := by omega
      obtain rfl : zi = -8 := by omega
      have hpad : bs l ++ bs (padT l.length ++ lenB N 8) = bs (padL l) := by rw [bs_append, padL, HNE.out]
      have hz1 : (bs (padT l.length ++ lenB N 8)).size = 1 + r0 + 8 := by rw [bs_size, List.length_append]; simp [padT, lenB, HR0.out]; omega
      have hlen : (padL l).length = l.length + 1 + r0 + 8 := by rw [padL]; simp [padT, lenB, HR0.out]; omega
      have hmod := padL_len l
      have hI : I st0 wr := HST.out st0 w wr H0.out (hBw.out.1.mono hB)
      have hBr : B ≤ wr.heap.size := Nat.le_trans hB hBw.out.2
      have HI := Lib.hid hI; have HP := Lib.hid hmod
      clear hz hcv hI hmod hlt hm H0
      go_wp2_with fail
      generalize hfin : foldB f ((padL l).length / 64) st0 (padL l) = fin
      go_loopw [0] (fun x wr => ∃ (rest : List UInt8) (n : Nat) (st : α), x = .string (bs rest) ∧ rest.length = 64 * n ∧ rest.length ≤ 9223372036854775807 ∧ Hid (I st wr) ∧ Hid (foldB f n st rest = fin) ∧ B ≤ wr.heap.size) (fun x _ => strLen x)
      case atStart => exact ⟨padL l, (padL l).length / 64, st0, rfl, by have := HP.out; omega, by omega, HI, Lib.hid hfin, hBr⟩
      case round =>
        obtain ⟨rest, n, st, rfl, hrn, hrs, hst, hfo, hBr⟩ := hrel
        rename World => Wo
        have hsz := bs_size rest
        by_cases hn : n = 0
        · have he : rest = [] := List.eq_nil_of_length_eq_zero (by omega)
          subst he hn
          have hem : (bs ([] : List UInt8)).toList.isEmpty = true := by rw [ByteArray.toList_eq]; rfl
          go_wp2_with fail
          go_end0
          refine ⟨rfl, ?_⟩
          rw [hfin, ← hfo.out]
          exact hst.out
        · have hem : (bs rest).toList.isEmpty = false := toList_isEmpty (by omega)
          obtain ⟨n, rfl⟩ : ∃ m, n = m + 1 := ⟨n - 1, by omega⟩
          go_wp2_with fail
          have hz : (#[Value.int .u32 0, .int .u32 0, .int .u32 0, .int .u32 0, .int .u32 0, .int .u32 0, .int .u32 0, .int .u32 0, .int .u32 0, .int .u32 0, .int .u32 0, .int .u32 0, .int .u32 0, .int .u32 0, .int .u32 0, .int .u32 0] : Array Value) = encW (part4 rest 0) := rfl
          rw [hz]
          have hb0 : Blk (Wo.alloc (.cells (encW (part4 rest 0)) 129)) Wo.heap.size (encW (part4 rest 0)) 129 := Blk.new _ _ _
          have hB0 : Below Wo.heap.size Wo (Wo.alloc (.cells (encW (part4 rest 0)) 129)) := (Below.refl _ _).alloc (Nat.le_refl _) _
          generalize Wo.alloc (.cells (encW (part4 rest 0)) 129) = W0 at hb0 hB0 ⊢
          have HB0 := Lib.hid hb0; have HBB := Lib.hid hB0
          clear hb0 hB0 hz
          go_loopw [39] (fun i wr => ∃ j : Nat, j ≤ 16 ∧ i = .int .i64 j ∧ Hid (Blk wr Wo.heap.size (encW (part4 rest j)) 129) ∧ Hid (Below Wo.heap.size Wo wr)) (fun i _ => 16 - (intOf i).toNat)
          case atStart => exact ⟨0, Nat.zero_le _, rfl, HB0, HBB⟩
          case round =>
            obtain ⟨j, hj, rfl, hP, hBl⟩ := hrel
            by_cases hlt : j < 16
            · have hd1 : decide ((j : Int) < 16) = true := decide_eq_true (by omega)
              have hj16 : (j : Int) < 16 := by omega
              have hst4 := part4_step rest j hlt
              have g0 : ∀ h, (bs rest)[4 * j]'h = rest.getD (4 * j) 0 := fun h => bs_get _ _ h
              have g1 : ∀ h, (bs rest)[4 * j + 1]'h = rest.getD (4 * j + 1) 0 := fun h => bs_get _ _ h
              have g2 : ∀ h, (bs rest)[4 * j + 2]'h = rest.getD (4 * j + 2) 0 := fun h => bs_get _ _ h
              have g3 : ∀ h, (bs rest)[4 * j + 3]'h = rest.getD (4 * j + 3) 0 := fun h => bs_get _ _ h
              generalize rest.getD (4 * j) 0 = x0 at g0 hst4
              generalize rest.getD (4 * j + 1) 0 = x1 at g1 hst4
              generalize rest.getD (4 * j + 2) 0 = x2 at g2 hst4
              generalize rest.getD (4 * j + 3) 0 = x3 at g3 hst4
              have HST4 := Lib.hid hst4
              clear hst4
              have t0 : (4 * (j : Int)).toNat = 4 * j := by omega
              have t1 : (4 * (j : Int) + 1).toNat = 4 * j + 1 := by omega
              have t2 : (4 * (j : Int) + 2).toNat = 4 * j + 2 := by omega
              have t3 : (4 * (j : Int) + 3).toNat = 4 * j + 3 := by omega
              have p0 : (4 * (j : Int)) < (rest.length : Int) := by omega
              have p1 : (4 * (j : Int) + 1) < (rest.length : Int) := by omega
              have p2 : (4 * (j : Int) + 2) < (rest.length : Int) := by omega
              have p3 : (4 * (j : Int) + 3) < (rest.length : Int) := by omega
              have z0 : (0 : Int) ≤ 4 * (j : Int) := by omega
              have z1 : (0 : Int) ≤ 4 * (j : Int) + 1 := by omega
              have z2 : (0 : Int) ≤ 4 * (j : Int) + 2 := by omega
              have z3 : (0 : Int) ≤ 4 * (j : Int) + 3 := by omega
              have hval := word4_val x0 x1 x2 x3
              generalize word4 x0 x1 x2 x3 = y at hval HST4
              have HVAL := Lib.hid hval
              clear hval
              have cc := hP.out.cell j
              rw [encW_get _ _ (by rw [part4_len _ _ hj]; exact hlt)] at cc
              have fc := hP.out.free j
              have hmix : Tryz.prog.follows .mixedOrders = true := by kernel_rfl
              go_wp2_with fail
              refine wp_draw 30 (C := fun w' => ∃ n, w' = wr.drewN n) hmix (by kernel_rfl) (by kernel_rfl) (by kernel_rfl) (by simp) ⟨1, rfl⟩ ?_
              simp only [List.take_succ_cons, List.take_zero, List.drop_succ_cons, List.drop_zero]
              repeat (go_big_quiet_step (fail))
              refine wpQuiet_nil ?_
              intro _ hw'
              obtain ⟨nq, hw''⟩ := hw'
              subst hw''
              go_wp2_with fail
              rw [HVAL.out]
              go_roundw
              case rel =>
                refine ⟨j + 1, by omega, by go_num, Lib.hid ?_, Lib.hid ?_⟩
                · rw [HST4.out, ← encW_set]
                  exact Blk.set (w := wr.drewN nq) hP.out _ _
                · exact Below.setCell (w := wr.drewN nq) ⟨hBl.out.os, hBl.out.tape, hBl.out.output, hBl.out.size, hBl.out.block⟩ (by exact Nat.le_refl _) _
              case measure => simp [intOf]; omega
            · obtain rfl : j = 16 := by omega
              have hlw : (wordsN rest 16).length = 16 := by simp [wordsN]
              have hPb := hP.out
              rw [part4_all] at hPb
              have hld := loadVar_blk (P := Tryz.prog) (ty := 129) hPb Tryz.underlying129 rfl (by rw [encW_size, hlw]; kernel_rfl)
              have HLD := Lib.hid hld
              clear hld
              have hI : I st wr := HST.out st Wo wr hst.out (hBl.out.mono hBr)
              have hcall := HF.out st (wordsN rest 16) wr hI hlw
              have HCALL := Lib.hid hcall
              have hdr := bs_drop rest 64
              have hfs := foldB_succ f n st rest
              have HFS := Lib.hid hfs
              have hrl : rest.length ≥ 64 := by omega
              clear hcall hI hPb hfs
              go_wp2_with (refine wpList_load rfl 129 _ rfl ⟨Wo.heap.size, 0, none⟩ (.agg (encW (wordsN rest 16))) rfl HLD.out ?_)
              rw [HG.out, Oper.upon_enter]
              refine HCALL.out.mono ?_
              rintro e W3 ⟨rfl, hI3, hB3⟩
              have HI3 := Lib.hid hI3
              clear hI3 hdr
              simp only []
              go_wp2_with fail
              have hdr2 : (bs rest).extract 64 (64 * (n + 1)) = bs (rest.drop 64) := by rw [← hrn]; exact bs_drop rest 64
              go_roundw
              case rel => exact ⟨rest.drop 64, n, f st (wordsN rest 16), by rw [hdr2], by rw [List.length_drop]; omega, by rw [List.length_drop]; omega, HI3, Lib.hid (HFS.out.symm.trans hfo.out), hB3⟩
              case measure =>
                rw [hdr2]
                simp only [strLen, bs_size, List.length_drop]
                omega
end Go.Proofs.YtdmfbcfhfopipaaGreatDoor

/- Great numbers in memory; number.trim, number.Of, Nat.Bits. -/
namespace Go.Proofs.YtdmfbcfhfopipaaGreatDoor
open Go.RowKit

/-- The digits that a slice holds, in a row from lo on. -/
def DigsAt (lo : Nat) (w : World) (A : Option Addr) (l : List W32) : Prop := l = [] ∨ ∃ b, A = some ⟨b, 0, none⟩ ∧ lo ≤ b ∧ b < w.heap.size ∧ ∀ i, i < l.length → w.cell? ⟨b, i, none⟩ = some (.int .u32 (wd (l.getD i 0)))
/-- A number's value, of these digits. -/
def NatV (lo : Nat) (w : World) (v : Value) (l : List W32) : Prop := ∃ A c, v = .agg #[.slice A l.length c] ∧ l.length ≤ c ∧ c ≤ 9223372036854775807 ∧ DigsAt lo w A l
theorem DigsAt.below {lo : Nat} {w w' : World} {A : Option Addr} {l : List W32} (h : DigsAt lo w A l) (hb : Below w.heap.size w w') : DigsAt lo w' A l := by
  rcases h with h | ⟨b, rfl, hlo, hlt, hc⟩
  · exact .inl h
  · exact .inr ⟨b, rfl, hlo, Nat.lt_of_lt_of_le hlt hb.size, fun i hi => by rw [hb.cell (p := ⟨b, i, none⟩) hlt]; exact hc i hi⟩
theorem DigsAt.low {lo : Nat} {w : World} {A : Option Addr} {l : List W32} (h : DigsAt lo w A l) {p : Addr} (hp : p.block < lo) (v : Value) : DigsAt lo (w.setCell p v) A l := by
  rcases h with h | ⟨b, rfl, hlo, hlt, hc⟩
  · exact .inl h
  · refine .inr ⟨b, rfl, hlo, by simpa using hlt, fun i hi => ?_⟩
    rw [World.cell?_of_block (w := w)]
    · exact hc i hi
    · exact heap_setCell_other _ _ _ _ (by simp; omega)
theorem DigsAt.mono {lo lo' : Nat} {w : World} {A : Option Addr} {l : List W32} (h : DigsAt lo w A l) (hl : lo' ≤ lo) : DigsAt lo' w A l := by
  rcases h with h | ⟨b, rfl, hlo, hlt, hc⟩
  · exact .inl h
  · exact .inr ⟨b, rfl, by omega, hlt, hc⟩
theorem NatV.below {lo : Nat} {w w' : World} {v : Value} {l : List W32} (h : NatV lo w v l) (hb : Below w.heap.size w w') : NatV lo w' v l := by
  obtain ⟨A, c, h1, h2, h3, h4⟩ := h
  exact ⟨A, c, h1, h2, h3, h4.below hb⟩
theorem NatV.low {lo : Nat} {w : World} {v : Value} {l : List W32} (h : NatV lo w v l) {p : Addr} (hp : p.block < lo) (u : Value) : NatV lo (w.setCell p u) v l := by
  obtain ⟨A, c, h1, h2, h3, h4⟩ := h
  exact ⟨A, c, h1, h2, h3, h4.low hp u⟩
theorem NatV.mono {lo lo' : Nat} {w : World} {v : Value} {l : List W32} (h : NatV lo w v l) (hl : lo' ≤ lo) : NatV lo' w v l := by
  obtain ⟨A, c, h1, h2, h3, h4⟩ := h
  exact ⟨A, c, h1, h2, h3, h4.mono hl⟩
theorem DigsAt.take {lo : Nat} {w : World} {A : Option Addr} {l : List W32} (h : DigsAt lo w A l) (n : Nat) : DigsAt lo w A (l.take n) := by
  rcases h with h | ⟨b, rfl, hlo, hlt, hc⟩
  · subst h; exact .inl (by simp)
  · refine .inr ⟨b, rfl, hlo, hlt, fun i hi => ?_⟩
    rw [List.length_take] at hi
    rw [hc i (by omega)]
    simp [List.getD, show i < n by omega]

def trimN (l : List W32) : Nat → Nat
  | 0 => 0
  | n + 1 => if l.getD n 0 = 0 then trimN l n else n + 1
def trimL (l : List W32) : List W32 := l.take (trimN l l.length)
theorem trimN_le (l : List W32) (n : Nat) : trimN l n ≤ n := by
  induction n with
  | zero => exact Nat.le_refl _
  | succ n ih => unfold trimN; split <;> omega
theorem trimL_len (l : List W32) : (trimL l).length = trimN l l.length := by
  have := trimN_le l l.length
  simp [trimL]; omega

theorem info_Nat : (Tryz.prog.info? 45).map (·.size) = some 1 := by kernel_rfl
theorem nat_load {w : World} {b : Nat} {x : Value} {t : TypeId} (h : Blk w b #[x] t) : (loadVar 45 ⟨b, 0, none⟩).run Tryz.prog w = .ok (.agg #[x]) w := loadVar_blk h Tryz.underlying45 rfl info_Nat
set_option maxRecDepth 100000 in
set_option maxHeartbeats 1000000 in
theorem trim_any (A : Option Addr) (c : Nat) (l : List W32) (w : World) (hc : l.length ≤ c) (hcm : c ≤ 9223372036854775807) (lo : Nat) (hA : DigsAt lo w A l) :
    Calls Tryz.prog 53 #[.slice A l.length c] w fun e w' => e = .returned (.agg #[.slice A (trimN l l.length) c]) ∧ Below w.heap.size w w' := by
  have HA := Lib.hid hA
  clear hA
  go_enter Tryz.func53, Tryz.ntmps53
  go_wp2
  generalize hfin : trimN l l.length = fin
  have HFIN := Lib.hid hfin
  go_loopw [0] (fun v wr => ∃ k : Nat, k ≤ l.length ∧ v = .slice A k c ∧ Hid (trimN l k = fin) ∧ Hid (wr = w.alloc (.cells #[.slice none 0 0] 45))) (fun v _ => match v with | .slice _ n _ => n | _ => 0)
  case atStart => exact ⟨l.length, Nat.le_refl _, rfl, HFIN, Lib.hid rfl⟩
  case round =>
    obtain ⟨k, hk, rfl, hf, hw⟩ := hrel
    have hwr := hw.out
    by_cases h0 : k = 0
    · subst h0
      go_wp2_with fail
      rw [hfin, ← hf.out]
      refine bodyPost_ret (results1 rfl ⟨_, rfl, nat_load (Blk.new w #[.slice A 0 c] 45)⟩) rfl ⟨rfl, ?_⟩
      exact (Below.refl w.heap.size w).alloc (Nat.le_refl _) _
    · obtain ⟨j, rfl⟩ : ∃ j, k = j + 1 := ⟨k - 1, by omega⟩
      obtain ⟨b, rfl, _, hlt, hcell⟩ : ∃ b, A = some ⟨b, 0, none⟩ ∧ lo ≤ b ∧ b < w.heap.size ∧ ∀ i, i < l.length → w.cell? ⟨b, i, none⟩ = some (.int .u32 (wd (l.getD i 0))) := by
        rcases HA.out with h | h
        · subst h; simp at hk
        · exact h
      have hcj : wr.cell? ⟨b, j, none⟩ = some (.int .u32 (wd (l.getD j 0))) := by
        rw [hwr, ((Below.refl w.heap.size w).alloc (Nat.le_refl _) _).cell (p := ⟨b, j, none⟩) hlt]
        exact hcell j (by omega)
      have hstep : trimN l (j + 1) = if l.getD j 0 = 0 then trimN l j else j + 1 := rfl
      rw [hf.out] at hstep
      have hgt : decide ((0 : Int) < (j : Int) + 1) = true := decide_eq_true (by omega)
      have hs1 : (j : Int) + 1 - 1 = (j : Int) := by omega
      have hjc : (j : Int) ≤ (c : Int) := by omega
      have hjl : (j : Int) < (j : Int) + 1 := by omega
      generalize l.getD j 0 = x at hcj hstep
      have hcell' := Lib.hid hcell
      have hR : Blk wr w.heap.size #[.slice none 0 0] 45 := by rw [hwr]; exact Blk.new _ _ _
      have cR : wr.cell? ⟨w.heap.size, 0, none⟩ = some (.slice none 0 0) := hR.cell 0
      have fR := hR.free 0
      have HR := Lib.hid hR
      clear hcell hwr hR
      by_cases hx : x = 0
      · have hx0 : (wd x == 0) = true := by rw [hx]; rfl
        rw [if_pos hx] at hstep
        have HS := Lib.hid hstep.symm
        clear hx hstep
        go_wp2_with fail
        go_roundw
        case rel => exact ⟨j, by omega, rfl, HS, hw⟩
        case measure => simp
      · have hx0 : (wd x == 0) = false := by
          rw [beq_eq_false_iff_ne]
          intro h
          exact hx (wd_inj h)
        rw [if_neg hx] at hstep
        have HS := Lib.hid hstep
        clear hx hstep
        go_wp2_with fail
        rw [hfin, HS.out]
        have hb := (HR.out.set 0 (.slice (some ⟨b, 0, none⟩) (j + 1) c))
        refine bodyPost_ret (results1 rfl ⟨_, rfl, nat_load (by simpa using hb)⟩) rfl ⟨rfl, ?_⟩
        exact Below.setCell (by rw [hw.out]; exact (Below.refl w.heap.size w).alloc (Nat.le_refl _) _) (by exact Nat.le_refl _) _

/-- The digits of bytes, i bytes done. -/
def ofRun (s : List UInt8) : Nat → List W32
  | 0 => List.replicate ((s.length + 3) / 4) 0
  | i + 1 => (ofRun s i).set ((s.length - 1 - i) / 4) ((ofRun s i).getD ((s.length - 1 - i) / 4) 0 ||| (BitVec.ofNat 32 (s.getD i 0).toNat <<< (8 * ((s.length - 1 - i) % 4))))
theorem ofRun_len (s : List UInt8) (i : Nat) : (ofRun s i).length = (s.length + 3) / 4 := by
  induction i with
  | zero => simp [ofRun]
  | succ i ih => simp [ofRun, ih]
theorem ofval (y : W32) (x : UInt8) (sh : Nat) : bits .or .u32 (wd y) ((x.toNat : Int) % 4294967296 * 2 ^ sh % 4294967296) = wd (y ||| (BitVec.ofNat 32 x.toNat <<< sh)) := by
  have m : (x.toNat : Int) % 4294967296 = (x.toNat : Int) := by have := x.toNat_lt; omega
  rw [m, shl_byte, wd_or]
def stripL (s : List UInt8) : List UInt8 := Lib.trimLeftB s 0
def numDigs (s : List UInt8) : List W32 := trimL (ofRun (stripL s) (stripL s).length)

theorem info_u32 : (Tryz.prog.info? 64).map (fun i => (i.zero, i.size, i.bytes)) = some (some (.int .u32 0), 1, 4) := by kernel_rfl
theorem made_enc (n : Nat) : madeCells #[Value.int .u32 0] n = encW (List.replicate n 0) := by
  apply Array.ext_getElem?
  intro i
  by_cases h : i < n
  · rw [encW_get _ _ (by simpa using h)]
    simp [madeCells, h, wd, Nat.mod_one]
  · simp [madeCells, encW, h]

set_option maxRecDepth 100000 in
set_option maxHeartbeats 1000000 in
theorem of_long (s : ByteArray) (w : World) (hl : 512 < (stripL s.data.toList).length) (_hs : s.size ≤ 9223372036854775807) :
    Calls Tryz.prog 25 #[.string s] w fun e w' => e = .returned (.tuple #[.agg #[.slice none 0 0], .int .i64 3]) ∧ Below w.heap.size w w' := by
  have hst := Tryz.strings_TrimLeft_one s 0 (by decide)
  rw [show (Lib.trimLeftB s.data.toList 0) = stripL s.data.toList from rfl] at hst
  generalize stripL s.data.toList = l at hl hst
  change ∀ w, Calls _ _ _ _ (fun e w' => e = .returned (.string (bs l)) ∧ w' = w) at hst
  have hsz := bs_size l
  have h1 : decide ((512 : Int) < (l.length : Int)) = true := decide_eq_true (by omega)
  have HS := Lib.hid hst
  clear hst hl
  go_enter Tryz.func25, Tryz.ntmps25
  go_wp2_with (go_at_call 52; refine (HS.out _).mono ?_; rintro e w1 ⟨rfl, rfl⟩)
  refine bodyPost_ret (results2 rfl ⟨_, rfl, nat_load (Blk.new w #[.slice none 0 0] 45)⟩ rfl) rfl ⟨rfl, ?_⟩
  exact (Below.refl w.heap.size w).alloc (Nat.le_refl _) _
set_option maxRecDepth 100000 in
set_option maxHeartbeats 1000000 in
theorem of_ok (s : ByteArray) (w : World) (hl : (stripL s.data.toList).length ≤ 512) :
    Calls Tryz.prog 25 #[.string s] w fun e w' => ∃ v, e = .returned (.tuple #[v, .int .i64 0]) ∧ NatV w.heap.size w' v (numDigs s.data.toList) ∧ Below w.heap.size w w' := by
  have hst := Tryz.strings_TrimLeft_one s 0 (by decide)
  rw [show (Lib.trimLeftB s.data.toList 0) = stripL s.data.toList from rfl] at hst
  rw [numDigs]
  generalize stripL s.data.toList = l at hl hst ⊢
  change ∀ w, Calls _ _ _ _ (fun e w' => e = .returned (.string (bs l)) ∧ w' = w) at hst
  have hsz := bs_size l
  have h1 : decide ((512 : Int) < (l.length : Int)) = false := decide_eq_false (by omega)
  have HS := Lib.hid hst
  clear hst
  obtain ⟨nn, q1, hnn⟩ : ∃ nn : Nat, ((l.length : Int) + 3) / 4 = (nn : Int) ∧ nn = (l.length + 3) / 4 := ⟨(l.length + 3) / 4, by omega, rfl⟩
  have HNN := Lib.hid hnn
  have hn512 : nn ≤ 200 := by omega
  clear hnn
  have hmk : ∀ w, (Instr.makeSlice 43 (.int .i64 (nn : Int)) (.int .i64 (nn : Int))).run Tryz.prog w = .ok (.slice (some ⟨w.heap.size, 0, none⟩) nn nn) (w.alloc (.cells (encW (List.replicate nn 0)) 64)) := fun w => by
    rw [← made_enc]
    exact run_make_row' 43 64 (.int .u32 0) 4 Tryz.underlying43 info_u32 rfl .i64 .i64 nn (by omega) (by omega) w
  go_enter Tryz.func25, Tryz.ntmps25
  go_wp2_with (go_at_call 52; refine (HS.out _).mono ?_; rintro e w1 ⟨rfl, rfl⟩)
  have hd0 : Blk ((w.alloc (.cells #[.slice none 0 0] 45)).alloc (.cells (encW (List.replicate nn 0)) 64)) (w.heap.size + 1) (encW (ofRun l 0)) 64 := by
    have := Blk.new (w.alloc (.cells #[.slice none 0 0] 45)) (encW (List.replicate nn 0)) 64
    rw [ofRun, ← HNN.out]
    simpa using this
  have hr0 : Blk ((w.alloc (.cells #[.slice none 0 0] 45)).alloc (.cells (encW (List.replicate nn 0)) 64)) w.heap.size #[.slice none 0 0] 45 := (Blk.new w _ _).alloc _
  have hB0 : Below w.heap.size w ((w.alloc (.cells #[.slice none 0 0] 45)).alloc (.cells (encW (List.replicate nn 0)) 64)) := ((Below.refl _ w).alloc (Nat.le_refl _) _).alloc (by simp) _
  generalize ((w.alloc (.cells #[.slice none 0 0] 45)).alloc (.cells (encW (List.replicate nn 0)) 64)) = W0 at hd0 hr0 hB0 ⊢
  have HD0 := Lib.hid hd0; have HR0 := Lib.hid hr0; have HB0 := Lib.hid hB0
  clear hd0 hr0 hB0 hmk HS h1
  go_loopw [20] (fun z wr => ∃ i : Nat, i ≤ l.length ∧ z = .int .i64 i ∧ Hid (Blk wr (w.heap.size + 1) (encW (ofRun l i)) 64) ∧ Hid (Blk wr w.heap.size #[.slice none 0 0] 45) ∧ Hid (Below w.heap.size w wr)) (fun z _ => l.length - (intOf z).toNat)
  case atStart => exact ⟨0, Nat.zero_le _, rfl, HD0, HR0, HB0⟩
  case round =>
    obtain ⟨i, hi, rfl, hD, hR, hB⟩ := hrel
    by_cases hlt : i < l.length
    · obtain ⟨kk, hkk, hke⟩ : ∃ kk : Nat, (l.length : Int) - 1 - (i : Int) = (kk : Int) ∧ kk = l.length - 1 - i := ⟨l.length - 1 - i, by omega, rfl⟩
      obtain ⟨k4, hk4, hk4e⟩ : ∃ k4 : Nat, (kk : Int) / 4 = (k4 : Int) ∧ k4 = kk / 4 := ⟨kk / 4, by omega, rfl⟩
      obtain ⟨sh, hsh, hshe⟩ : ∃ sh : Nat, 8 * ((kk : Int) % 4) = (sh : Int) ∧ sh = 8 * (kk % 4) := ⟨8 * (kk % 4), by omega, rfl⟩
      have hs32 : min sh 32 = sh := by omega
      have hk4l : k4 < nn := by have := HNN.out; omega
      have hstep : ofRun l (i + 1) = (ofRun l i).set k4 ((ofRun l i).getD k4 0 ||| (BitVec.ofNat 32 (l.getD i 0).toNat <<< sh)) := by rw [hk4e, hshe, hke]; rfl
      have cD : wr.cell? ⟨w.heap.size + 1, k4, none⟩ = some (.int .u32 (wd ((ofRun l i).getD k4 0))) := by rw [hD.out.cell, encW_get _ _ (by rw [ofRun_len, ← HNN.out]; exact hk4l)]
      have fD := hD.out.free k4
      have hg : ∀ h, (bs l)[i]'h = l.getD i 0 := fun h => bs_get _ _ h
      generalize l.getD i 0 = x at hg hstep
      generalize (ofRun l i).getD k4 0 = y at cD hstep
      have HST := Lib.hid hstep
      have hk4i : (k4 : Int) < (nn : Int) := by omega
      have hmix : Tryz.prog.follows .mixedOrders = true := by kernel_rfl
      have HKE := Lib.hid hke; have HK4E := Lib.hid hk4e; have HSHE := Lib.hid hshe
      clear hstep hke hk4e hshe
      go_wp2_with fail
      refine wp_draw 14 (C := fun w' => ∃ n, w' = wr.drewN n) hmix (by kernel_rfl) (by kernel_rfl) (by kernel_rfl) (by simp) ⟨1, rfl⟩ ?_
      simp only [List.take_succ_cons, List.take_zero, List.drop_succ_cons, List.drop_zero]
      repeat (go_big_quiet_step (fail))
      refine wpQuiet_nil ?_
      intro _ hw'
      obtain ⟨nq, hw''⟩ := hw'
      subst hw''
      go_wp2_with fail
      rw [ofval y x sh]
      go_roundw
      case rel =>
        refine ⟨i + 1, by omega, by go_num, Lib.hid ?_, Lib.hid (Blk.other (w := wr.drewN nq) hR.out (by simp) _), Lib.hid (Below.setCell (w := wr.drewN nq) ⟨hB.out.os, hB.out.tape, hB.out.output, hB.out.size, hB.out.block⟩ (by simp) _)⟩
        rw [HST.out, ← encW_set]
        exact Blk.set (w := wr.drewN nq) hD.out _ _
      case measure => simp [intOf]; omega
    · obtain rfl : i = l.length := by omega
      have hlen := ofRun_len l l.length
      rw [← HNN.out] at hlen
      have hdig : DigsAt w.heap.size wr (some ⟨w.heap.size + 1, 0, none⟩) (ofRun l l.length) := .inr ⟨_, rfl, Nat.le_succ _, hD.out.lt, fun j hj => by rw [hD.out.cell, encW_get _ _ hj]⟩
      have htrim := trim_any (some ⟨w.heap.size + 1, 0, none⟩) nn (ofRun l l.length) wr (by omega) (by omega) _ hdig
      rw [hlen] at htrim
      have hnum : trimL (ofRun l l.length) = (ofRun l l.length).take (trimN (ofRun l l.length) nn) := by rw [trimL, hlen]
      have htl := trimL_len (ofRun l l.length)
      have htn := trimN_le (ofRun l l.length) nn
      rw [hlen] at htl
      have hdt := hdig.take (trimN (ofRun l l.length) nn)
      rw [← hnum] at hdt
      generalize htl0 : trimL (ofRun l l.length) = tl at hnum htl hdt
      have HTL0 := Lib.hid htl0
      clear htl0
      generalize trimN (ofRun l l.length) nn = tn at htrim htl htn hnum
      have HT := Lib.hid htrim; have HDT := Lib.hid hdt; have HTL := Lib.hid htl
      clear hdig htrim hnum hlen hdt htl HD0 HR0 HB0 hsz hl HNN hD
      go_wp2_with (go_at_call 53; refine HT.out.mono ?_; rintro e w5 ⟨rfl, hB5⟩; have hR5 := hR.out.below hB5 hR.out.lt; have c5 : w5.cell? ⟨w.heap.size, 0, none⟩ = some (.slice none 0 0) := hR5.cell 0; have f5 := hR5.free 0; replace hR5 := Lib.hid hR5; replace hB5 := Lib.hid hB5)
      have hb := (hR5.out.set 0 (.slice (some ⟨w.heap.size + 1, 0, none⟩) tn nn))
      have hB6 : Below wr.heap.size wr (w5.setCell ⟨w.heap.size, 0, none⟩ (.slice (some ⟨w.heap.size + 1, 0, none⟩) tn nn)) → True := fun _ => trivial
      refine bodyPost_ret (results2 rfl ⟨_, rfl, nat_load (by simpa using hb)⟩ rfl) rfl ⟨_, rfl, ⟨some ⟨w.heap.size + 1, 0, none⟩, nn, by rw [HTL0.out, HTL.out], by rw [HTL0.out, HTL.out]; exact htn, by omega, ?_⟩, ?_⟩
      · rw [HTL0.out]
        rcases HDT.out.below hB5.out with h | ⟨b, hb1, hb0, hb2, hb3⟩
        · exact .inl h
        · refine .inr ⟨b, hb1, hb0, by simpa using hb2, fun j hj => ?_⟩
          rw [World.cell?_of_block (w := w5)]
          · exact hb3 j hj
          · have : b = w.heap.size + 1 := by simpa using (Addr.mk.inj (Option.some.inj hb1)).1.symm
            subst this
            exact heap_setCell_other _ _ _ _ (by simp)
      · exact Below.setCell (hB.out.trans (hB5.out.mono hB.out.size)) (by exact Nat.le_refl _) _

/-- Of bytes the number, or that it is too long. -/
theorem number_of (s : ByteArray) (w : World) (hs : s.size ≤ 9223372036854775807) :
    Calls Tryz.prog 25 #[.string s] w fun e w' => Below w.heap.size w w' ∧
      if 512 < (stripL s.data.toList).length then e = .returned (.tuple #[.agg #[.slice none 0 0], .int .i64 3]) else ∃ v, e = .returned (.tuple #[v, .int .i64 0]) ∧ NatV w.heap.size w' v (numDigs s.data.toList) := by
  by_cases h : 512 < (stripL s.data.toList).length
  · simp only [if_pos h]
    exact (of_long s w h hs).mono fun e w' k => ⟨k.2, k.1⟩
  · simp only [if_neg h]
    exact (of_ok s w (by omega)).mono fun e w' ⟨v, k1, k2, k3⟩ => ⟨k3, v, k1, k2⟩
end Go.Proofs.YtdmfbcfhfopipaaGreatDoor

/- Nat.Bits, walked. -/
namespace Go.Proofs.YtdmfbcfhfopipaaGreatDoor
open Go.RowKit

/-- How many bits digits have. -/
def bitsL (l : List W32) : Int := if l = [] then 0 else 32 * (l.length : Int) - (32 - (Lib.bitLen (l.getD (l.length - 1) 0).toNat : Int))

theorem bitLenAux_le : ∀ (f x k : Nat), x < 2 ^ k → Lib.bitLenAux f x ≤ k := by
  intro f
  induction f with
  | zero => intro x k _; exact Nat.zero_le _
  | succ f ih =>
    intro x k h
    unfold Lib.bitLenAux
    split
    · exact Nat.zero_le _
    · cases k with
      | zero => simp at h; contradiction
      | succ k =>
        have := ih (x / 2) k (by rw [Nat.pow_succ] at h; omega)
        omega
theorem bitLen_le (x k : Nat) (h : x < 2 ^ k) : Lib.bitLen x ≤ k := bitLenAux_le 64 x k h

set_option maxRecDepth 100000 in
set_option maxHeartbeats 1000000 in
theorem nat_bits (v : Value) (l : List W32) (w : World) (lo : Nat) (hv : NatV lo w v l) (hl : l.length ≤ 1000000000000) :
    Calls Tryz.prog 40 #[v] w fun e w' => e = .returned (.int .i64 (bitsL l)) ∧ Below w.heap.size w w' := by
  obtain ⟨A, c, rfl, hlc, hcm, hd⟩ := hv
  rcases hd with rfl | ⟨b, rfl, _, hlt, hcell⟩
  · go_enter Tryz.func40, Tryz.ntmps40
    go_wp2_with fail
    go_ret
    exact ⟨rfl, (Below.refl w.heap.size w).alloc (Nat.le_refl _) _⟩
  · by_cases h0 : l.length = 0
    · have : l = [] := List.eq_nil_of_length_eq_zero h0
      subst this
      go_enter Tryz.func40, Tryz.ntmps40
      go_wp2_with fail
      go_ret
      exact ⟨rfl, (Below.refl w.heap.size w).alloc (Nat.le_refl _) _⟩
    · have hbl : bitsL l = 32 * (l.length : Int) - (32 - (Lib.bitLen (l.getD (l.length - 1) 0).toNat : Int)) := by
        rw [bitsL, if_neg]; intro h; subst h; simp at h0
      rw [hbl]
      obtain ⟨n, hn⟩ : ∃ n, l.length = n + 1 := ⟨l.length - 1, by omega⟩
      have hc := hcell n (by omega)
      rw [hn] at hlc hl ⊢
      rw [show n + 1 - 1 = n from rfl]
      generalize l.getD n 0 = x at hc ⊢
      have hcW : ∀ o, (w.alloc o).cell? ⟨b, n, none⟩ = some (.int .u32 (wd x)) := fun o => by
        rw [((Below.refl w.heap.size w).alloc (Nat.le_refl _) o).cell (p := ⟨b, n, none⟩) hlt]; exact hc
      have hx0 := wd_nonneg x
      have hx1 : wd x ≤ 4294967295 := by have := wd_lt x; omega
      have hxn : (wd x).toNat = x.toNat := by simp [wd]
      have hlz := fun w => Tryz.bits_LeadingZeros32 (wd x) w hx0 hx1
      rw [hxn] at hlz
      have hbx : Lib.bitLen x.toNat ≤ 32 := bitLen_le x.toNat 32 x.isLt
      generalize Lib.bitLen x.toNat = bl at hlz hbx ⊢
      have HLZ := Lib.hid hlz
      have hne : (((n : Int) + 1) == 0) = false := by rw [beq_eq_false_iff_ne]; omega
      clear hcell hc hbl hx0 hx1 hxn hlz hn h0
      go_enter Tryz.func40, Tryz.ntmps40
      have hnc : (n : Int) < (n : Int) + 1 := by omega
      have hw1 : (n : Int) + 1 - 1 = (n : Int) := by omega
      go_wp2_with fail
      go_quiet ((go_at_call 76; exact Calls.quiet_of_same ((HLZ.out _).mono fun e w' h => ⟨h.1, h.2⟩)))
      go_wp2_with fail
      go_ret
      have hb := (Below.refl w.heap.size w).alloc (Nat.le_refl _) (.cells #[.slice (some ⟨b, 0, none⟩) (n + 1) c] 45)
      exact ⟨ret_int (by push_cast; rfl), hb.os, hb.tape, hb.output, hb.size, hb.block⟩
end Go.Proofs.YtdmfbcfhfopipaaGreatDoor

/- keys.Rsa, walked. -/
namespace Go.Proofs.YtdmfbcfhfopipaaGreatDoor
open Go.RowKit

/-- Where a key's exponent and modulus lie: how many bytes the exponent has, what stands behind the size. -/
def rsaSplit (p : List UInt8) : Option (Nat × List UInt8) :=
  if p.length = 0 then none
  else if (p.getD 0 0).toNat = 0 then
    (if (p.drop 1).length < 2 then none else some (((p.drop 1).getD 0 0).toNat * 256 + ((p.drop 1).getD 1 0).toNat, (p.drop 1).drop 2))
  else some ((p.getD 0 0).toNat, p.drop 1)
def rsaOk (sz : Nat) (r : List UInt8) : Bool :=
  decide (sz ≠ 0) && decide (sz < r.length) && decide ((r.getD 0 0).toNat ≠ 0) && decide ((r.getD sz 0).toNat ≠ 0) && decide (sz ≤ 256) && decide (r.length - sz ≤ 256) && decide (496 ≤ bitsL (numDigs (r.drop sz)))
def rsaOf (p : List UInt8) : Option (List UInt8 × List UInt8) :=
  match rsaSplit p with
  | none => none
  | some (sz, r) => if rsaOk sz r then some (r.take sz, r.drop sz) else none

def zeroNat : Value := .agg #[.slice none 0 0]
/-- What Rsa tells. -/
def RsaPost (p : List UInt8) (w : World) (e : Ending) (w' : World) : Prop :=
  Below w.heap.size w w' ∧ match rsaOf p with
    | none => e = .returned (.tuple #[zeroNat, zeroNat, .int .i64 8])
    | some (x, y) => ∃ v u, e = .returned (.tuple #[v, u, .int .i64 0]) ∧ NatV w.heap.size w' v (numDigs x) ∧ NatV w.heap.size w' u (numDigs y)

set_option maxRecDepth 100000 in
theorem rsa_bad (w : World) : Calls Tryz.prog 39 #[] w fun e w' => e = .returned (.tuple #[.agg #[.slice none 0 0], .agg #[.slice none 0 0], .int .i64 8]) ∧ Below w.heap.size w w' := by
  go_enter Tryz.func39, Tryz.ntmps39
  go_wp2_with fail
  have h0 := (Blk.new w #[.slice none 0 0] 45).alloc (.cells #[.slice none 0 0] 45)
  have h1 := Blk.new (w.alloc (.cells #[.slice none 0 0] 45)) #[.slice none 0 0] 45
  refine bodyPost_ret (results3 rfl ⟨_, rfl, nat_load h0⟩ ⟨_, rfl, nat_load (by simpa using h1)⟩ rfl) rfl ⟨rfl, ?_⟩
  exact ((Below.refl w.heap.size w).alloc (Nat.le_refl _) _).alloc (by simp) _

/-- The two variables of Rsa's results. -/
structure RsaVars (w W : World) (x y : Value) : Prop where
  e : Blk W w.heap.size #[x] 45
  n : Blk W (w.heap.size + 1) #[y] 45
  below : Below w.heap.size w W
theorem rsa_start (w : World) : RsaVars w ((w.alloc (.cells #[.slice none 0 0] 45)).alloc (.cells #[.slice none 0 0] 45)) (.slice none 0 0) (.slice none 0 0) := by
  refine ⟨(Blk.new w _ _).alloc _, ?_, ((Below.refl _ w).alloc (Nat.le_refl _) _).alloc (by simp) _⟩
  have := Blk.new (w.alloc (.cells #[.slice none 0 0] 45)) #[.slice none 0 0] 45
  simpa using this
theorem RsaVars.next {w W W' : World} {x y : Value} (h : RsaVars w W x y) (hb : Below W.heap.size W W') : RsaVars w W' x y := ⟨h.e.below hb h.e.lt, h.n.below hb h.n.lt, h.below.trans (hb.mono h.below.size)⟩
theorem RsaVars.drewN {w W : World} {x y : Value} (h : RsaVars w W x y) (n : Nat) : RsaVars w (W.drewN n) x y := ⟨h.e, h.n, ⟨h.below.os, h.below.tape, h.below.output, h.below.size, h.below.block⟩⟩
theorem RsaVars.put {w W : World} {x y : Value} (h : RsaVars w W x y) (u v : Value) : RsaVars w ((W.setCell ⟨w.heap.size, 0, none⟩ u).setCell ⟨w.heap.size + 1, 0, none⟩ v) u v := by
  refine ⟨?_, ?_, (h.below.setCell (p := ⟨w.heap.size, 0, none⟩) (by exact Nat.le_refl _) _).setCell (p := ⟨w.heap.size + 1, 0, none⟩) (by simp) _⟩
  · exact Blk.other (by simpa using h.e.set 0 u) (by simp) _
  · simpa using (Blk.other h.n (p := ⟨w.heap.size, 0, none⟩) (by simp) u).set 0 v

set_option maxRecDepth 100000 in
set_option maxHeartbeats 1000000 in
theorem rsa_empty (w : World) : Calls Tryz.prog 18 #[.string (bs [])] w (RsaPost [] w) := by
  have hem : (bs ([] : List UInt8)).toList.isEmpty = true := by rw [ByteArray.toList_eq]; rfl
  have hno : rsaOf [] = none := rfl
  have HNO := Lib.hid hno
  clear hno
  go_enter Tryz.func18, Tryz.ntmps18
  go_wp2_with
    (go_at_call 39; refine (rsa_bad _).mono ?_; rintro e w9 ⟨rfl, hB9⟩; have hv := (rsa_start w).next hB9; have z0 : w9.cell? ⟨w.heap.size, 0, none⟩ = some (.slice none 0 0) := hv.e.cell 0; have z1 : w9.cell? ⟨w.heap.size + 1, 0, none⟩ = some (.slice none 0 0) := hv.n.cell 0; have y0 := hv.e.free 0; have y1 := hv.n.free 0; replace hv := Lib.hid hv; clear hB9)
  have hp := hv.out.put (.slice none 0 0) (.slice none 0 0)
  refine bodyPost_ret (results3 rfl ⟨_, rfl, nat_load hp.e⟩ ⟨_, rfl, nat_load hp.n⟩ rfl) rfl ⟨hp.below, ?_⟩
  rw [HNO.out]
  try rfl

theorem RsaVars.put1 {w W : World} {x y : Value} (h : RsaVars w W x y) (u : Value) : RsaVars w (W.setCell ⟨w.heap.size, 0, none⟩ u) u y :=
  ⟨by simpa using h.e.set 0 u, Blk.other h.n (by simp) _, h.below.setCell (p := ⟨w.heap.size, 0, none⟩) (by exact Nat.le_refl _) _⟩
theorem RsaVars.put2 {w W : World} {x y : Value} (h : RsaVars w W x y) (u : Value) : RsaVars w (W.setCell ⟨w.heap.size + 1, 0, none⟩ u) x u :=
  ⟨Blk.other h.e (by simp) _, by simpa using h.n.set 0 u, h.below.setCell (p := ⟨w.heap.size + 1, 0, none⟩) (by simp) _⟩
theorem setCell_self {w : World} {b : Nat} {v : Value} {t : TypeId} (h : Blk w b #[v] t) : w.setCell ⟨b, 0, none⟩ v = w := by
  rw [setCell_eq_setRow w b 0 #[v] t (0, 0) v h]
  exact setRow_self w b _ t (0, 0) h
theorem quiet_run {P : Program} {C : World → Prop} {o : Oper} {a : Act} {K : Act → Prop} (v : Value) (h : ∀ w, C w → (execOp a.eval o).run P w = .ok (.value v) w) (hk : K (a.put o.dst v)) : o.quiet P a C K :=
  ⟨v, fun w hw => by unfold Oper.quietAt; rw [h w hw]; exact ⟨rfl, rfl⟩, hk⟩
theorem quiet_skip {P : Program} {C : World → Prop} {o : Oper} {a : Act} {K : Act → Prop} (h : ∀ w, C w → (execOp a.eval o).run P w = .ok .skip w) (hk : K (a.put o.dst undef)) : o.quiet P a C K :=
  ⟨undef, fun w hw => by unfold Oper.quietAt; rw [h w hw]; exact ⟨rfl, rfl⟩, hk⟩
theorem bs_take (l : List UInt8) (k : Nat) : (bs l).extract 0 k = bs (l.take k) := by
  apply ByteArray.ext
  simp [bs, ByteArray.data_extract]
theorem stripL_len (l : List UInt8) : (stripL l).length ≤ l.length := by
  unfold stripL
  induction l with
  | nil => exact Nat.le_refl _
  | cons a l ih =>
    unfold Lib.trimLeftB at *
    rw [List.dropWhile_cons]
    split
    · simp; omega
    · exact Nat.le_refl _
theorem numDigs_len (l : List UInt8) : (numDigs l).length ≤ l.length := by
  rw [numDigs, trimL_len]
  have h1 := trimN_le (ofRun (stripL l) (stripL l).length) (ofRun (stripL l) (stripL l).length).length
  rw [ofRun_len] at h1 ⊢
  have h2 := stripL_len l
  omega
theorem of_bytes (l : List UInt8) (w : World) (hl : l.length ≤ 512) : Calls Tryz.prog 25 #[.string (bs l)] w fun e w' => ∃ v, e = .returned (.tuple #[v, .int .i64 0]) ∧ NatV w.heap.size w' v (numDigs l) ∧ Below w.heap.size w w' := by
  have h := of_ok (bs l) w (by rw [show (bs l).data.toList = l by simp [bs]]; have := stripL_len l; omega)
  rw [show (bs l).data.toList = l by simp [bs]] at h
  exact h
theorem rsaOk_no {sz : Nat} {r : List UInt8} (h : sz = 0 ∨ r.length ≤ sz ∨ (r.getD 0 0).toNat = 0 ∨ (r.getD sz 0).toNat = 0 ∨ 256 < sz ∨ 256 < r.length - sz ∨ bitsL (numDigs (r.drop sz)) < 496) : rsaOk sz r = false := by
  cases hk : rsaOk sz r with
  | false => rfl
  | true =>
    simp only [rsaOk, Bool.and_eq_true, decide_eq_true_eq] at hk
    omega


set_option maxRecDepth 100000 in
set_option maxHeartbeats 2000000 in
theorem rsa_one (p : List UInt8) (w : World) (hp : 0 < p.length) (hm : p.length ≤ 9223372036854775807) (h0 : (p.getD 0 0).toNat ≠ 0) : Calls Tryz.prog 18 #[.string (bs p)] w (RsaPost p w) := by
  have hem : (bs p).toList.isEmpty = false := toList_isEmpty (by rw [bs_size]; omega)
  have hsp : rsaSplit p = some ((p.getD 0 0).toNat, p.drop 1) := by rw [rsaSplit, if_neg (by omega), if_neg h0]
  have hof : rsaOf p = if rsaOk (p.getD 0 0).toNat (p.drop 1) then some ((p.drop 1).take (p.getD 0 0).toNat, (p.drop 1).drop (p.getD 0 0).toNat) else none := by rw [rsaOf, hsp]
  have hg0 : ∀ h, (bs p)[0]'h = p.getD 0 0 := fun h => bs_get _ _ h
  have hdr : (bs p).extract 1 p.length = bs (p.drop 1) := bs_drop p 1
  have hsz := bs_size p
  have hp' : (0 : Int) < (p.length : Int) := by omega
  have hp1 : (1 : Int) ≤ (p.length : Int) := by omega
  have hmix : Tryz.prog.follows .mixedOrders = true := by kernel_rfl
  have hrl : (p.drop 1).length ≤ 9223372036854775807 := by rw [List.length_drop]; omega
  generalize hb0 : p.getD 0 0 = b0 at *
  generalize p.drop 1 = r at *
  have HOF := Lib.hid hof
  clear hof hsp hb0
  go_enter Tryz.func18, Tryz.ntmps18
  go_wp2_with fail
  have hv0 := rsa_start w
  generalize ((w.alloc (.cells #[.slice none 0 0] 45)).alloc (.cells #[.slice none 0 0] 45)) = W0 at hv0 ⊢
  go_quiet (fail)
  generalize hW : W0.drewN nq = W1
  have hv1 : RsaVars w W1 (.slice none 0 0) (.slice none 0 0) := by rw [← hW]; exact hv0.drewN nq
  have HV := Lib.hid hv1
  clear hW hv0 hv1 hg0 hdr hsz hp' hp1 hem
  have hbl := b0.toNat_lt
  generalize b0.toNat = sz at *
  have hwr : wrap64 (sz : Int) = (sz : Int) := by unfold wrap64; omega
  rw [hwr]
  have e1 : ((sz : Int) == 0) = false := by rw [beq_eq_false_iff_ne]; omega
  have hrs := bs_size r
  by_cases a2 : r.length ≤ sz
  · have e2 : decide ((r.length : Int) ≤ (sz : Int)) = true := decide_eq_true (by omega)
    have hno : rsaOf p = none := by rw [HOF.out, rsaOk_no (.inr (.inl a2))]; rfl
    have HNO := Lib.hid hno
    clear hno HOF
    go_wp2_with
      (go_at_call 39; refine (rsa_bad _).mono ?_; rintro e w9 ⟨rfl, hB9⟩; have hv := HV.out.next hB9; have z0 : w9.cell? ⟨w.heap.size, 0, none⟩ = some (.slice none 0 0) := hv.e.cell 0; have z1 : w9.cell? ⟨w.heap.size + 1, 0, none⟩ = some (.slice none 0 0) := hv.n.cell 0; have y0 := hv.e.free 0; have y1 := hv.n.free 0; replace hv := Lib.hid hv; clear hB9)
    have hp := hv.out.put (.slice none 0 0) (.slice none 0 0)
    refine bodyPost_ret (results3 rfl ⟨_, rfl, nat_load hp.e⟩ ⟨_, rfl, nat_load hp.n⟩ rfl) rfl ⟨hp.below, ?_⟩
    rw [HNO.out]
    try rfl
  have e2 : decide ((r.length : Int) ≤ (sz : Int)) = false := decide_eq_false (by omega)
  have p0 : (0 : Int) < (r.length : Int) := by omega
  have p1 : (sz : Int) < (r.length : Int) := by omega
  have p2 : (sz : Int) ≤ (r.length : Int) := by omega
  have p3 : sz ≤ r.length := by omega
  have g0 : ∀ h, (bs r)[0]'h = r.getD 0 0 := fun h => bs_get _ _ h
  have g1 : ∀ h, (bs r)[sz]'h = r.getD sz 0 := fun h => bs_get _ _ h
  by_cases a3 : (r.getD 0 0).toNat = 0
  · have e3 : (((r.getD 0 0).toNat : Int) == 0) = true := by rw [a3]; rfl
    have hb : rsaOk sz r = false := rsaOk_no (.inr (.inr (.inl a3)))
    generalize r.getD 0 0 = x0 at g0 e3
    clear a3
    have hno : rsaOf p = none := by rw [HOF.out, hb]; rfl
    have HNO := Lib.hid hno
    clear hno HOF hb
    go_wp2_with
      (go_at_call 39; refine (rsa_bad _).mono ?_; rintro e w9 ⟨rfl, hB9⟩; have hv := HV.out.next hB9; have z0 : w9.cell? ⟨w.heap.size, 0, none⟩ = some (.slice none 0 0) := hv.e.cell 0; have z1 : w9.cell? ⟨w.heap.size + 1, 0, none⟩ = some (.slice none 0 0) := hv.n.cell 0; have y0 := hv.e.free 0; have y1 := hv.n.free 0; replace hv := Lib.hid hv; clear hB9)
    have hp := hv.out.put (.slice none 0 0) (.slice none 0 0)
    refine bodyPost_ret (results3 rfl ⟨_, rfl, nat_load hp.e⟩ ⟨_, rfl, nat_load hp.n⟩ rfl) rfl ⟨hp.below, ?_⟩
    rw [HNO.out]
    try rfl
  have e3 : (((r.getD 0 0).toNat : Int) == 0) = false := by rw [beq_eq_false_iff_ne]; omega
  by_cases a4 : (r.getD sz 0).toNat = 0
  · have e4 : (((r.getD sz 0).toNat : Int) == 0) = true := by rw [a4]; rfl
    have hb : rsaOk sz r = false := rsaOk_no (.inr (.inr (.inr (.inl a4))))
    generalize r.getD 0 0 = x0 at g0 e3
    generalize r.getD sz 0 = x1 at g1 e4
    clear a3 a4
    have hno : rsaOf p = none := by rw [HOF.out, hb]; rfl
    have HNO := Lib.hid hno
    clear hno HOF hb
    go_wp2_with
      (go_at_call 39; refine (rsa_bad _).mono ?_; rintro e w9 ⟨rfl, hB9⟩; have hv := HV.out.next hB9; have z0 : w9.cell? ⟨w.heap.size, 0, none⟩ = some (.slice none 0 0) := hv.e.cell 0; have z1 : w9.cell? ⟨w.heap.size + 1, 0, none⟩ = some (.slice none 0 0) := hv.n.cell 0; have y0 := hv.e.free 0; have y1 := hv.n.free 0; replace hv := Lib.hid hv; clear hB9)
    have hp := hv.out.put (.slice none 0 0) (.slice none 0 0)
    refine bodyPost_ret (results3 rfl ⟨_, rfl, nat_load hp.e⟩ ⟨_, rfl, nat_load hp.n⟩ rfl) rfl ⟨hp.below, ?_⟩
    rw [HNO.out]
    try rfl
  have e4 : (((r.getD sz 0).toNat : Int) == 0) = false := by rw [beq_eq_false_iff_ne]; omega
  by_cases a5 : 256 < sz
  · have e5 : decide ((256 : Int) < (sz : Int)) = true := decide_eq_true (by omega)
    have hb : rsaOk sz r = false := rsaOk_no (.inr (.inr (.inr (.inr (.inl a5)))))
    generalize r.getD 0 0 = x0 at g0 e3
    generalize r.getD sz 0 = x1 at g1 e4
    clear a3 a4 a5
    have hno : rsaOf p = none := by rw [HOF.out, hb]; rfl
    have HNO := Lib.hid hno
    clear hno HOF hb
    go_wp2_with
      (go_at_call 39; refine (rsa_bad _).mono ?_; rintro e w9 ⟨rfl, hB9⟩; have hv := HV.out.next hB9; have z0 : w9.cell? ⟨w.heap.size, 0, none⟩ = some (.slice none 0 0) := hv.e.cell 0; have z1 : w9.cell? ⟨w.heap.size + 1, 0, none⟩ = some (.slice none 0 0) := hv.n.cell 0; have y0 := hv.e.free 0; have y1 := hv.n.free 0; replace hv := Lib.hid hv; clear hB9)
    have hp := hv.out.put (.slice none 0 0) (.slice none 0 0)
    refine bodyPost_ret (results3 rfl ⟨_, rfl, nat_load hp.e⟩ ⟨_, rfl, nat_load hp.n⟩ rfl) rfl ⟨hp.below, ?_⟩
    rw [HNO.out]
    try rfl
  have e5 : decide ((256 : Int) < (sz : Int)) = false := decide_eq_false (by omega)
  by_cases a6 : 256 < r.length - sz
  · have e6 : decide ((256 : Int) < (r.length : Int) - (sz : Int)) = true := decide_eq_true (by omega)
    have hb : rsaOk sz r = false := rsaOk_no (.inr (.inr (.inr (.inr (.inr (.inl a6))))))
    generalize r.getD 0 0 = x0 at g0 e3
    generalize r.getD sz 0 = x1 at g1 e4
    clear a3 a4 a5 a6
    have hno : rsaOf p = none := by rw [HOF.out, hb]; rfl
    have HNO := Lib.hid hno
    clear hno HOF hb
    go_wp2_with
      (go_at_call 39; refine (rsa_bad _).mono ?_; rintro e w9 ⟨rfl, hB9⟩; have hv := HV.out.next hB9; have z0 : w9.cell? ⟨w.heap.size, 0, none⟩ = some (.slice none 0 0) := hv.e.cell 0; have z1 : w9.cell? ⟨w.heap.size + 1, 0, none⟩ = some (.slice none 0 0) := hv.n.cell 0; have y0 := hv.e.free 0; have y1 := hv.n.free 0; replace hv := Lib.hid hv; clear hB9)
    have hp := hv.out.put (.slice none 0 0) (.slice none 0 0)
    refine bodyPost_ret (results3 rfl ⟨_, rfl, nat_load hp.e⟩ ⟨_, rfl, nat_load hp.n⟩ rfl) rfl ⟨hp.below, ?_⟩
    rw [HNO.out]
    try rfl
  have e6 : decide ((256 : Int) < (r.length : Int) - (sz : Int)) = false := decide_eq_false (by omega)
  have ho1 := fun W => of_bytes (r.take sz) W (by rw [List.length_take]; omega)
  have ho2 := fun W => of_bytes (r.drop sz) W (by rw [List.length_drop]; omega)
  have hx1 : (bs r).extract 0 sz = bs (r.take sz) := bs_take r sz
  have hx2 : (bs r).extract sz r.length = bs (r.drop sz) := bs_drop r sz
  have hokk : rsaOk sz r = decide (496 ≤ bitsL (numDigs (r.drop sz))) := by
    simp only [rsaOk, decide_eq_true (show sz ≠ 0 by omega), decide_eq_true (show sz < r.length by omega), decide_eq_true a3, decide_eq_true a4, decide_eq_true (show sz ≤ 256 by omega), decide_eq_true (show r.length - sz ≤ 256 by omega), Bool.true_and]
  rw [hokk] at HOF
  have hnl := numDigs_len (r.drop sz)
  have hnl2 : (numDigs (r.drop sz)).length ≤ 1000000000000 := by rw [List.length_drop] at hnl; omega
  generalize hdn : numDigs (r.drop sz) = dn at ho2 hnl2 HOF
  generalize hde : numDigs (r.take sz) = de at ho1
  have HDN := Lib.hid hdn; have HDE := Lib.hid hde
  clear hdn hde
  generalize r.getD 0 0 = x0 at g0 e3
  generalize r.getD sz 0 = x1 at g1 e4
  generalize bs (r.take sz) = s1 at hx1 ho1
  generalize bs (r.drop sz) = s2 at hx2 ho2
  have HO1 := Lib.hid ho1; have HO2 := Lib.hid ho2
  have hwl : w.heap.size < W1.heap.size := HV.out.e.lt
  have hwl2 : w.heap.size + 1 < W1.heap.size := HV.out.n.lt
  clear a3 a4 a5 a6 ho1 ho2 hokk hnl
  go_wp2_with (go_at_call 25; refine (Hid.out (p := _) ?_))
  refine Lib.hid ?_
  refine (HO1.out _).mono ?_
  rintro e w2 ⟨v2, rfl, hN2, hB2⟩
  obtain ⟨A1, c1, rfl, k1, k2, k3⟩ := hN2
  have hV2 := HV.out.next hB2
  have z0 : w2.cell? ⟨w.heap.size, 0, none⟩ = some (.slice none 0 0) := hV2.e.cell 0
  have y0 := hV2.e.free 0
  have hVs := hV2.put1 (.slice A1 de.length c1)
  have hDs := k3.low (p := ⟨w.heap.size, 0, none⟩) hwl (.slice A1 de.length c1)
  replace hVs := Lib.hid hVs
  replace hDs := Lib.hid hDs
  have hsz2 := hB2.size
  clear hV2 k3 hB2
  simp only []
  go_wp2_with (go_at_call 25; refine (Hid.out (p := _) ?_))
  refine Lib.hid ?_
  refine (HO2.out _).mono ?_
  rintro e w3 ⟨v3, rfl, hN3, hB3⟩
  obtain ⟨A2, c2, rfl, l1, l2, l3⟩ := hN3
  have hV3 := hVs.out.next hB3
  have hD3 := hDs.out.below hB3
  have z1 : w3.cell? ⟨w.heap.size + 1, 0, none⟩ = some (.slice none 0 0) := hV3.n.cell 0
  have y1 := hV3.n.free 0
  have hlo2 : w.heap.size + 1 < (w2.setCell ⟨w.heap.size, 0, none⟩ (.slice A1 de.length c1)).heap.size := by simp; omega
  have hVt := hV3.put2 (.slice A2 dn.length c2)
  have hDt := l3.low (p := ⟨w.heap.size + 1, 0, none⟩) hlo2 (.slice A2 dn.length c2)
  have hDu := hD3.low (p := ⟨w.heap.size + 1, 0, none⟩) hwl2 (.slice A2 dn.length c2)
  have hsz3 := hB3.size
  clear hV3 hD3 l3 hB3 z0 y0 hVs hDs
  replace hVt := Lib.hid hVt
  replace hDt := Lib.hid hDt
  replace hDu := Lib.hid hDu
  simp only []
  go_wp2_with (go_at_call 40; refine (Hid.out (p := _) ?_))
  refine Lib.hid ?_
  refine (nat_bits _ dn _ _ ⟨A2, c2, rfl, l1, l2, hDt.out⟩ hnl2).mono ?_
  rintro e w4 ⟨rfl, hB4⟩
  have hV4 := hVt.out.next hB4
  have hDt4 := hDt.out.below hB4
  have hDu4 := hDu.out.below hB4
  replace hV4 := Lib.hid hV4
  replace hDt4 := Lib.hid hDt4
  replace hDu4 := Lib.hid hDu4
  clear hVt hDt hDu hB4 z1 y1
  simp only []
  generalize bitsL dn = bl at HOF ⊢
  by_cases a7 : bl < 496
  · have e7 : decide (bl < 496) = true := decide_eq_true a7
    have hno : rsaOf p = none := by rw [HOF.out, decide_eq_false (by omega)]; rfl
    have HNO := Lib.hid hno
    clear hno HOF a7
    go_wp2_with (go_at_call 39; refine (rsa_bad _).mono ?_; rintro e w9 ⟨rfl, hB9⟩; have hv := hV4.out.next hB9; have z0 : w9.cell? ⟨w.heap.size, 0, none⟩ = some (.slice A1 de.length c1) := hv.e.cell 0; have z1 : w9.cell? ⟨w.heap.size + 1, 0, none⟩ = some (.slice A2 dn.length c2) := hv.n.cell 0; have y0 := hv.e.free 0; have y1 := hv.n.free 0; replace hv := Lib.hid hv; clear hB9)
    have hp := hv.out.put (.slice none 0 0) (.slice none 0 0)
    refine bodyPost_ret (results3 rfl ⟨_, rfl, nat_load hp.e⟩ ⟨_, rfl, nat_load hp.n⟩ rfl) rfl ⟨hp.below, ?_⟩
    rw [HNO.out]
    try rfl
  have e7 : decide (bl < 496) = false := decide_eq_false a7
  have hyes : rsaOf p = some (r.take sz, r.drop sz) := by rw [HOF.out, decide_eq_true (by omega)]; rfl
  have HYES := Lib.hid hyes
  have q0 : w4.cell? ⟨w.heap.size, 0, none⟩ = some (.slice A1 de.length c1) := hV4.out.e.cell 0
  have q1 : w4.cell? ⟨w.heap.size + 1, 0, none⟩ = some (.slice A2 dn.length c2) := hV4.out.n.cell 0
  have qf0 := hV4.out.e.free 0
  have qf1 := hV4.out.n.free 0
  clear hyes HOF a7
  go_wp2_with fail
  refine wp_region_quiet (C := fun W => ∃ n, W = w4.drewN n) hmix (by kernel_rfl) ⟨1, rfl⟩ ?_
  refine BigFrame.wpQuiet_want rfl fun K hK => quiet_run (.agg #[.slice A1 de.length c1]) (fun W hW => ?run) (hK _ ?_)
  case run => obtain ⟨n, rfl⟩ := hW; simp [go_sem, Act.eval, q0]
  clear hK K
  refine BigFrame.wpQuiet_want rfl fun K hK => quiet_run (.agg #[.slice A2 dn.length c2]) (fun W hW => ?run) (hK _ ?_)
  case run => obtain ⟨n, rfl⟩ := hW; simp [go_sem, Act.put, Act.eval, q1]
  clear hK K
  refine BigFrame.wpQuiet_want rfl fun K hK => quiet_skip (fun W hW => ?run) (hK _ ?_)
  case run =>
    obtain ⟨n, rfl⟩ := hW
    simp [go_sem, Act.put, Act.eval, q0, qf0]
    exact setCell_self (w := w4.drewN n) hV4.out.e
  clear hK K
  refine BigFrame.wpQuiet_want rfl fun K hK => quiet_skip (fun W hW => ?run) (hK _ ?_)
  case run =>
    obtain ⟨n, rfl⟩ := hW
    simp [go_sem, Act.put, Act.eval, q1, qf1]
    exact setCell_self (w := w4.drewN n) hV4.out.n
  clear hK K
  refine BigFrame.wpQuiet_want rfl fun K hK => BigFrame.quiet_assign _ rfl (hK _ ?_)
  clear hK K
  refine wpQuiet_nil ?_
  rintro W ⟨nq, rfl⟩
  have hp := hV4.out.drewN nq
  have hD1 : DigsAt w.heap.size (w4.drewN nq) A1 de := hDu4.out.mono (by omega)
  have hD2 : DigsAt w.heap.size (w4.drewN nq) A2 dn := hDt4.out.mono (by simp; omega)
  have HP := Lib.hid hp; have HD1 := Lib.hid hD1; have HD2 := Lib.hid hD2
  clear hp hD1 hD2
  go_wp2_with fail
  simp only [Act.put]
  refine bodyPost_ret (results3 rfl ⟨_, by simp [Act.eval], nat_load HP.out.e⟩ ⟨_, by simp [Act.eval], nat_load HP.out.n⟩ (v := .agg #[.slice A1 de.length c1]) (u := .agg #[.slice A2 dn.length c2]) (x := .int .i64 0) (by simp [RvOk, Act.eval])) rfl ⟨HP.out.below, ?_⟩
  rw [HYES.out]
  exact ⟨_, _, rfl, by rw [HDE.out]; exact ⟨A1, c1, rfl, k1, k2, HD1.out⟩, by rw [HDN.out]; exact ⟨A2, c2, rfl, l1, l2, HD2.out⟩⟩
end Go.Proofs.YtdmfbcfhfopipaaGreatDoor

/- keys.Rsa, the exponent's size in two bytes, walked; keys.Rsa whole. -/
namespace Go.Proofs.YtdmfbcfhfopipaaGreatDoor
open Go.RowKit

set_option maxRecDepth 100000 in
set_option maxHeartbeats 2000000 in
theorem rsa_two (p : List UInt8) (w : World) (hp : 0 < p.length) (hm : p.length ≤ 9223372036854775807) (h0 : (p.getD 0 0).toNat = 0) : Calls Tryz.prog 18 #[.string (bs p)] w (RsaPost p w) := by
  have hem : (bs p).toList.isEmpty = false := toList_isEmpty (by rw [bs_size]; omega)
  have hg0 : ∀ h, (bs p)[0]'h = p.getD 0 0 := fun h => bs_get _ _ h
  have hdr : (bs p).extract 1 p.length = bs (p.drop 1) := bs_drop p 1
  have hsz := bs_size p
  have hp' : (0 : Int) < (p.length : Int) := by omega
  have hp1 : (1 : Int) ≤ (p.length : Int) := by omega
  have hmix : Tryz.prog.follows .mixedOrders = true := by kernel_rfl
  have hof : rsaOf p = match (if (p.drop 1).length < 2 then none else some (((p.drop 1).getD 0 0).toNat * 256 + ((p.drop 1).getD 1 0).toNat, (p.drop 1).drop 2)) with | none => none | some (sz, r) => if rsaOk sz r then some (r.take sz, r.drop sz) else none := by
    rw [rsaOf, rsaSplit, if_neg (by omega), if_pos h0] <;> rfl
  have hql : (p.drop 1).length ≤ 9223372036854775807 := by rw [List.length_drop]; omega
  generalize hb0 : p.getD 0 0 = b0 at *
  generalize p.drop 1 = q at *
  have HOF0 := Lib.hid hof
  have hz0 : wrap64 (b0.toNat : Int) = 0 := by rw [h0]; unfold wrap64; omega
  clear hof hb0 h0
  go_enter Tryz.func18, Tryz.ntmps18
  go_wp2_with fail
  have hv0 := rsa_start w
  generalize ((w.alloc (.cells #[.slice none 0 0] 45)).alloc (.cells #[.slice none 0 0] 45)) = W0 at hv0 ⊢
  go_quiet (fail)
  generalize hW : W0.drewN nq = V1
  have hv1 : RsaVars w V1 (.slice none 0 0) (.slice none 0 0) := by rw [← hW]; exact hv0.drewN nq
  have HV := Lib.hid hv1
  clear hW hv0 hv1 hg0 hdr hsz hp' hp1 hem
  have hqs := bs_size q
  by_cases hl : q.length < 2
  · have e2 : decide ((q.length : Int) < 2) = true := decide_eq_true (by omega)
    have hno : rsaOf p = none := by rw [HOF0.out, if_pos hl]
    have HNO := Lib.hid hno
    clear hno HOF0 hl
    go_wp2_with
      (go_at_call 39; refine (rsa_bad _).mono ?_; rintro e w9 ⟨rfl, hB9⟩; have hv := HV.out.next hB9; have z0 : w9.cell? ⟨w.heap.size, 0, none⟩ = some (.slice none 0 0) := hv.e.cell 0; have z1 : w9.cell? ⟨w.heap.size + 1, 0, none⟩ = some (.slice none 0 0) := hv.n.cell 0; have y0 := hv.e.free 0; have y1 := hv.n.free 0; replace hv := Lib.hid hv; clear hB9)
    have hp := hv.out.put (.slice none 0 0) (.slice none 0 0)
    refine bodyPost_ret (results3 rfl ⟨_, rfl, nat_load hp.e⟩ ⟨_, rfl, nat_load hp.n⟩ rfl) rfl ⟨hp.below, ?_⟩
    rw [HNO.out]
    try rfl
  · have e2 : decide ((q.length : Int) < 2) = false := decide_eq_false (by omega)
    have g0 : ∀ h, (bs q)[0]'h = q.getD 0 0 := fun h => bs_get _ _ h
    have g1 : ∀ h, (bs q)[1]'h = q.getD 1 0 := fun h => bs_get _ _ h
    have hdr : (bs q).extract 2 q.length = bs (q.drop 2) := bs_drop q 2
    have i0 : (0 : Int) < (q.length : Int) := by omega
    have i1 : (1 : Int) < (q.length : Int) := by omega
    have i2 : (2 : Int) ≤ (q.length : Int) := by omega
    have hrl : (q.drop 2).length ≤ 9223372036854775807 := by rw [List.length_drop]; omega
    have hof : rsaOf p = if rsaOk ((q.getD 0 0).toNat * 256 + (q.getD 1 0).toNat) (q.drop 2) then some ((q.drop 2).take ((q.getD 0 0).toNat * 256 + (q.getD 1 0).toNat), (q.drop 2).drop ((q.getD 0 0).toNat * 256 + (q.getD 1 0).toNat)) else none := by
      rw [HOF0.out, if_neg hl]
    have hso := shl8_or (q.getD 0 0).toNat (q.getD 1 0).toNat (by omega) (by have := (q.getD 0 0).toNat_lt; omega) (by omega) (by have := (q.getD 1 0).toNat_lt; omega)
    have hs1 : wrap64 (((q.getD 0 0).toNat : Int) * 256) = ((q.getD 0 0).toNat : Int) * 256 := by have := (q.getD 0 0).toNat_lt; unfold wrap64; omega
    have hs2 : wrap64 ((q.getD 1 0).toNat : Int) = ((q.getD 1 0).toNat : Int) := by have := (q.getD 1 0).toNat_lt; unfold wrap64; omega
    rw [hs1, hs2] at hso
    have hszb : (q.getD 0 0).toNat * 256 + (q.getD 1 0).toNat < 65536 := by have := (q.getD 0 0).toNat_lt; have := (q.getD 1 0).toNat_lt; omega
    have hszc : ((q.getD 0 0).toNat : Int) * 256 + ((q.getD 1 0).toNat : Int) = (((q.getD 0 0).toNat * 256 + (q.getD 1 0).toNat : Nat) : Int) := by push_cast; rfl
    rw [hszc] at hso
    generalize (q.getD 0 0).toNat * 256 + (q.getD 1 0).toNat = sz at hso hof hszb hszc
    generalize hc0 : q.getD 0 0 = c0 at *
    generalize hc1 : q.getD 1 0 = c1 at *
    have hx0 := c0.toNat_lt
    have hx1 := c1.toNat_lt
    generalize q.drop 2 = r at *
    have HOF := Lib.hid hof
    clear hof HOF0 hl hc0 hc1 hszc hs1 hs2
    go_wp2_with fail
    go_quiet (fail)
    generalize hW : V1.drewN nq = W1
    have hv2 : RsaVars w W1 (.slice none 0 0) (.slice none 0 0) := by rw [← hW]; exact HV.out.drewN nq
    replace HV := Lib.hid hv2
    clear hW hv2 g0 g1 hdr i0 i1 i2 hqs
    try rw [hso]
    clear hso hx0 hx1
    have hrs := bs_size r
    by_cases hsz0 : sz = 0
    · subst hsz0
      have hno : rsaOf p = none := by rw [HOF.out, rsaOk_no (.inl rfl)]; rfl
      have HNO := Lib.hid hno
      clear hno HOF
      go_wp2_with
        (go_at_call 39; refine (rsa_bad _).mono ?_; rintro e w9 ⟨rfl, hB9⟩; have hv := HV.out.next hB9; have z0 : w9.cell? ⟨w.heap.size, 0, none⟩ = some (.slice none 0 0) := hv.e.cell 0; have z1 : w9.cell? ⟨w.heap.size + 1, 0, none⟩ = some (.slice none 0 0) := hv.n.cell 0; have y0 := hv.e.free 0; have y1 := hv.n.free 0; replace hv := Lib.hid hv; clear hB9)
      have hp := hv.out.put (.slice none 0 0) (.slice none 0 0)
      refine bodyPost_ret (results3 rfl ⟨_, rfl, nat_load hp.e⟩ ⟨_, rfl, nat_load hp.n⟩ rfl) rfl ⟨hp.below, ?_⟩
      rw [HNO.out]
      try rfl
    have e1 : ((sz : Int) == 0) = false := by rw [beq_eq_false_iff_ne]; omega
    by_cases a2 : r.length ≤ sz
    · have e2 : decide ((r.length : Int) ≤ (sz : Int)) = true := decide_eq_true (by omega)
      have hno : rsaOf p = none := by rw [HOF.out, rsaOk_no (.inr (.inl a2))]; rfl
      have HNO := Lib.hid hno
      clear hno HOF
      go_wp2_with
        (go_at_call 39; refine (rsa_bad _).mono ?_; rintro e w9 ⟨rfl, hB9⟩; have hv := HV.out.next hB9; have z0 : w9.cell? ⟨w.heap.size, 0, none⟩ = some (.slice none 0 0) := hv.e.cell 0; have z1 : w9.cell? ⟨w.heap.size + 1, 0, none⟩ = some (.slice none 0 0) := hv.n.cell 0; have y0 := hv.e.free 0; have y1 := hv.n.free 0; replace hv := Lib.hid hv; clear hB9)
      have hp := hv.out.put (.slice none 0 0) (.slice none 0 0)
      refine bodyPost_ret (results3 rfl ⟨_, rfl, nat_load hp.e⟩ ⟨_, rfl, nat_load hp.n⟩ rfl) rfl ⟨hp.below, ?_⟩
      rw [HNO.out]
      try rfl
    have e2 : decide ((r.length : Int) ≤ (sz : Int)) = false := decide_eq_false (by omega)
    have p0 : (0 : Int) < (r.length : Int) := by omega
    have p1 : (sz : Int) < (r.length : Int) := by omega
    have p2 : (sz : Int) ≤ (r.length : Int) := by omega
    have p3 : sz ≤ r.length := by omega
    have g0 : ∀ h, (bs r)[0]'h = r.getD 0 0 := fun h => bs_get _ _ h
    have g1 : ∀ h, (bs r)[sz]'h = r.getD sz 0 := fun h => bs_get _ _ h
    by_cases a3 : (r.getD 0 0).toNat = 0
    · have e3 : (((r.getD 0 0).toNat : Int) == 0) = true := by rw [a3]; rfl
      have hb : rsaOk sz r = false := rsaOk_no (.inr (.inr (.inl a3)))
      generalize r.getD 0 0 = x0 at g0 e3
      clear a3
      have hno : rsaOf p = none := by rw [HOF.out, hb]; rfl
      have HNO := Lib.hid hno
      clear hno HOF hb
      go_wp2_with
        (go_at_call 39; refine (rsa_bad _).mono ?_; rintro e w9 ⟨rfl, hB9⟩; have hv := HV.out.next hB9; have z0 : w9.cell? ⟨w.heap.size, 0, none⟩ = some (.slice none 0 0) := hv.e.cell 0; have z1 : w9.cell? ⟨w.heap.size + 1, 0, none⟩ = some (.slice none 0 0) := hv.n.cell 0; have y0 := hv.e.free 0; have y1 := hv.n.free 0; replace hv := Lib.hid hv; clear hB9)
      have hp := hv.out.put (.slice none 0 0) (.slice none 0 0)
      refine bodyPost_ret (results3 rfl ⟨_, rfl, nat_load hp.e⟩ ⟨_, rfl, nat_load hp.n⟩ rfl) rfl ⟨hp.below, ?_⟩
      rw [HNO.out]
      try rfl
    have e3 : (((r.getD 0 0).toNat : Int) == 0) = false := by rw [beq_eq_false_iff_ne]; omega
    by_cases a4 : (r.getD sz 0).toNat = 0
    · have e4 : (((r.getD sz 0).toNat : Int) == 0) = true := by rw [a4]; rfl
      have hb : rsaOk sz r = false := rsaOk_no (.inr (.inr (.inr (.inl a4))))
      generalize r.getD 0 0 = x0 at g0 e3
      generalize r.getD sz 0 = x1 at g1 e4
      clear a3 a4
      have hno : rsaOf p = none := by rw [HOF.out, hb]; rfl
      have HNO := Lib.hid hno
      clear hno HOF hb
      go_wp2_with
        (go_at_call 39; refine (rsa_bad _).mono ?_; rintro e w9 ⟨rfl, hB9⟩; have hv := HV.out.next hB9; have z0 : w9.cell? ⟨w.heap.size, 0, none⟩ = some (.slice none 0 0) := hv.e.cell 0; have z1 : w9.cell? ⟨w.heap.size + 1, 0, none⟩ = some (.slice none 0 0) := hv.n.cell 0; have y0 := hv.e.free 0; have y1 := hv.n.free 0; replace hv := Lib.hid hv; clear hB9)
      have hp := hv.out.put (.slice none 0 0) (.slice none 0 0)
      refine bodyPost_ret (results3 rfl ⟨_, rfl, nat_load hp.e⟩ ⟨_, rfl, nat_load hp.n⟩ rfl) rfl ⟨hp.below, ?_⟩
      rw [HNO.out]
      try rfl
    have e4 : (((r.getD sz 0).toNat : Int) == 0) = false := by rw [beq_eq_false_iff_ne]; omega
    by_cases a5 : 256 < sz
    · have e5 : decide ((256 : Int) < (sz : Int)) = true := decide_eq_true (by omega)
      have hb : rsaOk sz r = false := rsaOk_no (.inr (.inr (.inr (.inr (.inl a5)))))
      generalize r.getD 0 0 = x0 at g0 e3
      generalize r.getD sz 0 = x1 at g1 e4
      clear a3 a4 a5
      have hno : rsaOf p = none := by rw [HOF.out, hb]; rfl
      have HNO := Lib.hid hno
      clear hno HOF hb
      go_wp2_with
        (go_at_call 39; refine (rsa_bad _).mono ?_; rintro e w9 ⟨rfl, hB9⟩; have hv := HV.out.next hB9; have z0 : w9.cell? ⟨w.heap.size, 0, none⟩ = some (.slice none 0 0) := hv.e.cell 0; have z1 : w9.cell? ⟨w.heap.size + 1, 0, none⟩ = some (.slice none 0 0) := hv.n.cell 0; have y0 := hv.e.free 0; have y1 := hv.n.free 0; replace hv := Lib.hid hv; clear hB9)
      have hp := hv.out.put (.slice none 0 0) (.slice none 0 0)
      refine bodyPost_ret (results3 rfl ⟨_, rfl, nat_load hp.e⟩ ⟨_, rfl, nat_load hp.n⟩ rfl) rfl ⟨hp.below, ?_⟩
      rw [HNO.out]
      try rfl
    have e5 : decide ((256 : Int) < (sz : Int)) = false := decide_eq_false (by omega)
    by_cases a6 : 256 < r.length - sz
    · have e6 : decide ((256 : Int) < (r.length : Int) - (sz : Int)) = true := decide_eq_true (by omega)
      have hb : rsaOk sz r = false := rsaOk_no (.inr (.inr (.inr (.inr (.inr (.inl a6))))))
      generalize r.getD 0 0 = x0 at g0 e3
      generalize r.getD sz 0 = x1 at g1 e4
      clear a3 a4 a5 a6
      have hno : rsaOf p = none := by rw [HOF.out, hb]; rfl
      have HNO := Lib.hid hno
      clear hno HOF hb
      go_wp2_with
        (go_at_call 39; refine (rsa_bad _).mono ?_; rintro e w9 ⟨rfl, hB9⟩; have hv := HV.out.next hB9; have z0 : w9.cell? ⟨w.heap.size, 0, none⟩ = some (.slice none 0 0) := hv.e.cell 0; have z1 : w9.cell? ⟨w.heap.size + 1, 0, none⟩ = some (.slice none 0 0) := hv.n.cell 0; have y0 := hv.e.free 0; have y1 := hv.n.free 0; replace hv := Lib.hid hv; clear hB9)
      have hp := hv.out.put (.slice none 0 0) (.slice none 0 0)
      refine bodyPost_ret (results3 rfl ⟨_, rfl, nat_load hp.e⟩ ⟨_, rfl, nat_load hp.n⟩ rfl) rfl ⟨hp.below, ?_⟩
      rw [HNO.out]
      try rfl
    have e6 : decide ((256 : Int) < (r.length : Int) - (sz : Int)) = false := decide_eq_false (by omega)
    have ho1 := fun W => of_bytes (r.take sz) W (by rw [List.length_take]; omega)
    have ho2 := fun W => of_bytes (r.drop sz) W (by rw [List.length_drop]; omega)
    have hx1 : (bs r).extract 0 sz = bs (r.take sz) := bs_take r sz
    have hx2 : (bs r).extract sz r.length = bs (r.drop sz) := bs_drop r sz
    have hokk : rsaOk sz r = decide (496 ≤ bitsL (numDigs (r.drop sz))) := by
      simp only [rsaOk, decide_eq_true (show sz ≠ 0 by omega), decide_eq_true (show sz < r.length by omega), decide_eq_true a3, decide_eq_true a4, decide_eq_true (show sz ≤ 256 by omega), decide_eq_true (show r.length - sz ≤ 256 by omega), Bool.true_and]
    rw [hokk] at HOF
    have hnl := numDigs_len (r.drop sz)
    have hnl2 : (numDigs (r.drop sz)).length ≤ 1000000000000 := by rw [List.length_drop] at hnl; omega
    generalize hdn : numDigs (r.drop sz) = dn at ho2 hnl2 HOF
    generalize hde : numDigs (r.take sz) = de at ho1
    have HDN := Lib.hid hdn; have HDE := Lib.hid hde
    clear hdn hde
    generalize r.getD 0 0 = x0 at g0 e3
    generalize r.getD sz 0 = x1 at g1 e4
    generalize bs (r.take sz) = s1 at hx1 ho1
    generalize bs (r.drop sz) = s2 at hx2 ho2
    have HO1 := Lib.hid ho1; have HO2 := Lib.hid ho2
    have hwl : w.heap.size < W1.heap.size := HV.out.e.lt
    have hwl2 : w.heap.size + 1 < W1.heap.size := HV.out.n.lt
    clear a3 a4 a5 a6 ho1 ho2 hokk hnl
    go_wp2_with (go_at_call 25; refine (Hid.out (p := _) ?_))
    refine Lib.hid ?_
    refine (HO1.out _).mono ?_
    rintro e w2 ⟨v2, rfl, hN2, hB2⟩
    obtain ⟨A1, c1, rfl, k1, k2, k3⟩ := hN2
    have hV2 := HV.out.next hB2
    have z0 : w2.cell? ⟨w.heap.size, 0, none⟩ = some (.slice none 0 0) := hV2.e.cell 0
    have y0 := hV2.e.free 0
    have hVs := hV2.put1 (.slice A1 de.length c1)
    have hDs := k3.low (p := ⟨w.heap.size, 0, none⟩) hwl (.slice A1 de.length c1)
    replace hVs := Lib.hid hVs
    replace hDs := Lib.hid hDs
    have hsz2 := hB2.size
    clear hV2 k3 hB2
    simp only []
    go_wp2_with (go_at_call 25; refine (Hid.out (p := _) ?_))
    refine Lib.hid ?_
    refine (HO2.out _).mono ?_
    rintro e w3 ⟨v3, rfl, hN3, hB3⟩
    obtain ⟨A2, c2, rfl, l1, l2, l3⟩ := hN3
    have hV3 := hVs.out.next hB3
    have hD3 := hDs.out.below hB3
    have z1 : w3.cell? ⟨w.heap.size + 1, 0, none⟩ = some (.slice none 0 0) := hV3.n.cell 0
    have y1 := hV3.n.free 0
    have hlo2 : w.heap.size + 1 < (w2.setCell ⟨w.heap.size, 0, none⟩ (.slice A1 de.length c1)).heap.size := by simp; omega
    have hVt := hV3.put2 (.slice A2 dn.length c2)
    have hDt := l3.low (p := ⟨w.heap.size + 1, 0, none⟩) hlo2 (.slice A2 dn.length c2)
    have hDu := hD3.low (p := ⟨w.heap.size + 1, 0, none⟩) hwl2 (.slice A2 dn.length c2)
    have hsz3 := hB3.size
    clear hV3 hD3 l3 hB3 z0 y0 hVs hDs
    replace hVt := Lib.hid hVt
    replace hDt := Lib.hid hDt
    replace hDu := Lib.hid hDu
    simp only []
    go_wp2_with (go_at_call 40; refine (Hid.out (p := _) ?_))
    refine Lib.hid ?_
    refine (nat_bits _ dn _ _ ⟨A2, c2, rfl, l1, l2, hDt.out⟩ hnl2).mono ?_
    rintro e w4 ⟨rfl, hB4⟩
    have hV4 := hVt.out.next hB4
    have hDt4 := hDt.out.below hB4
    have hDu4 := hDu.out.below hB4
    replace hV4 := Lib.hid hV4
    replace hDt4 := Lib.hid hDt4
    replace hDu4 := Lib.hid hDu4
    clear hVt hDt hDu hB4 z1 y1
    simp only []
    generalize bitsL dn = bl at HOF ⊢
    by_cases a7 : bl < 496
    · have e7 : decide (bl < 496) = true := decide_eq_true a7
      have hno : rsaOf p = none := by rw [HOF.out, decide_eq_false (by omega)]; rfl
      have HNO := Lib.hid hno
      clear hno HOF a7
      go_wp2_with (go_at_call 39; refine (rsa_bad _).mono ?_; rintro e w9 ⟨rfl, hB9⟩; have hv := hV4.out.next hB9; have z0 : w9.cell? ⟨w.heap.size, 0, none⟩ = some (.slice A1 de.length c1) := hv.e.cell 0; have z1 : w9.cell? ⟨w.heap.size + 1, 0, none⟩ = some (.slice A2 dn.length c2) := hv.n.cell 0; have y0 := hv.e.free 0; have y1 := hv.n.free 0; replace hv := Lib.hid hv; clear hB9)
      have hp := hv.out.put (.slice none 0 0) (.slice none 0 0)
      refine bodyPost_ret (results3 rfl ⟨_, rfl, nat_load hp.e⟩ ⟨_, rfl, nat_load hp.n⟩ rfl) rfl ⟨hp.below, ?_⟩
      rw [HNO.out]
      try rfl
    have e7 : decide (bl < 496) = false := decide_eq_false a7
    have hyes : rsaOf p = some (r.take sz, r.drop sz) := by rw [HOF.out, decide_eq_true (by omega)]; rfl
    have HYES := Lib.hid hyes
    have q0 : w4.cell? ⟨w.heap.size, 0, none⟩ = some (.slice A1 de.length c1) := hV4.out.e.cell 0
    have q1 : w4.cell? ⟨w.heap.size + 1, 0, none⟩ = some (.slice A2 dn.length c2) := hV4.out.n.cell 0
    have qf0 := hV4.out.e.free 0
    have qf1 := hV4.out.n.free 0
    clear hyes HOF a7
    go_wp2_with fail
    refine wp_region_quiet (C := fun W => ∃ n, W = w4.drewN n) hmix (by kernel_rfl) ⟨1, rfl⟩ ?_
    refine BigFrame.wpQuiet_want rfl fun K hK => quiet_run (.agg #[.slice A1 de.length c1]) (fun W hW => ?run) (hK _ ?_)
    case run => obtain ⟨n, rfl⟩ := hW; simp [go_sem, Act.eval, q0]
    clear hK K
    refine BigFrame.wpQuiet_want rfl fun K hK => quiet_run (.agg #[.slice A2 dn.length c2]) (fun W hW => ?run) (hK _ ?_)
    case run => obtain ⟨n, rfl⟩ := hW; simp [go_sem, Act.put, Act.eval, q1]
    clear hK K
    refine BigFrame.wpQuiet_want rfl fun K hK => quiet_skip (fun W hW => ?run) (hK _ ?_)
    case run =>
      obtain ⟨n, rfl⟩ := hW
      simp [go_sem, Act.put, Act.eval, q0, qf0]
      exact setCell_self (w := w4.drewN n) hV4.out.e
    clear hK K
    refine BigFrame.wpQuiet_want rfl fun K hK => quiet_skip (fun W hW => ?run) (hK _ ?_)
    case run =>
      obtain ⟨n, rfl⟩ := hW
      simp [go_sem, Act.put, Act.eval, q1, qf1]
      exact setCell_self (w := w4.drewN n) hV4.out.n
    clear hK K
    refine BigFrame.wpQuiet_want rfl fun K hK => BigFrame.quiet_assign _ rfl (hK _ ?_)
    clear hK K
    refine wpQuiet_nil ?_
    rintro W ⟨nq, rfl⟩
    have hp := hV4.out.drewN nq
    have hD1 : DigsAt w.heap.size (w4.drewN nq) A1 de := hDu4.out.mono (by omega)
    have hD2 : DigsAt w.heap.size (w4.drewN nq) A2 dn := hDt4.out.mono (by simp; omega)
    have HP := Lib.hid hp; have HD1 := Lib.hid hD1; have HD2 := Lib.hid hD2
    clear hp hD1 hD2
    go_wp2_with fail
    simp only [Act.put]
    refine bodyPost_ret (results3 rfl ⟨_, by simp [Act.eval], nat_load HP.out.e⟩ ⟨_, by simp [Act.eval], nat_load HP.out.n⟩ (v := .agg #[.slice A1 de.length c1]) (u := .agg #[.slice A2 dn.length c2]) (x := .int .i64 0) (by simp [RvOk, Act.eval])) rfl ⟨HP.out.below, ?_⟩
    rw [HYES.out]
    exact ⟨_, _, rfl, by rw [HDE.out]; exact ⟨A1, c1, rfl, k1, k2, HD1.out⟩, by rw [HDN.out]; exact ⟨A2, c2, rfl, l1, l2, HD2.out⟩⟩

theorem rsa_any (p : ByteArray) (w : World) (hm : p.size ≤ 9223372036854775807) : Calls Tryz.prog 18 #[.string p] w (RsaPost p.data.toList w) := by
  have hb : bs p.data.toList = p := bs_toList p
  have hl : p.data.toList.length = p.size := by simp
  generalize p.data.toList = l at hb hl ⊢
  subst hb
  by_cases h : 0 < l.length
  · by_cases h0 : (l.getD 0 0).toNat = 0
    · exact rsa_two l w h (by omega) h0
    · exact rsa_one l w h (by omega) h0
  · obtain rfl : l = [] := List.eq_nil_of_length_eq_zero (by omega)
    exact rsa_empty w
end Go.Proofs.YtdmfbcfhfopipaaGreatDoor

/- The document's own numbers (its chapter 5): trim. -/
namespace Go.Proofs.YtdmfbcfhfopipaaGreatDoor
open Go.RowKit

set_option maxRecDepth 100000 in
set_option maxHeartbeats 1000000 in
theorem ref_trim (A : Option Addr) (c : Nat) (l : List W32) (w : World) (hc : l.length ≤ c) (hl : l.length ≤ 1000000) (lo : Nat) (hA : DigsAt lo w A l) :
    Calls Tryz.prog 77 #[.slice A l.length c] w fun e w' => e = .returned (.slice A (trimN l l.length) c) ∧ w = w' := by
  have HA := Lib.hid hA
  clear hA
  generalize hfin : trimN l l.length = fin
  have HFIN := Lib.hid hfin
  clear hfin
  go_enter Tryz.func77, Tryz.ntmps77
  go_wp2
  go_loop [3] (fun v => ∃ k : Nat, k ≤ l.length ∧ v = .int .i64 k ∧ Hid (trimN l k = fin)) (fun v => (intOf v).toNat)
  case atStart => exact ⟨l.length, Nat.le_refl _, rfl, HFIN⟩
  case round =>
    obtain ⟨k, hk, rfl, hf⟩ := hrel
    by_cases h0 : k = 0
    · subst h0
      have hf0 : fin = 0 := hf.out.symm
      subst hf0
      go_wp2
      go_ret
      exact ⟨rfl, rfl⟩
    · obtain ⟨j, rfl⟩ : ∃ j, k = j + 1 := ⟨k - 1, by omega⟩
      obtain ⟨b, rfl, _, hlt, hcell⟩ : ∃ b, A = some ⟨b, 0, none⟩ ∧ lo ≤ b ∧ b < w.heap.size ∧ ∀ i, i < l.length → w.cell? ⟨b, i, none⟩ = some (.int .u32 (wd (l.getD i 0))) := by
        rcases HA.out with h | h
        · subst h; simp at hk
        · exact h
      have hcj := hcell j (by omega)
      have hstep : trimN l (j + 1) = if l.getD j 0 = 0 then trimN l j else j + 1 := rfl
      rw [hf.out] at hstep
      have hgt : decide ((0 : Int) < (j : Int) + 1) = true := decide_eq_true (by omega)
      have hs1 : (j : Int) + 1 - 1 = (j : Int) := by omega
      have hjl : (j : Int) < (l.length : Int) := by omega
      have hj1 : (j : Int) + 1 ≤ (c : Int) := by omega
      have hjt : ((j : Int) + 1).toNat = j + 1 := by omega
      generalize l.getD j 0 = x at hcj hstep
      clear hcell
      by_cases hx : x = 0
      · have hx0 : (wd x == 0) = true := by rw [hx]; rfl
        rw [if_pos hx] at hstep
        have HS := Lib.hid hstep.symm
        clear hx hstep
        go_wp2_with fail
        go_round
        case rel => exact ⟨j, by omega, rfl, HS⟩
        case measure => simp [intOf]
      · have hx0 : (wd x == 0) = false := by
          rw [beq_eq_false_iff_ne]
          intro h
          exact hx (wd_inj h)
        rw [if_neg hx] at hstep
        subst hstep
        clear hx
        go_wp2_with fail
        go_ret
        exact ⟨rfl, rfl⟩
theorem bitLenAux_more : ∀ (f x : Nat), x < 2 ^ f → Lib.bitLenAux (f + 1) x = Lib.bitLenAux f x := by
  intro f
  induction f with
  | zero => intro x h; obtain rfl : x = 0 := by simpa using h
            simp [Lib.bitLenAux]
  | succ f ih =>
    intro x h
    rw [Lib.bitLenAux]
    conv => rhs; rw [Lib.bitLenAux]
    split
    · rfl
    · rw [ih (x / 2) (by rw [Nat.pow_succ] at h; omega)]
theorem bitLen_half (x : Nat) (h0 : x ≠ 0) (h : x < 4294967296) : Lib.bitLen x = Lib.bitLen (x / 2) + 1 := by
  have h1 : Lib.bitLenAux 64 x = Lib.bitLenAux 63 (x / 2) + 1 := by rw [Lib.bitLenAux, if_neg h0, Nat.add_comm]
  have h2 := bitLenAux_more 63 (x / 2) (by omega)
  show Lib.bitLenAux 64 x = Lib.bitLenAux 64 (x / 2) + 1
  rw [h1, h2]
set_option maxRecDepth 100000 in
set_option maxHeartbeats 1000000 in
theorem ref_bits (A : Option Addr) (c : Nat) (l : List W32) (w : World) (hc : l.length ≤ c) (hl : l.length ≤ 1000000) (lo : Nat) (hA : DigsAt lo w A l) :
    Calls Tryz.prog 21 #[.slice A l.length c] w fun e w' => e = .returned (.int .i64 (bitsL l)) ∧ w = w' := by
  by_cases h0 : l.length = 0
  · have : l = [] := List.eq_nil_of_length_eq_zero h0
    subst this
    clear hA h0
    go_enter Tryz.func21, Tryz.ntmps21
    go_wp2
    go_ret
    exact ⟨rfl, rfl⟩
  · obtain ⟨b, rfl, _, hlt, hcell⟩ : ∃ b, A = some ⟨b, 0, none⟩ ∧ lo ≤ b ∧ b < w.heap.size ∧ ∀ i, i < l.length → w.cell? ⟨b, i, none⟩ = some (.int .u32 (wd (l.getD i 0))) := by
      rcases hA with h | h
      · subst h; simp at h0
      · exact h
    have hbl : bitsL l = 32 * ((l.length : Int) - 1) + (Lib.bitLen (l.getD (l.length - 1) 0).toNat : Int) := by
      rw [bitsL, if_neg]
      · omega
      · intro h; subst h; simp at h0
    rw [hbl]
    obtain ⟨n, hn⟩ : ∃ n, l.length = n + 1 := ⟨l.length - 1, by omega⟩
    have hcn := hcell n (by omega)
    rw [hn] at hc hl ⊢
    rw [show n + 1 - 1 = n from rfl]
    generalize l.getD n 0 = x at hcn ⊢
    have hxl : x.toNat < 4294967296 := x.isLt
    have hxw : wd x = (x.toNat : Int) := rfl
    rw [hxw] at hcn
    generalize x.toNat = D at hcn hxl ⊢
    have hb32 := bitLen_le D 32 hxl
    have hne : (((n : Int) + 1) == 0) = false := by rw [beq_eq_false_iff_ne]; omega
    have hs1 : (n : Int) + 1 - 1 = (n : Int) := by omega
    have hni : (n : Int) < (n : Int) + 1 := by omega
    rw [show (((n + 1 : Nat) : Int) - 1) = (n : Int) by omega]
    generalize hB : Lib.bitLen D = BL at hb32 ⊢
    have HB := Lib.hid hB
    clear hB hcell hbl h0 hn hA
    go_enter Tryz.func21, Tryz.ntmps21
    go_wp2
    go_loop [3, 4] (fun m d => ∃ (k E : Nat), m = .int .i64 (32 * (n : Int) + (k : Int)) ∧ d = .int .u32 (E : Int) ∧ E < 4294967296 ∧ k ≤ 32 ∧ Hid (k + Lib.bitLen E = BL)) (fun _ d => (intOf d).toNat)
    case atStart => exact ⟨0, D, by simp, rfl, hxl, by omega, Lib.hid (by have := HB.out; omega)⟩
    case round =>
      obtain ⟨k, E, rfl, rfl, hE, hk, hs⟩ := hrel
      by_cases h0 : E = 0
      · subst h0
        have hs0 : k = BL := by have := hs.out; simpa [Lib.bitLen, Lib.bitLenAux] using this
        subst hs0
        go_wp2
        go_ret
        exact ⟨rfl, rfl⟩
      · have hgt : decide ((0 : Int) < (E : Int)) = true := decide_eq_true (by omega)
        have hh := bitLen_half E h0 hE
        have hs2 := hs.out
        have hk2 : k + 1 ≤ 32 := by omega
        have HS : Hid ((k + 1) + Lib.bitLen (E / 2) = BL) := Lib.hid (by omega)
        clear hh hs2 hs
        go_wp2
        go_round
        case rel => exact ⟨k + 1, E / 2, by first | rfl | (congr 1; omega), by first | rfl | (congr 1), by omega, by omega, HS⟩
        case measure => simp [intOf]; omega
end Go.Proofs.YtdmfbcfhfopipaaGreatDoor

