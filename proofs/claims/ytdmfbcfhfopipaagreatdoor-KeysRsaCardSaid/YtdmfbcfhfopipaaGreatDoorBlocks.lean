/- digest.blocks: what a text is made up to, block by block, whatever is called with each. -/
import Derived.Test.YtdmfbcfhfopipaaGreatDoorTell
import Derived.Test.YtdmfbcfhfopipaaGreatDoorDraw
import Derived.Test.YtdmfbcfhfopipaaGreatDoorSrc
import Derived.Test.YtdmfbcfhfopipaaGreatDoorLaws
import Derived.Test.YtdmfbcfhfopipaaGreatDoorRep
namespace Go.Proofs.YtdmfbcfhfopipaaGreatDoor
open Go.RowKit

/-- A text of these bytes. -/
def bs (l : List UInt8) : ByteArray := ⟨l.toArray⟩
theorem bs_toList (s : ByteArray) : bs s.data.toList = s := by cases s; simp [bs]
theorem bs_size (l : List UInt8) : (bs l).size = l.length := by simp [bs, ByteArray.size]
theorem bs_append (l m : List UInt8) : bs l ++ bs m = bs (l ++ m) := by
  apply ByteArray.ext
  simp [bs, ByteArray.data_append]
theorem byt_bs (l : List UInt8) (k : Nat) : byt (bs l) k = l.getD k 0 := by simp [byt, bs]

/-- The length, in eight bytes, the first m of them. -/
def lenB (N m : Nat) : List UInt8 := (List.range m).map fun i => UInt8.ofNat (N / 2 ^ (56 - 8 * i))
def padT (n : Nat) : List UInt8 := 128 :: List.replicate ((119 - n % 64) % 64) 0
def padL (l : List UInt8) : List UInt8 := l ++ (padT l.length ++ lenB (8 * l.length % 18446744073709551616) 8)
def word4 (a b c d : UInt8) : W32 := (((BitVec.ofNat 32 a.toNat <<< (24 : Nat)) ||| (BitVec.ofNat 32 b.toNat <<< (16 : Nat))) ||| (BitVec.ofNat 32 c.toNat <<< (8 : Nat))) ||| BitVec.ofNat 32 d.toNat
def wordsN (l : List UInt8) (k : Nat) : List W32 := (List.range k).map fun i => word4 (l.getD (4 * i) 0) (l.getD (4 * i + 1) 0) (l.getD (4 * i + 2) 0) (l.getD (4 * i + 3) 0)
/-- Block by block. -/
def foldB {α : Type} (f : α → List W32 → α) : Nat → α → List UInt8 → α
  | 0, st, _ => st
  | n + 1, st, l => foldB f n (f st (wordsN l 16)) (l.drop 64)

theorem padL_len (l : List UInt8) : (padL l).length % 64 = 0 := by
  simp only [padL, padT, lenB, List.length_append, List.length_cons, List.length_replicate, List.length_map, List.length_range]
  omega

theorem lenB_succ (N m : Nat) : lenB N (m + 1) = lenB N m ++ [UInt8.ofNat (N / 2 ^ (56 - 8 * m))] := by simp [lenB, List.range_succ]

theorem repeatL_one (x : UInt8) (c : Nat) : Lib.repeatL [x] c = List.replicate c x := by
  induction c with
  | zero => rfl
  | succ c ih => simp [Lib.repeatL, ih, List.replicate_succ] at *
theorem repeat_byte (x : UInt8) (c : Nat) (w : World) (hc : c ≤ 4294967296) : Calls Tryz.prog 49 #[.string ⟨#[x]⟩, .int .i64 (c : Int)] w fun e w' => e = .returned (.string (bs (List.replicate c x))) ∧ Below w.heap.size w w' := by
  refine (Tryz.strings_Repeat ⟨#[x]⟩ c w (by omega) (by show 1 * c ≤ _; omega)).mono ?_
  rintro e w' ⟨rfl, h⟩
  refine ⟨?_, h⟩
  rw [show (⟨#[x]⟩ : ByteArray).data.toList = [x] from rfl, repeatL_one]
  rfl

theorem conv_byte (W : World) (b : UInt8) : (convert 41 9 (.slice (some ⟨W.heap.size, 0, none⟩) 1 1)).run Tryz.prog (W.alloc (.cells #[.int .u8 (b.toNat : Int)] 5)) = .ok (.string (bs [b])) (W.alloc (.cells #[.int .u8 (b.toNat : Int)] 5)) :=
  conv_bytes_string _ W.heap.size 1 1 (bs [b]) (by
    have := Blk.new W #[.int .u8 (b.toNat : Int)] 5
    simpa [encS, bs] using this) rfl

theorem run_loadCells_blk {P : Program} {w : World} {b : Nat} {cs : Array Value} {t : TypeId} (h : Blk w b cs t) (n : Nat) (hn : cs.size = n) : (loadCellsFrom ⟨b, 0, none⟩ 0 n #[]).run P w = .ok cs w := by
  subst hn
  have := run_loadCells_list (P := P) w ⟨b, 0, none⟩ cs.toList (fun j v hv => by
    have hadd : (⟨b, 0, none⟩ : Addr).add j = ⟨b, j, none⟩ := by unfold Addr.add; split <;> simp_all
    rw [hadd, h.cell]
    simpa using hv)
  simpa [loadCells] using this

theorem bs_get (l : List UInt8) (k : Nat) (h : k < (bs l).size) : (bs l)[k]'h = l.getD k 0 := by
  rw [← byt_bs]
  exact byt_get _ _ h
theorem bs_drop (l : List UInt8) (k : Nat) : (bs l).extract k l.length = bs (l.drop k) := by
  apply ByteArray.ext
  simp only [bs, ByteArray.data_extract, List.extract_toArray, List.extract_eq_take_drop]
  rw [List.take_of_length_le (by simp)]
theorem bs_ne {l : List UInt8} (h : l ≠ []) : ¬ bs l = ⟨#[]⟩ := by
  intro e
  have := congrArg ByteArray.size e
  rw [bs_size] at this
  exact h (List.eq_nil_of_length_eq_zero (by simpa [ByteArray.size] using this))

/-- The first i words of a text, and noughts. -/
def part4 (l : List UInt8) (i : Nat) : List W32 := wordsN l i ++ List.replicate (16 - i) 0
theorem part4_len (l : List UInt8) (i : Nat) (h : i ≤ 16) : (part4 l i).length = 16 := by simp [part4, wordsN]; omega
theorem part4_step (l : List UInt8) (i : Nat) (h : i < 16) : part4 l (i + 1) = (part4 l i).set i (word4 (l.getD (4 * i) 0) (l.getD (4 * i + 1) 0) (l.getD (4 * i + 2) 0) (l.getD (4 * i + 3) 0)) := by
  have e1 : (wordsN l i).length = i := by simp [wordsN]
  rw [part4, part4, show 16 - i = (16 - (i + 1)) + 1 by omega, List.replicate_succ, List.set_append, if_neg (by omega), e1, Nat.sub_self, List.set_cons_zero]
  simp [wordsN, List.range_succ]
theorem part4_all (l : List UInt8) : part4 l 16 = wordsN l 16 := by simp [part4]

theorem or_byte (X : W32) (d : UInt8) : bits .or .u32 (wd X) (d.toNat : Int) = wd (X ||| BitVec.ofNat 32 d.toNat) := by
  rw [← wd_or, wd_lit _ (by have := d.toNat_lt; omega)]
theorem shl_byte (a : UInt8) (n : Nat) : (a.toNat : Int) * 2 ^ n % 4294967296 = wd (BitVec.ofNat 32 a.toNat <<< n) := by
  rw [← wd_shl, wd_lit _ (by have := a.toNat_lt; omega)]

def strLen : Value → Nat
  | .string s => s.size
  | _ => 0
theorem word4_val (a b c d : UInt8) : bits .or .u32 (bits .or .u32 (bits .or .u32 ((a.toNat : Int) % 4294967296 * 16777216 % 4294967296) ((b.toNat : Int) % 4294967296 * 65536 % 4294967296)) ((c.toNat : Int) % 4294967296 * 256 % 4294967296)) ((d.toNat : Int) % 4294967296) = wd (word4 a b c d) := by
  have m (x : UInt8) : (x.toNat : Int) % 4294967296 = (x.toNat : Int) := by have := x.toNat_lt; omega
  have s24 := shl_byte a 24; have s16 := shl_byte b 16; have s8 := shl_byte c 8
  rw [show ((2 : Int) ^ 24) = 16777216 from rfl] at s24
  rw [show ((2 : Int) ^ 16) = 65536 from rfl] at s16
  rw [show ((2 : Int) ^ 8) = 256 from rfl] at s8
  rw [m, m, m, m, s24, s16, s8, wd_or, wd_or, or_byte]
  rfl
theorem foldB_succ {α : Type} (f : α → List W32 → α) (n : Nat) (st : α) (l : List UInt8) : foldB f (n + 1) st l = foldB f n (f st (wordsN l 16)) (l.drop 64) := rfl

set_option maxRecDepth 100000 in
set_option maxHeartbeats 1000000 in
theorem blocks_any {α : Type} (f : α → List W32 → α) (I : α → World → Prop) (g : Nat) (cap : Array Value) (B : Nat) (s : ByteArray) (w : World) (st0 : α) (hs : s.size ≤ 9223372036854775000)
    (hst : ∀ st W W', I st W → Below B W W' → I st W') (hB : B ≤ w.heap.size) (hg : ∀ (args : Array Value) (W : World), (callFunc g args).run Tryz.prog W = .ok (.enter g args) W)
    (hf : ∀ st bl W, I st W → bl.length = 16 → Calls Tryz.prog g (#[.agg (encW bl)] ++ cap) W fun e W' => e = .returned (.tuple #[]) ∧ I (f st bl) W' ∧ B ≤ W'.heap.size) (h0 : I st0 w) :
    Calls Tryz.prog 81 #[.string s, .func (.func g) #[] cap] w fun e W' => e = .returned (.tuple #[]) ∧ I (foldB f ((padL s.data.toList).length / 64) st0 (padL s.data.toList)) W' := by
  obtain ⟨l, rfl⟩ : ∃ l, s = bs l := ⟨_, (bs_toList s).symm⟩
  have hl : (bs l).data.toList = l := by simp [bs]
  rw [hl]
  rw [bs_size] at hs
  have hsz := bs_size l
  have HG := Lib.hid hg; have HF := Lib.hid hf; have HST := Lib.hid hst; have H0 := Lib.hid h0
  clear hf hst h0 hl hg
  obtain ⟨r0, q1, hr0⟩ : ∃ r0 : Nat, (119 - (l.length : Int)) % 64 = (r0 : Int) ∧ r0 = (119 - l.length % 64) % 64 := ⟨(119 - l.length % 64) % 64, by omega, rfl⟩
  have hc : (⟨#[128]⟩ : ByteArray) ++ bs (List.replicate r0 0) = bs (padT l.length) := by
    rw [padT, ← hr0, show (⟨#[128]⟩ : ByteArray) = bs [128] from rfl, bs_append]; rfl
  have q1' : ((119 - l.length % 64 : Nat) : Int) % 64 = (r0 : Int) := by omega
  have hr64 : r0 < 64 := by omega
  have hsr := bs_size (List.replicate r0 0)
  rw [List.length_replicate] at hsr
  have HR0 := Lib.hid hr0
  clear hr0
  go_enter Tryz.func81, Tryz.ntmps81
  go_wp2_with (go_at_call 49; refine (repeat_byte _ _ _ (by omega)).mono ?_; rintro e w1 ⟨rfl, hB1⟩)
  have hN : ∃ N : Nat, IntKind.u64.wrap ((l.length : Int) * 8) = (N : Int) ∧ N = 8 * l.length % 18446744073709551616 ∧ N < 18446744073709551616 := ⟨8 * l.length % 18446744073709551616, by rw [IntKind.wrap_u64]; omega, rfl, by omega⟩
  obtain ⟨N, q2, hNe, hNl⟩ := hN
  have HNE := Lib.hid hNe
  clear hNe
  have hcv := conv_byte
  have HC := Lib.hid hc
  clear hc
  have hBs : Hid (Below w.heap.size w w1 ∧ w.heap.size ≤ w1.heap.size) := Lib.hid ⟨hB1, hB1.size⟩
  clear hB1
  rw [q2]
  go_loopw [5, 6] (fun x z wr => ∃ m : Nat, m ≤ 8 ∧ (∃ zi : Int, zi = 56 - 8 * (m : Int) ∧ z = .int .i64 zi) ∧ x = .string (bs (padT l.length ++ lenB N m)) ∧ Hid (Below w.heap.size w wr ∧ w.heap.size ≤ wr.heap.size)) (fun _ z _ => (intOf z + 8).toNat)
  case atStart => exact ⟨0, Nat.zero_le _, ⟨56, by omega, rfl⟩, by simp [lenB], hBs⟩
  case round =>
    obtain ⟨m, hm, ⟨zi, hz, rfl⟩, rfl, hBw⟩ := hrel
    by_cases hlt : m < 8
    · obtain ⟨sh, rfl⟩ : ∃ sh : Nat, zi = (sh : Int) := ⟨56 - 8 * m, by omega⟩
      have hsh : 56 - 8 * m = sh := by omega
      have hd : decide ((0 : Int) ≤ (sh : Int)) = true := decide_eq_true (by omega)
      have hbyte : (N : Int) / 2 ^ sh % 256 = ((UInt8.ofNat (N / 2 ^ sh)).toNat : Int) := by
        have e : (N : Int) / 2 ^ sh = ((N / 2 ^ sh : Nat) : Int) := by push_cast; rfl
        rw [e]; simp
      have hlen : lenB N (m + 1) = lenB N m ++ [UInt8.ofNat (N / 2 ^ sh)] := by rw [lenB_succ, hsh]
      generalize UInt8.ofNat (N / 2 ^ sh) = bt at hbyte hlen
      have happ : bs (padT l.length ++ lenB N m) ++ bs [bt] = bs (padT l.length ++ lenB N (m + 1)) := by rw [bs_append, hlen, List.append_assoc]
      have hz1 : (bs (padT l.length ++ lenB N m)).size = 1 + r0 + m := by rw [bs_size, List.length_append]; simp [padT, lenB, HR0.out]; omega
      have hz2 : (bs [bt]).size = 1 := bs_size _
      have hmin : min sh 64 = sh := by omega
      have HL := Lib.hid hlen; have HZ := Lib.hid hz; have HSH := Lib.hid hsh
      clear hlen hz hsh
      go_wp2_with fail
      go_roundw
      case rel => exact ⟨m + 1, by omega, ⟨(sh : Int) - 8, by have := HZ.out; omega, by go_num⟩, rfl, Lib.hid ⟨hBw.out.1.alloc hBw.out.2 _, by simp; have := hBw.out.2; omega⟩⟩
      case measure => simp [intOf]; have := HZ.out; omega
    · obtain rfl : m = 8 := by omega
      obtain rfl : zi = -8 := by omega
      have hpad : bs l ++ bs (padT l.length ++ lenB N 8) = bs (padL l) := by rw [bs_append, padL, HNE.out]
      have hz1 : (bs (padT l.length ++ lenB N 8)).size = 1 + r0 + 8 := by rw [bs_size, List.length_append]; simp [padT, lenB, HR0.out]; omega
      have hlen : (padL l).length = l.length + 1 + r0 + 8 := by rw [padL]; simp [padT, lenB, HR0.out]; omega
      have hmod := padL_len l
      have hI : I st0 wr := HST.out st0 w wr H0.out (hBw.out.1.mono hB)
      have hBr : B ≤ wr.heap.size := Nat.le_trans hB hBw.out.2
      have HI := Lib.hid hI; have HP := Lib.hid hmod
      clear hz hcv hI hmod hlt hm H0
      go_wp2_with fail
      generalize hfin : foldB f ((padL l).length / 64) st0 (padL l) = fin
      go_loopw [0] (fun x wr => ∃ (rest : List UInt8) (n : Nat) (st : α), x = .string (bs rest) ∧ rest.length = 64 * n ∧ rest.length ≤ 9223372036854775807 ∧ Hid (I st wr) ∧ Hid (foldB f n st rest = fin) ∧ B ≤ wr.heap.size) (fun x _ => strLen x)
      case atStart => exact ⟨padL l, (padL l).length / 64, st0, rfl, by have := HP.out; omega, by omega, HI, Lib.hid hfin, hBr⟩
      case round =>
        obtain ⟨rest, n, st, rfl, hrn, hrs, hst, hfo, hBr⟩ := hrel
        rename World => Wo
        have hsz := bs_size rest
        by_cases hn : n = 0
        · have he : rest = [] := List.eq_nil_of_length_eq_zero (by omega)
          subst he hn
          have hem : (bs ([] : List UInt8)).toList.isEmpty = true := by rw [ByteArray.toList_eq]; rfl
          go_wp2_with fail
          go_end0
          refine ⟨rfl, ?_⟩
          rw [hfin, ← hfo.out]
          exact hst.out
        · have hem : (bs rest).toList.isEmpty = false := toList_isEmpty (by omega)
          obtain ⟨n, rfl⟩ : ∃ m, n = m + 1 := ⟨n - 1, by omega⟩
          go_wp2_with fail
          have hz : (#[Value.int .u32 0, .int .u32 0, .int .u32 0, .int .u32 0, .int .u32 0, .int .u32 0, .int .u32 0, .int .u32 0, .int .u32 0, .int .u32 0, .int .u32 0, .int .u32 0, .int .u32 0, .int .u32 0, .int .u32 0, .int .u32 0] : Array Value) = encW (part4 rest 0) := rfl
          rw [hz]
          have hb0 : Blk (Wo.alloc (.cells (encW (part4 rest 0)) 129)) Wo.heap.size (encW (part4 rest 0)) 129 := Blk.new _ _ _
          have hB0 : Below Wo.heap.size Wo (Wo.alloc (.cells (encW (part4 rest 0)) 129)) := (Below.refl _ _).alloc (Nat.le_refl _) _
          generalize Wo.alloc (.cells (encW (part4 rest 0)) 129) = W0 at hb0 hB0 ⊢
          have HB0 := Lib.hid hb0; have HBB := Lib.hid hB0
          clear hb0 hB0 hz
          go_loopw [39] (fun i wr => ∃ j : Nat, j ≤ 16 ∧ i = .int .i64 j ∧ Hid (Blk wr Wo.heap.size (encW (part4 rest j)) 129) ∧ Hid (Below Wo.heap.size Wo wr)) (fun i _ => 16 - (intOf i).toNat)
          case atStart => exact ⟨0, Nat.zero_le _, rfl, HB0, HBB⟩
          case round =>
            obtain ⟨j, hj, rfl, hP, hBl⟩ := hrel
            by_cases hlt : j < 16
            · have hd1 : decide ((j : Int) < 16) = true := decide_eq_true (by omega)
              have hj16 : (j : Int) < 16 := by omega
              have hst4 := part4_step rest j hlt
              have g0 : ∀ h, (bs rest)[4 * j]'h = rest.getD (4 * j) 0 := fun h => bs_get _ _ h
              have g1 : ∀ h, (bs rest)[4 * j + 1]'h = rest.getD (4 * j + 1) 0 := fun h => bs_get _ _ h
              have g2 : ∀ h, (bs rest)[4 * j + 2]'h = rest.getD (4 * j + 2) 0 := fun h => bs_get _ _ h
              have g3 : ∀ h, (bs rest)[4 * j + 3]'h = rest.getD (4 * j + 3) 0 := fun h => bs_get _ _ h
              generalize rest.getD (4 * j) 0 = x0 at g0 hst4
              generalize rest.getD (4 * j + 1) 0 = x1 at g1 hst4
              generalize rest.getD (4 * j + 2) 0 = x2 at g2 hst4
              generalize rest.getD (4 * j + 3) 0 = x3 at g3 hst4
              have HST4 := Lib.hid hst4
              clear hst4
              have t0 : (4 * (j : Int)).toNat = 4 * j := by omega
              have t1 : (4 * (j : Int) + 1).toNat = 4 * j + 1 := by omega
              have t2 : (4 * (j : Int) + 2).toNat = 4 * j + 2 := by omega
              have t3 : (4 * (j : Int) + 3).toNat = 4 * j + 3 := by omega
              have p0 : (4 * (j : Int)) < (rest.length : Int) := by omega
              have p1 : (4 * (j : Int) + 1) < (rest.length : Int) := by omega
              have p2 : (4 * (j : Int) + 2) < (rest.length : Int) := by omega
              have p3 : (4 * (j : Int) + 3) < (rest.length : Int) := by omega
              have z0 : (0 : Int) ≤ 4 * (j : Int) := by omega
              have z1 : (0 : Int) ≤ 4 * (j : Int) + 1 := by omega
              have z2 : (0 : Int) ≤ 4 * (j : Int) + 2 := by omega
              have z3 : (0 : Int) ≤ 4 * (j : Int) + 3 := by omega
              have hval := word4_val x0 x1 x2 x3
              generalize word4 x0 x1 x2 x3 = y at hval HST4
              have HVAL := Lib.hid hval
              clear hval
              have cc := hP.out.cell j
              rw [encW_get _ _ (by rw [part4_len _ _ hj]; exact hlt)] at cc
              have fc := hP.out.free j
              have hmix : Tryz.prog.follows .mixedOrders = true := by kernel_rfl
              go_wp2_with fail
              refine wp_draw 30 (C := fun w' => ∃ n, w' = wr.drewN n) hmix (by kernel_rfl) (by kernel_rfl) (by kernel_rfl) (by simp) ⟨1, rfl⟩ ?_
              simp only [List.take_succ_cons, List.take_zero, List.drop_succ_cons, List.drop_zero]
              repeat (go_big_quiet_step (fail))
              refine wpQuiet_nil ?_
              intro _ hw'
              obtain ⟨nq, hw''⟩ := hw'
              subst hw''
              go_wp2_with fail
              rw [HVAL.out]
              go_roundw
              case rel =>
                refine ⟨j + 1, by omega, by go_num, Lib.hid ?_, Lib.hid ?_⟩
                · rw [HST4.out, ← encW_set]
                  exact Blk.set (w := wr.drewN nq) hP.out _ _
                · exact Below.setCell (w := wr.drewN nq) ⟨hBl.out.os, hBl.out.tape, hBl.out.output, hBl.out.size, hBl.out.block⟩ (by exact Nat.le_refl _) _
              case measure => simp [intOf]; omega
            · obtain rfl : j = 16 := by omega
              have hlw : (wordsN rest 16).length = 16 := by simp [wordsN]
              have hPb := hP.out
              rw [part4_all] at hPb
              have hld := loadVar_blk (P := Tryz.prog) (ty := 129) hPb Tryz.underlying129 rfl (by rw [encW_size, hlw]; kernel_rfl)
              have HLD := Lib.hid hld
              clear hld
              have hI : I st wr := HST.out st Wo wr hst.out (hBl.out.mono hBr)
              have hcall := HF.out st (wordsN rest 16) wr hI hlw
              have HCALL := Lib.hid hcall
              have hdr := bs_drop rest 64
              have hfs := foldB_succ f n st rest
              have HFS := Lib.hid hfs
              have hrl : rest.length ≥ 64 := by omega
              clear hcall hI hPb hfs
              go_wp2_with (refine wpList_load rfl 129 _ rfl ⟨Wo.heap.size, 0, none⟩ (.agg (encW (wordsN rest 16))) rfl HLD.out ?_)
              rw [HG.out, Oper.upon_enter]
              refine HCALL.out.mono ?_
              rintro e W3 ⟨rfl, hI3, hB3⟩
              have HI3 := Lib.hid hI3
              clear hI3 hdr
              simp only []
              go_wp2_with fail
              have hdr2 : (bs rest).extract 64 (64 * (n + 1)) = bs (rest.drop 64) := by rw [← hrn]; exact bs_drop rest 64
              go_roundw
              case rel => exact ⟨rest.drop 64, n, f st (wordsN rest 16), by rw [hdr2], by rw [List.length_drop]; omega, by rw [List.length_drop]; omega, HI3, Lib.hid (HFS.out.symm.trans hfo.out), hB3⟩
              case measure =>
                rw [hdr2]
                simp only [strLen, bs_size, List.length_drop]
                omega
end Go.Proofs.YtdmfbcfhfopipaaGreatDoor
