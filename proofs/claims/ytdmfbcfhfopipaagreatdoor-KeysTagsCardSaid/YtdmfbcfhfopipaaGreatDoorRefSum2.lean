/- The document's own SHA-256 (its chapter 4): it is the program's. -/
import Derived.Test.YtdmfbcfhfopipaaGreatDoorShaLaw
import Derived.Test.YtdmfbcfhfopipaaGreatDoorRefPad
import Derived.Test.YtdmfbcfhfopipaaGreatDoorNum
import Derived.Laws.CopyRow
namespace Go.Proofs.YtdmfbcfhfopipaaGreatDoor
open Go.RowKit

theorem ref_ror_at (x : W32) (k : Int) (h0 : 0 ≤ k) (h : k < 32) (w : World) : Calls Tryz.prog 71 #[.int .u32 (wd x), .int .i64 k] w fun e w' => e = .returned (.int .u32 (wd (rorW x k.toNat))) ∧ ∃ m, w' = w.drewN m := by
  have := ref_ror x k.toNat (by omega) w
  rw [Int.toNat_of_nonneg h0] at this
  exact this
theorem ref_left_at (x : W32) (k : Int) (h0 : 0 ≤ k) (h : k < 32) (w : World) : Calls Tryz.prog 67 #[.int .u32 (wd x), .int .i64 k] w fun e w' => e = .returned (.int .u32 (wd (rotW x k.toNat))) ∧ ∃ m, w' = w.drewN m := by
  have := ref_left x k.toNat (by omega) w
  rw [Int.toNat_of_nonneg h0] at this
  exact this

/-- The rows of a digest: what is so far, the words of the rounds. -/
structure R2 (w : World) (hb kb : Nat) (st : List W32) (W : World) : Prop where
  len : st.length = 8
  h : Blk W hb (encW st) 64
  k : Blk W kb (encW K256) 64
  below : Below w.heap.size w W
  hlo : w.heap.size ≤ hb
  ne : hb ≠ kb
theorem R2.next {w W W' : World} {hb kb : Nat} {st : List W32} (h : R2 w hb kb st W) (hB : Below W.heap.size W W') : R2 w hb kb st W' :=
  ⟨h.len, h.h.below hB h.h.lt, h.k.below hB h.k.lt, h.below.trans (hB.mono h.below.size), h.hlo, h.ne⟩
theorem R2.drewN {w W : World} {hb kb : Nat} {st : List W32} (h : R2 w hb kb st W) (n : Nat) : R2 w hb kb st (W.drewN n) := ⟨h.len, h.h, h.k, ⟨h.below.os, h.below.tape, h.below.output, h.below.size, h.below.block⟩, h.hlo, h.ne⟩
theorem R2.set {w W : World} {hb kb : Nat} {st : List W32} (h : R2 w hb kb st W) (p : Addr) (v : Value) (h1 : hb ≠ p.block) (h2 : kb ≠ p.block) (h3 : w.heap.size ≤ p.block) : R2 w hb kb st (W.setCell p v) :=
  ⟨h.len, h.h.other h1 v, h.k.other h2 v, h.below.setCell h3 v, h.hlo, h.ne⟩
/-- The words, so far. -/
def soFar (b : List W32) (f : List W32 → Nat → W32) (m j : Nat) : List W32 := schedW b f j ++ List.replicate (m - j) 0
theorem soFar_len (b : List W32) (f : List W32 → Nat → W32) (m j : Nat) (h : j ≤ m) : (soFar b f m j).length = m := by simp [soFar, schedW_len]; omega
theorem soFar_get (b : List W32) (f : List W32 → Nat → W32) (m j k : Nat) (h : k < j) : (soFar b f m j).getD k 0 = (schedW b f j).getD k 0 := by
  rw [soFar, List.getD_eq_getElem?_getD, List.getElem?_append_left (by rw [schedW_len]; exact h), ← List.getD_eq_getElem?_getD]
theorem soFar_next (b : List W32) (f : List W32 → Nat → W32) (m j : Nat) (h : j < m) (x : W32) (hx : (if j < 16 then b.getD j 0 else f (schedW b f j) j) = x) : soFar b f m (j + 1) = (soFar b f m j).set j x := by
  rw [soFar, soFar, show m - j = (m - (j + 1)) + 1 by omega, List.replicate_succ, List.set_append, if_neg (by rw [schedW_len]; omega), schedW_len, Nat.sub_self, List.set_cons_zero, schedW, hx]
  simp
theorem soFar_all (b : List W32) (f : List W32 → Nat → W32) (m : Nat) : soFar b f m m = schedW b f m := by simp [soFar]

def zer (n : Nat) : List W32 := List.replicate n 0
theorem make_zer (n : Nat) (h : n ≤ 1000) (w : World) : (Instr.makeSlice 43 (.int .i64 (n : Int)) (.int .i64 (n : Int))).run Tryz.prog w = .ok (.slice (some ⟨w.heap.size, 0, none⟩) n n) (w.alloc (.cells (encW (zer n)) 64)) := by
  rw [zer, ← made_enc]
  exact run_make_row' 43 64 (.int .u32 0) 4 Tryz.underlying43 info_u32 rfl .i64 .i64 n (by omega) (by omega) w
theorem make64 (w : World) : (Instr.makeSlice 43 (.int .i64 64) (.int .i64 64)).run Tryz.prog w = .ok (.slice (some ⟨w.heap.size, 0, none⟩) 64 64) (w.alloc (.cells (encW (zer 64)) 64)) := make_zer 64 (by omega) w
theorem make8 (w : World) : (Instr.makeSlice 43 (.int .i64 8) (.int .i64 8)).run Tryz.prog w = .ok (.slice (some ⟨w.heap.size, 0, none⟩) 8 8) (w.alloc (.cells (encW (zer 8)) 64)) := make_zer 8 (by omega) w
theorem make80 (w : World) : (Instr.makeSlice 43 (.int .i64 80) (.int .i64 80)).run Tryz.prog w = .ok (.slice (some ⟨w.heap.size, 0, none⟩) 80 80) (w.alloc (.cells (encW (zer 80)) 64)) := make_zer 80 (by omega) w

theorem copy8 (st : List W32) (h8 : st.length = 8) (W : World) (hb : Nat) (hB : Blk W hb (encW st) 64) : (Builtin.copy_ #[43, 43] 3 #[.slice (some ⟨W.heap.size, 0, none⟩) 8 8, .slice (some ⟨hb, 0, none⟩) 8 8]).run Tryz.prog (W.alloc (.cells (encW (zer 8)) 64)) = .ok (.int .i64 8) (W.alloc (.cells (encW st) 64)) := by
  have hz : (encW (zer 8)).size = 8 := by rw [encW_size]; rfl
  have hl : (st.map vw).length = 8 := by simp [h8]
  have h := run_copy_row (P := Tryz.prog) (W.alloc (.cells (encW (zer 8)) 64)) 43 43 3 64 W.heap.size 0 8 8 ⟨hb, 0, none⟩ 8 8 (encW (zer 8)) 64 (st.map vw) Tryz.underlying43 (by kernel_rfl) (Blk.new W _ _) hl
    (World.news_of_block (cs := encW st) (t := 64) (fr := (0, 0)) (hB.alloc _)) (by rw [hl, hz]; omega) (by intro v hv; obtain ⟨x, _, rfl⟩ := List.mem_map.1 hv; rfl)
  rw [h, hl]
  have e : ((encW (zer 8)).toList.take 0 ++ st.map vw ++ (encW (zer 8)).toList.drop (0 + 8)).toArray = encW st := by
    rw [List.take_zero, List.nil_append, List.drop_of_length_le (by simp [hz]), List.append_nil]; rfl
  rw [e, World.setRow_alloc_new]
  rfl
theorem eight_cells (v0 v1 v2 v3 v4 v5 v6 v7 : W32) (W : World) (b : Nat) (h : Blk W b (encW [v0, v1, v2, v3, v4, v5, v6, v7]) 64) :
    W.cell? ⟨b, 0, none⟩ = some (.int .u32 (wd v0)) ∧ W.cell? ⟨b, 1, none⟩ = some (.int .u32 (wd v1)) ∧ W.cell? ⟨b, 2, none⟩ = some (.int .u32 (wd v2)) ∧ W.cell? ⟨b, 3, none⟩ = some (.int .u32 (wd v3)) ∧
    W.cell? ⟨b, 4, none⟩ = some (.int .u32 (wd v4)) ∧ W.cell? ⟨b, 5, none⟩ = some (.int .u32 (wd v5)) ∧ W.cell? ⟨b, 6, none⟩ = some (.int .u32 (wd v6)) ∧ W.cell? ⟨b, 7, none⟩ = some (.int .u32 (wd v7)) :=
  ⟨h.cell 0, h.cell 1, h.cell 2, h.cell 3, h.cell 4, h.cell 5, h.cell 6, h.cell 7⟩
theorem next_eight {v0 v1 v2 v3 v4 v5 v6 v7 : W32} (W : World) (vb wb hb kb : Nat) (w : World) (st nv bl : List W32) (cs : Array Value) (hcs : encW nv = cs) (h : Blk W vb (encW [v0, v1, v2, v3, v4, v5, v6, v7]) 64 ∧ Blk W wb (encW (schedW bl f2 64)) 64 ∧ R2 w hb kb st W) :
    Blk (W.alloc (.cells cs 64)) W.heap.size (encW nv) 64 ∧ Blk (W.alloc (.cells cs 64)) wb (encW (schedW bl f2 64)) 64 ∧ R2 w hb kb st (W.alloc (.cells cs 64)) ∧ hb < W.heap.size := by
  subst hcs
  exact ⟨Blk.new _ _ _, h.2.1.alloc _, h.2.2.next ((Below.refl _ W).alloc (Nat.le_refl _) _), h.2.2.h.lt⟩
theorem eight_enc (a b c d e f g h : W32) : encW [a, b, c, d, e, f, g, h] = #[.int .u32 (wd a), .int .u32 (wd b), .int .u32 (wd c), .int .u32 (wd d), .int .u32 (wd e), .int .u32 (wd f), .int .u32 (wd g), .int .u32 (wd h)] := rfl
theorem row_cell (b : List W32) (f : List W32 → Nat → W32) (m j k : Nat) (hj : j ≤ m) (h : k < j) (W : World) (wb : Nat) (hA : Blk W wb (encW (soFar b f m j)) 64) : W.cell? ⟨wb, k, none⟩ = some (.int .u32 (wd ((schedW b f j).getD k 0))) := by
  rw [hA.cell, encW_get _ _ (by rw [soFar_len _ _ _ _ hj]; omega), soFar_get _ _ _ _ _ h]
theorem block_word (S : ByteArray) (P : List UInt8) (p : Nat) (hSD : S.data.toList = P) (hpl : p + 64 ≤ S.size) (hSle : S.size ≤ 2000000) (j : Nat) (hj : j < 16) (W : World) :
    Calls Tryz.prog 66 #[.string S, .int .i64 ((p : Int) + 4 * (j : Int))] W fun e w' => e = .returned (.int .u32 (wd ((wordsN (P.drop p) 16).getD j 0))) ∧ ∃ m, w' = W.drewN m := by
  have h := ref_word S (p + 4 * j) (by omega) (by omega) W
  have hd : ∀ k, P.getD (p + k) 0 = (P.drop p).getD k 0 := fun k => by simp [List.getD, List.getElem?_drop]
  have hw : (wordsN (P.drop p) 16).getD j 0 = word4 ((P.drop p).getD (4 * j) 0) ((P.drop p).getD (4 * j + 1) 0) ((P.drop p).getD (4 * j + 2) 0) ((P.drop p).getD (4 * j + 3) 0) := by
    rw [wordsN, List.getD_eq_getElem?_getD, List.getElem?_map, List.getElem?_range hj]
    rfl
  rw [hSD, show p + 4 * j + 1 = p + (4 * j + 1) by omega, show p + 4 * j + 2 = p + (4 * j + 2) by omega, show p + 4 * j + 3 = p + (4 * j + 3) by omega, hd, hd, hd, hd, ← hw] at h
  have e2 : ((p + 4 * j : Nat) : Int) = (p : Int) + 4 * (j : Int) := by push_cast; rfl
  rw [e2] at h
  exact h

set_option maxRecDepth 100000 in
set_option maxHeartbeats 600000 in
theorem ref_sum256 (s : ByteArray) (hs : s.size ≤ 1000000) (w : World) : Calls Tryz.prog 37 #[.string s] w fun e w' => e = .returned (.string (bs (sum256 s.data.toList))) ∧ Below w.heap.size w w' := by
  have hpd := fun w => ref_padded s hs w
  have hP64 := padL_len s.data.toList
  have hPle : (padL s.data.toList).length ≤ 2000000 := by
    have : zerosOf s.size < 64 := Nat.mod_lt _ (by omega)
    have hl : s.data.toList.length = s.size := by simp
    simp [padL, padT, lenB]; omega
  have hfin : foldB comp2 ((padL s.data.toList).length / 64) H256 (padL s.data.toList) = sha2 s.data.toList := rfl
  have hsum : sum256 s.data.toList = tellW (sha2 s.data.toList) := rfl
  have hfl : (sha2 s.data.toList).length = 8 := foldB_len _ comp2_len _ _ _
  rw [hsum]
  clear hsum
  generalize sha2 s.data.toList = fin at hfin hfl ⊢
  generalize padL s.data.toList = P at hpd hP64 hPle hfin
  obtain ⟨N, hN⟩ : ∃ N, P.length = 64 * N := ⟨P.length / 64, by omega⟩
  rw [hN, Nat.mul_div_cancel_left _ (by omega)] at hfin
  have hSz : (bs P).size = 64 * N := by rw [bs_size, hN]
  have hSd : (bs P).data.toList = P := by simp [bs]
  generalize bs P = S at hpd hSz hSd
  have HSZ := Lib.hid hSz; have HPD := Lib.hid hpd; have HSD := Lib.hid hSd; have HPN := Lib.hid hN; have HFL := Lib.hid hfl
  have hSle : S.size ≤ 2000000 := by omega
  have hke := H256_enc
  have HRo := Lib.hid ref_rounds
  have hmix : Tryz.prog.follows .mixedOrders = true := by kernel_rfl
  have hxor := wd_xor
  have hadd := wd_add
  have hand := wd_and
  clear hpd hP64 hPle hSd hN hfl hs hSz
  go_enter Tryz.func37, Tryz.ntmps37
  go_wp2_with (first
    | (go_at_call 70; refine (HRo.out _).mono ?_; rintro e w1 ⟨rfl, rfl⟩)
    | (go_at_call 65; refine (HPD.out _).mono ?_; rintro e w2 ⟨rfl, hB2⟩; replace hB2 := Lib.hid hB2))
  have hR0 : R2 w w.heap.size (w.heap.size + 1) H256 w2 := by
    have b1 : Blk ((w.alloc (.cells (encW H256) 64)).alloc (.cells (encW K256) 64)) w.heap.size (encW H256) 64 := (Blk.new w _ _).alloc _
    have b2 : Blk ((w.alloc (.cells (encW H256) 64)).alloc (.cells (encW K256) 64)) (w.heap.size + 1) (encW K256) 64 := by
      have := Blk.new (w.alloc (.cells (encW H256) 64)) (encW K256) 64
      simpa using this
    have bl : Below w.heap.size w ((w.alloc (.cells (encW H256) 64)).alloc (.cells (encW K256) 64)) := ((Below.refl _ w).alloc (Nat.le_refl _) _).alloc (by simp) _
    exact ⟨rfl, b1.below hB2.out b1.lt, b2.below hB2.out b2.lt, bl.trans (hB2.out.mono bl.size), Nat.le_refl _, by omega⟩
  have HR := Lib.hid hR0
  clear hR0 hB2
  have hkbh : w.heap.size ≤ w.heap.size + 1 := by omega
  obtain ⟨hb, hbe⟩ : ∃ hb, hb = w.heap.size := ⟨_, rfl⟩
  obtain ⟨kb, kbe⟩ : ∃ kb, kb = w.heap.size + 1 := ⟨_, rfl⟩
  rw [← kbe, ← hbe] at HR
  have HWB := Lib.hid hbe
  have HKB := Lib.hid kbe
  rw [show (⟨w.heap.size + 1, 0, none⟩ : Addr) = ⟨kb, 0, none⟩ by rw [kbe], show (⟨w.heap.size, 0, none⟩ : Addr) = ⟨hb, 0, none⟩ by rw [hbe]]
  clear hbe kbe hkbh
  have hmk := make64
  go_loopw [6] (fun i wr => ∃ (n p : Nat) (st : List W32), n ≤ N ∧ i = .int .i64 (p : Int) ∧ Hid (p = 64 * n) ∧ Hid (foldB comp2 (N - n) st (P.drop p) = fin) ∧ Hid (R2 w hb kb st wr)) (fun i _ => S.size - (intOf i).toNat)
  case atStart => exact ⟨0, 0, H256, Nat.zero_le _, rfl, Lib.hid rfl, Lib.hid hfin, HR⟩
  case round =>
    obtain ⟨n, p, st, hn, rfl, hpn, hfo, hR⟩ := hrel
    by_cases hlt : n < N
    · have hpl : p + 64 ≤ S.size := by have := hpn.out; have := HSZ.out; omega
      have hps : (p : Int) < (S.size : Int) := by omega
      repeat (first | (fail) | go_values | go_skip | go_guarded | go_step | go_upon | go_back)
      have hb16 : (wordsN (P.drop p) 16).length = 16 := by simp [wordsN]
      have hwd := fun j hj W => block_word S P p HSD.out hpl hSle j hj W
      generalize hbl : wordsN (P.drop p) 16 = bl at hb16 hwd
      have HBL := Lib.hid hbl; have HWD := Lib.hid hwd; have H16 := Lib.hid hb16
      obtain ⟨wb, hwb⟩ : ∃ wb, wb = wr.heap.size := ⟨_, rfl⟩
      have hw0 : Blk (wr.alloc (.cells (encW (zer 64)) 64)) wb (encW (soFar bl f2 64 0)) 64 := by
        rw [hwb]; exact Blk.new wr (encW (zer 64)) 64
      have hR1 := hR.out.next ((Below.refl _ wr).alloc (Nat.le_refl _) (.cells (encW (zer 64)) 64))
      have hbw : hb ≠ wb := by have := hR.out.h.lt; omega
      have kbw : kb ≠ wb := by have := hR.out.k.lt; omega
      have hlw : w.heap.size ≤ wb := by have := hR.out.below.size; omega
      rw [show (⟨wr.heap.size, 0, none⟩ : Addr) = ⟨wb, 0, none⟩ by rw [hwb]]
      generalize wr.alloc (.cells (encW (zer 64)) 64) = Wa at hw0 hR1 ⊢
      have HA0 := Lib.hid (And.intro hw0 hR1)
      clear hbl hwd hb16 hw0 hR1 hR hwb hmk
      go_loopw [8] (fun i wr => ∃ j : Nat, j ≤ 64 ∧ i = .int .i64 j ∧ Hid (Blk wr wb (encW (soFar bl f2 64 j)) 64 ∧ R2 w hb kb st wr)) (fun i _ => 64 - (intOf i).toNat)
      case atStart => exact ⟨0, Nat.zero_le _, rfl, HA0⟩
      case round =>
        obtain ⟨j, hj, rfl, hA⟩ := hrel
        by_cases hj64 : j < 64
        · by_cases hj16 : j < 16
          · have hd1 : decide ((j : Int) < 64) = true := decide_eq_true (by omega)
            have hd2 : decide ((j : Int) < 16) = true := decide_eq_true (by omega)
            have hix : (j : Int) < 64 := by omega
            have hjl : j < 64 := hj64
            have hp4 : (p : Int) + 4 * (j : Int) ≤ 2000000 := by omega
            have hcw := HWD.out j hj16
            have HC := Lib.hid hcw
            clear hcw
            have hnx := soFar_next bl f2 64 j hj64 (bl.getD j 0) (by rw [if_pos hj16])
            generalize bl.getD j 0 = x at HC hnx
            have HNX := Lib.hid hnx
            clear hnx
            repeat (first | (fail) | go_values | go_skip | go_guarded | go_step | go_upon | go_back)
            refine (HC.out _).mono ?_
            rintro e w3 ⟨rfl, m, rfl⟩
            simp only []
            have hA1 : Hid (Blk (wr.drewN m) wb (encW (soFar bl f2 64 j)) 64 ∧ R2 w hb kb st (wr.drewN m)) := Lib.hid ⟨hA.out.1, hA.out.2.drewN m⟩
            generalize wr.drewN m = W1 at hA1 ⊢
            have hc : W1.cell? ⟨wb, j, none⟩ = some (.int .u32 (wd ((soFar bl f2 64 j).getD j 0))) := by rw [hA1.out.1.cell, encW_get _ _ (by rw [soFar_len _ _ _ _ hj]; exact hj64)]
            have hf := hA1.out.1.free j
            clear HC hA
            repeat (first | (fail) | go_values | go_skip | go_guarded | go_step | go_upon | go_back)
            have hA2 : Hid (Blk (W1.setCell ⟨wb, j, none⟩ (.int .u32 (wd x))) wb (encW (soFar bl f2 64 (j + 1))) 64 ∧ R2 w hb kb st (W1.setCell ⟨wb, j, none⟩ (.int .u32 (wd x)))) :=
              Lib.hid ⟨by rw [HNX.out, ← encW_set]; exact hA1.out.1.set j _, hA1.out.2.set ⟨wb, j, none⟩ _ hbw kbw hlw⟩
            clear hA1 hc hf
            repeat (first | (fail) | go_values | go_skip | go_guarded | go_step | go_upon | go_back)
            go_roundw
            case rel => exact ⟨j + 1, by omega, by go_num, hA2⟩
            case measure => simp [intOf]; omega
          · have hd1 : decide ((j : Int) < 64) = true := decide_eq_true (by omega)
            have hd2 : decide ((j : Int) < 16) = false := decide_eq_false (by omega)
            have hix : (j : Int) < 64 := by omega
            obtain ⟨k15, m15, e15⟩ : ∃ k : Nat, (j : Int) - 15 = (k : Int) ∧ k = j - 15 := ⟨j - 15, by omega, rfl⟩
            obtain ⟨k2, m2, e2⟩ : ∃ k : Nat, (j : Int) - 2 = (k : Int) ∧ k = j - 2 := ⟨j - 2, by omega, rfl⟩
            obtain ⟨k7, m7, e7⟩ : ∃ k : Nat, (j : Int) - 7 = (k : Int) ∧ k = j - 7 := ⟨j - 7, by omega, rfl⟩
            obtain ⟨k16, m16, e16⟩ : ∃ k : Nat, (j : Int) - 16 = (k : Int) ∧ k = j - 16 := ⟨j - 16, by omega, rfl⟩
            have b15 : (k15 : Int) < 64 := by omega
            have b2 : (k2 : Int) < 64 := by omega
            have b7 : (k7 : Int) < 64 := by omega
            have b16 : (k16 : Int) < 64 := by omega
            have hnx := soFar_next bl f2 64 j hj64 (((((schedW bl f2 j).getD k16 0 + r0 ((schedW bl f2 j).getD k15 0)) + (schedW bl f2 j).getD k7 0) + r1 ((schedW bl f2 j).getD k2 0))) (by rw [if_neg hj16, f2, e15, e2, e7, e16])
            have rc := fun k (h : k < j) W (hA : Blk W wb (encW (soFar bl f2 64 j)) 64) => row_cell bl f2 64 j k hj h W wb hA
            obtain ⟨x15, X15⟩ : ∃ x, (schedW bl f2 j).getD k15 0 = x := ⟨_, rfl⟩
            obtain ⟨x2, X2⟩ : ∃ x, (schedW bl f2 j).getD k2 0 = x := ⟨_, rfl⟩
            obtain ⟨x7, X7⟩ : ∃ x, (schedW bl f2 j).getD k7 0 = x := ⟨_, rfl⟩
            obtain ⟨x16, X16⟩ : ∃ x, (schedW bl f2 j).getD k16 0 = x := ⟨_, rfl⟩
            have c15 := rc k15 (by omega) wr hA.out.1
            have c2 := rc k2 (by omega) wr hA.out.1
            have c7 := rc k7 (by omega) wr hA.out.1
            have c16 := rc k16 (by omega) wr hA.out.1
            rw [X15, X2, X7, X16] at hnx
            rw [X15] at c15
            rw [X2] at c2
            rw [X7] at c7
            rw [X16] at c16
            have s3 : wd x15 / (8 : Int) = wd (x15 >>> (3 : Nat)) := wd_shr x15 3
            have s10 : wd x2 / (1024 : Int) = wd (x2 >>> (10 : Nat)) := wd_shr x2 10
            have HNX := Lib.hid hnx
            clear hnx rc X15 X2 X7 X16 e15 e2 e7 e16
            repeat (first | (fail) | go_values | go_skip | go_guarded | go_step | go_upon | go_back)
            refine wp_draw 31 (C := fun w' => ∃ n, w' = wr.drewN n) hmix (by kernel_rfl) (by kernel_rfl) (by kernel_rfl) (by simp) ⟨1, rfl⟩ ?_
            simp only [List.take_succ_cons, List.take_zero, List.drop_succ_cons, List.drop_zero]
            repeat (go_big_quiet_step ((go_at_call 71; exact Calls.quiet_of (ref_ror_at _ _ (by omega) (by omega) _))))
            refine wpQuiet_nil ?_
            intro _ hw'
            obtain ⟨nq, hw''⟩ := hw'
            subst hw''
            have hA1 : Hid (Blk (wr.drewN nq) wb (encW (soFar bl f2 64 j)) 64 ∧ R2 w hb kb st (wr.drewN nq)) := Lib.hid ⟨hA.out.1, hA.out.2.drewN nq⟩
            generalize wr.drewN nq = W1 at hA1 ⊢
            have hc : W1.cell? ⟨wb, j, none⟩ = some (.int .u32 (wd ((soFar bl f2 64 j).getD j 0))) := by rw [hA1.out.1.cell, encW_get _ _ (by rw [soFar_len _ _ _ _ hj]; exact hj64)]
            have hf := hA1.out.1.free j
            clear hA c15 c2 c7 c16 s3 s10
            have hA2 : Hid (Blk (W1.setCell ⟨wb, j, none⟩ (.int .u32 (wd (((x16 + r0 x15) + x7) + r1 x2)))) wb (encW (soFar bl f2 64 (j + 1))) 64 ∧ R2 w hb kb st (W1.setCell ⟨wb, j, none⟩ (.int .u32 (wd (((x16 + r0 x15) + x7) + r1 x2))))) :=
              Lib.hid ⟨by rw [HNX.out, ← encW_set]; exact hA1.out.1.set j _, hA1.out.2.set ⟨wb, j, none⟩ _ hbw kbw hlw⟩
            have hA3 : Hid (Blk (W1.setCell ⟨wb, j, none⟩ (.int .u32 (wd (((x16 + ((rorW x15 7 ^^^ rorW x15 18) ^^^ x15 >>> (3 : Nat))) + x7) + ((rorW x2 17 ^^^ rorW x2 19) ^^^ x2 >>> (10 : Nat)))))) wb (encW (soFar bl f2 64 (j + 1))) 64 ∧ R2 w hb kb st (W1.setCell ⟨wb, j, none⟩ (.int .u32 (wd (((x16 + ((rorW x15 7 ^^^ rorW x15 18) ^^^ x15 >>> (3 : Nat))) + x7) + ((rorW x2 17 ^^^ rorW x2 19) ^^^ x2 >>> (10 : Nat))))))) := hA2
            clear hA1 hA2
            go_wp2_with fail
            go_roundw
            case rel => exact ⟨j + 1, by omega, by go_num, hA3⟩
            case measure => simp [intOf]; omega
        · obtain rfl : j = 64 := by omega
          have hd1 : decide ((64 : Int) < 64) = false := rfl
          rw [show ((64 : Nat) : Int) = 64 from rfl]
          rw [soFar_all] at hA
          have hmk := make8
          have hcp := fun W hB => copy8 st hA.out.2.len W hb hB
          have hcw := hcp wr hA.out.2.h
          clear hcp
          repeat (first | (fail) | go_values | go_skip | go_guarded | go_step | go_upon | go_back)
          obtain ⟨vb0, hvb⟩ : ∃ vb, vb = wr.heap.size := ⟨_, rfl⟩
          have hv0 : Blk (wr.alloc (.cells (encW st) 64)) vb0 (encW (run2 st bl 0).1) 64 := by rw [hvb]; exact Blk.new wr (encW st) 64
          have hB0 : Below wr.heap.size wr (wr.alloc (.cells (encW st) 64)) := (Below.refl _ wr).alloc (Nat.le_refl _) _
          have hA0 := Lib.hid (And.intro hv0 (And.intro (hA.out.1.below hB0 hA.out.1.lt) (hA.out.2.next hB0)))
          have hlv : w.heap.size ≤ vb0 := by have := hA.out.2.below.size; omega
          have hbv : hb < vb0 := by have := hA.out.2.h.lt; omega
          rw [show (⟨wr.heap.size, 0, none⟩ : Addr) = ⟨vb0, 0, none⟩ by rw [hvb]]
          generalize wr.alloc (.cells (encW st) 64) = Wv at hA0 ⊢
          clear hmk hcw hvb hv0 hB0 hA
          go_loopw [11, 12] (fun v i wr => ∃ (k vb : Nat), k ≤ 64 ∧ v = .slice (some ⟨vb, 0, none⟩) 8 8 ∧ i = .int .i64 k ∧ hb < vb ∧ Hid (Blk wr vb (encW (run2 st bl k).1) 64 ∧ Blk wr wb (encW (schedW bl f2 64)) 64 ∧ R2 w hb kb st wr)) (fun _ i _ => 64 - (intOf i).toNat)
          case atStart => exact ⟨0, vb0, Nat.zero_le _, rfl, rfl, hbv, hA0⟩
          case round =>
            obtain ⟨k, vb, hk, rfl, rfl, hbv1, hA⟩ := hrel
            by_cases hk64 : k < 64
            · have hd1 : decide ((k : Int) < 64) = true := decide_eq_true (by omega)
              have hki : (k : Int) < 64 := by omega
              have hst := run2_word st bl H16.out k
              have hl8 : (run2 st bl k).1.length = 8 := (run2_len st bl k).1.trans hA.out.2.2.len
              obtain ⟨y, Y⟩ : ∃ y, atW bl f2 k = y := ⟨_, rfl⟩
              obtain ⟨kk, KK⟩ : ∃ y, K256.getD k 0 = y := ⟨_, rfl⟩
              rw [Y, KK] at hst
              generalize (run2 st bl k).1 = v at hst hl8 hA
              obtain ⟨v0, v1, v2, v3, v4, v5, v6, v7, rfl⟩ := len8 v hl8
              rw [step2_ref] at hst
              have HST := Lib.hid hst
              have hrow := fun W (h : Blk W vb (encW [v0, v1, v2, v3, v4, v5, v6, v7]) 64) => eight_cells v0 v1 v2 v3 v4 v5 v6 v7 W vb h
              have hky := fun W (h1 : Blk W wb (encW (schedW bl f2 64)) 64) => (by rw [h1.cell, encW_get _ _ (by rw [schedW_len]; exact hk64), schedW_get _ _ _ _ hk64, Y] : W.cell? ⟨wb, k, none⟩ = some (.int .u32 (wd y)))
              have hkk := fun W (h1 : R2 w hb kb st W) => (by rw [h1.k.cell, encW_get _ _ hk64, KK] : W.cell? ⟨kb, k, none⟩ = some (.int .u32 (wd kk)))
              have HROW := Lib.hid hrow; have HKY := Lib.hid hky; have HKK := Lib.hid hkk
              clear hst hl8 hrow hky hkk Y KK
              obtain ⟨a0, a1, a2, a3, a4, a5, a6, a7⟩ := HROW.out wr hA.out.1
              repeat (first | (fail) | go_values | go_skip | go_guarded | go_step | go_upon | go_back)
              have ay := HKY.out wr hA.out.2.1
              have ak := HKK.out wr hA.out.2.2
              have hx4 : ∀ x : W32, bits .xor .u32 (wd x) 4294967295 = wd (x ^^^ 4294967295#32) := fun x => wd_xor x 4294967295#32
              go_quiet ((go_at_call 71; exact Calls.quiet_of (ref_ror_at _ _ (by omega) (by omega) _)))
              have hA1 : Hid (Blk (wr.drewN nq) vb (encW [v0, v1, v2, v3, v4, v5, v6, v7]) 64 ∧ Blk (wr.drewN nq) wb (encW (schedW bl f2 64)) 64 ∧ R2 w hb kb st (wr.drewN nq)) := Lib.hid ⟨hA.out.1, hA.out.2.1, hA.out.2.2.drewN nq⟩
              generalize wr.drewN nq = W1 at hA1 ⊢
              clear a0 a1 a2 a3 a4 a5 a6 a7 ay ak hA
              obtain ⟨a0, a1, a2, a3, a4, a5, a6, a7⟩ := HROW.out W1 hA1.out.1
              repeat (first | (fail) | go_values | go_skip | go_guarded | go_step | go_upon | go_back)
              go_quiet ((go_at_call 71; exact Calls.quiet_of (ref_ror_at _ _ (by omega) (by omega) _)))
              have hA2 : Hid (Blk (W1.drewN nq) vb (encW [v0, v1, v2, v3, v4, v5, v6, v7]) 64 ∧ Blk (W1.drewN nq) wb (encW (schedW bl f2 64)) 64 ∧ R2 w hb kb st (W1.drewN nq)) := Lib.hid ⟨hA1.out.1, hA1.out.2.1, hA1.out.2.2.drewN nq⟩
              generalize W1.drewN nq = W2 at hA2 ⊢
              clear a0 a1 a2 a3 a4 a5 a6 a7 hA1
              obtain ⟨a0, a1, a2, a3, a4, a5, a6, a7⟩ := HROW.out W2 hA2.out.1
              repeat (first | (fail) | go_values | go_skip | go_guarded | go_step | go_upon | go_back)
              go_still_tail 26, (by kernel_rfl)
              change wpList _ _ _ _ _ W2.drew
              have hA3 : Hid (Blk W2.drew vb (encW [v0, v1, v2, v3, v4, v5, v6, v7]) 64 ∧ Blk W2.drew wb (encW (schedW bl f2 64)) 64 ∧ R2 w hb kb st W2.drew) := Lib.hid ⟨hA2.out.1, hA2.out.2.1, hA2.out.2.2.drewN 1⟩
              generalize W2.drew = W3 at hA3 ⊢
              clear a0 a1 a2 a3 a4 a5 a6 a7 hA2 HROW HKY HKK hx4
              have hst : (run2 st bl (k + 1)).1 = [((((v7 + ((rorW v4 6 ^^^ rorW v4 11) ^^^ rorW v4 25)) + ((v4 &&& v5) ^^^ ((v4 ^^^ 4294967295#32) &&& v6))) + kk) + y) + (((rorW v0 2 ^^^ rorW v0 13) ^^^ rorW v0 22) + (((v0 &&& v1) ^^^ (v0 &&& v2)) ^^^ (v1 &&& v2))), v0, v1, v2, v3 + ((((v7 + ((rorW v4 6 ^^^ rorW v4 11) ^^^ rorW v4 25)) + ((v4 &&& v5) ^^^ ((v4 ^^^ 4294967295#32) &&& v6))) + kk) + y), v4, v5, v6] := HST.out
              have hA4 := next_eight W3 vb wb hb kb w st [((((v7 + ((rorW v4 6 ^^^ rorW v4 11) ^^^ rorW v4 25)) + ((v4 &&& v5) ^^^ ((v4 ^^^ 4294967295#32) &&& v6))) + kk) + y) + (((rorW v0 2 ^^^ rorW v0 13) ^^^ rorW v0 22) + (((v0 &&& v1) ^^^ (v0 &&& v2)) ^^^ (v1 &&& v2))), v0, v1, v2, v3 + ((((v7 + ((rorW v4 6 ^^^ rorW v4 11) ^^^ rorW v4 25)) + ((v4 &&& v5) ^^^ ((v4 ^^^ 4294967295#32) &&& v6))) + kk) + y), v4, v5, v6] bl _ (eight_enc _ _ _ _ _ _ _ _) hA3.out
              rw [← hst] at hA4
              have HA4 := Lib.hid hA4
              clear hA4 hst HST hA3
              repeat (first | (fail) | go_values | go_skip | go_guarded | go_step | go_upon | go_back)
              go_roundw
              case rel =>
                exact ⟨k + 1, W3.heap.size, by omega, rfl, by go_num, HA4.out.2.2.2, Lib.hid ⟨HA4.out.1, HA4.out.2.1, HA4.out.2.2.1⟩⟩
              case measure => simp [intOf]; omega
            · --MARK3
              obtain rfl : k = 64 := by omega
              have hd1 : decide ((64 : Int) < 64) = false := rfl
              have hl8 : (run2 st bl 64).1.length = 8 := (run2_len st bl 64).1.trans hA.out.2.2.len
              have hcp : comp2 st bl = part2 st (run2 st bl 64).1 8 := (part2_all st _ hA.out.2.2.len hl8).symm
              have hnx : foldB comp2 (N - (n + 1)) (comp2 st bl) (P.drop (p + 64)) = fin := by
                have h := hfo.out
                rw [show N - n = (N - (n + 1)) + 1 by omega, foldB_succ, HBL.out, List.drop_drop] at h
                exact h
              generalize (run2 st bl 64).1 = v at hA hl8 hcp
              have hs8 := hA.out.2.2.len
              have hA3 : Hid (Blk wr hb (encW (part2 st v 0)) 64 ∧ Blk wr vb (encW v) 64 ∧ Blk wr kb (encW K256) 64 ∧ Below w.heap.size w wr) := Lib.hid ⟨hA.out.2.2.h, hA.out.1, hA.out.2.2.k, hA.out.2.2.below⟩
              have hne := hA.out.2.2.ne
              have hlo := hA.out.2.2.hlo
              have HCP := Lib.hid hcp; have HNX := Lib.hid hnx
              clear hA hcp hnx
              repeat (first | (fail) | go_values | go_skip | go_guarded | go_step | go_upon | go_back)
              go_loopw [17] (fun i wr => ∃ j : Nat, j ≤ 8 ∧ i = .int .i64 j ∧ Hid (Blk wr hb (encW (part2 st v j)) 64 ∧ Blk wr vb (encW v) 64 ∧ Blk wr kb (encW K256) 64 ∧ Below w.heap.size w wr)) (fun i _ => 8 - (intOf i).toNat)
              case atStart => exact ⟨0, Nat.zero_le _, rfl, hA3⟩
              case round =>
                obtain ⟨j, hj, rfl, hA⟩ := hrel
                by_cases hj8 : j < 8
                · have hd2 : decide ((j : Int) < 8) = true := decide_eq_true (by omega)
                  have hji : (j : Int) < 8 := by omega
                  have cp : wr.cell? ⟨hb, j, none⟩ = some (.int .u32 (wd (st.getD j 0))) := by rw [hA.out.1.cell, encW_get _ _ (by rw [part2_len _ _ _ (by omega) (by omega)]; omega), part2_get _ _ _ (by omega) (by omega)]
                  have cv : wr.cell? ⟨vb, j, none⟩ = some (.int .u32 (wd (v.getD j 0))) := by rw [hA.out.2.1.cell, encW_get _ _ (by omega)]
                  have hx : part2 st v (j + 1) = (part2 st v j).set j (st.getD j 0 + v.getD j 0) := part2_step st v j (by omega) (by omega)
                  generalize st.getD j 0 = x at cp hx
                  generalize v.getD j 0 = y at cv hx
                  have HX := Lib.hid hx
                  clear hx
                  repeat (first | (fail) | go_values | go_skip | go_guarded | go_step | go_upon | go_back)
                  refine wp_draw 11 (C := fun w' => ∃ n, w' = wr.drewN n) hmix (by kernel_rfl) (by kernel_rfl) (by kernel_rfl) (by simp) ⟨1, rfl⟩ ?_
                  simp only [List.take_succ_cons, List.take_zero, List.drop_succ_cons, List.drop_zero]
                  repeat (go_big_quiet_step (fail))
                  refine wpQuiet_nil ?_
                  intro _ hw'
                  obtain ⟨nq, hw''⟩ := hw'
                  subst hw''
                  have hA1 : Hid (Blk (wr.drewN nq) hb (encW (part2 st v j)) 64 ∧ Blk (wr.drewN nq) vb (encW v) 64 ∧ Blk (wr.drewN nq) kb (encW K256) 64 ∧ Below w.heap.size w (wr.drewN nq)) :=
                    Lib.hid ⟨hA.out.1, hA.out.2.1, hA.out.2.2.1, ⟨hA.out.2.2.2.os, hA.out.2.2.2.tape, hA.out.2.2.2.output, hA.out.2.2.2.size, hA.out.2.2.2.block⟩⟩
                  have cp1 : (wr.drewN nq).cell? ⟨hb, j, none⟩ = some (.int .u32 (wd x)) := cp
                  generalize wr.drewN nq = W1 at hA1 cp1 ⊢
                  have hf := hA1.out.1.free j
                  clear hA cp cv
                  have hA2 : Hid (Blk (W1.setCell ⟨hb, j, none⟩ (.int .u32 (wd (x + y)))) hb (encW (part2 st v (j + 1))) 64 ∧ Blk (W1.setCell ⟨hb, j, none⟩ (.int .u32 (wd (x + y)))) vb (encW v) 64 ∧ Blk (W1.setCell ⟨hb, j, none⟩ (.int .u32 (wd (x + y)))) kb (encW K256) 64 ∧ Below w.heap.size w (W1.setCell ⟨hb, j, none⟩ (.int .u32 (wd (x + y))))) :=
                    Lib.hid ⟨by rw [HX.out, ← encW_set]; exact hA1.out.1.set j _, hA1.out.2.1.other (by show vb ≠ hb; omega) _, hA1.out.2.2.1.other (by show kb ≠ hb; omega) _, hA1.out.2.2.2.setCell (p := ⟨hb, j, none⟩) hlo _⟩
                  clear hA1
                  go_wp2_with fail
                  go_roundw
                  case rel => exact ⟨j + 1, by omega, by go_num, hA2⟩
                  case measure => simp [intOf]; omega
                · obtain rfl : j = 8 := by omega
                  have hd2 : decide ((8 : Int) < 8) = false := rfl
                  have hRn : Hid (R2 w hb kb (comp2 st bl) wr) := Lib.hid ⟨by rw [comp2_len]; exact hs8, by rw [HCP.out]; exact hA.out.1, hA.out.2.2.1, hA.out.2.2.2, hlo, hne⟩
                  have hp64 : (p : Int) + 64 = ((p + 64 : Nat) : Int) := by push_cast; rfl
                  have hp2 : p + 64 ≤ 2000000 := by omega
                  have HP64 := Lib.hid hp64
                  clear hA hp64
                  repeat (first | (fail) | go_values | go_skip | go_guarded | go_step | go_upon | go_back)
                  go_roundw
                  case rel => exact ⟨n + 1, p + 64, comp2 st bl, by omega, by rw [← HP64.out], Lib.hid (by have := hpn.out; omega), HNX, hRn⟩
                  case measure => simp [intOf]; omega
    · --MARK4
      obtain rfl : n = N := by omega
      have hpS : ¬ ((p : Int) < (S.size : Int)) := by have := hpn.out; have := HSZ.out; omega
      have hst : st = fin := by
        have h := hfo.out
        rw [Nat.sub_self] at h
        exact h
      subst hst
      have htl := fun W h => ref_tell st hb 8 64 W (by rw [HFL.out]; omega) h
      rw [HFL.out] at htl
      have HTL := Lib.hid htl
      clear htl
      repeat (first | (fail) | go_values | go_skip | go_guarded | go_step | go_upon | go_back)
      refine (HTL.out _ hR.out.h).mono ?_
      rintro e w9 ⟨rfl, hB9⟩
      simp only []
      have HB9 := Lib.hid (hR.out.below.trans (hB9.mono hR.out.below.size))
      clear hB9
      go_wp2_with fail
      go_ret
      exact ⟨rfl, HB9.out⟩
end Go.Proofs.YtdmfbcfhfopipaaGreatDoor
