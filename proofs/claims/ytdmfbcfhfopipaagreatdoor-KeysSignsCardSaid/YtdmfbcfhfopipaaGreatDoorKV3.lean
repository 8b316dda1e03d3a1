import Derived.Test.YtdmfbcfhfopipaaGreatDoorKV2
import Derived.Test.YtdmfbcfhfopipaaGreatDoorKV1
/- The document's own numbers (its chapter 5): Wide. -/
namespace Go.Proofs.YtdmfbcfhfopipaaGreatDoor
open Go.RowKit

/-- Byte k of a number, the least first. -/
def wideB (l : List W32) (k : Nat) : UInt8 := if k / 4 < l.length then by8 (l.getD (k / 4) 0 >>> (8 * (k % 4))) else 0
def wideS (l : List W32) (m : Nat) : ByteArray := bs ((List.range m).map fun i => wideB l (m - 1 - i))
theorem wideS_size (l : List W32) (m : Nat) : (wideS l m).size = m := by rw [wideS, bs_size]; simp
theorem wideS_byt (l : List W32) (m j : Nat) (h : j < m) : byt (wideS l m) j = wideB l (m - 1 - j) := by
  have e : (wideS l m).data.toList = (List.range m).map fun i => wideB l (m - 1 - i) := by simp [wideS, bs]
  rw [byt, e, List.getD_eq_getElem?_getD, List.getElem?_map, List.getElem?_range h]; rfl
/-- k bytes are laid. -/
def WideAt (l : List W32) (m k : Nat) (t : ByteArray) : Prop := t.size = m ∧ ∀ j, j < m → byt t j = if m - 1 - j < k then wideB l (m - 1 - j) else 0
def zeroS (m : Nat) : ByteArray := ⟨Array.replicate m 0⟩
theorem zeroS_enc (m : Nat) : encS (zeroS m) = madeCells #[.int .u8 0] m := by
  rw [madeCells_one]; simp [encS, zeroS]
theorem WideAt.start (l : List W32) (m : Nat) : WideAt l m 0 (zeroS m) := by
  refine ⟨by simp [zeroS, ByteArray.size], fun j hj => ?_⟩
  rw [if_neg (by omega)]
  simp [byt, zeroS, List.getD, hj]
theorem WideAt.put {l : List W32} {m k : Nat} {t : ByteArray} (h : WideAt l m k t) (hk : k < m) : WideAt l m (k + 1) (bset t (m - 1 - k) (wideB l k)) := by
  refine ⟨by rw [size_bset]; exact h.1, fun j hj => ?_⟩
  rw [byt_bset _ _ _ _ (by rw [h.1]; omega)]
  by_cases e : m - 1 - k = j
  · rw [if_pos e, if_pos (by omega), show m - 1 - j = k by omega]
  · rw [if_neg e, h.2 j hj]
    by_cases h2 : m - 1 - j < k
    · rw [if_pos h2, if_pos (by omega)]
    · rw [if_neg h2, if_neg (by omega)]
theorem WideAt.skip {l : List W32} {m k : Nat} {t : ByteArray} (h : WideAt l m k t) (_hk : k < m) (hz : wideB l k = 0) : WideAt l m (k + 1) t := by
  refine ⟨h.1, fun j hj => ?_⟩
  rw [h.2 j hj]
  by_cases h2 : m - 1 - j < k
  · rw [if_pos h2, if_pos (by omega)]
  · rw [if_neg h2]
    by_cases h3 : m - 1 - j = k
    · rw [h3, if_pos (by omega), hz]
    · rw [if_neg (by omega)]
theorem WideAt.all {l : List W32} {m : Nat} {t : ByteArray} (h : WideAt l m m t) : t = wideS l m :=
  bytes_ext (by rw [wideS_size]; exact h.1) fun j hj => by
    rw [h.1] at hj
    rw [h.2 j hj, if_pos (by omega), wideS_byt l m j hj]

set_option maxRecDepth 100000 in
set_option maxHeartbeats 400000 in
theorem ref_wide (A : Option Addr) (c : Nat) (l : List W32) (m : Nat) (w : World) (hc : l.length ≤ c) (hl : l.length ≤ 1000000) (hm : m ≤ 1000000) (lo : Nat) (hA : DigsAt lo w A l) :
    Calls Tryz.prog 45 #[.slice A l.length c, .int .i64 m] w fun e w' => e = .returned (.string (wideS l m)) ∧ Below w.heap.size w w' := by
  have HA := Lib.hid hA
  have hmk := run_make_row' 41 5 (.int .u8 0) 1 Tryz.underlying41 info_u8b rfl .i64 .i64 m (by omega) (by omega) w
  rw [← zeroS_enc] at hmk
  clear hA
  go_enter Tryz.func45, Tryz.ntmps45
  go_wp2_with fail
  have hb : Blk (w.alloc (.cells (encS (zeroS m)) 5)) w.heap.size (encS (zeroS m)) 5 := Blk.new w _ _
  have hB : Below w.heap.size w (w.alloc (.cells (encS (zeroS m)) 5)) := (Below.refl _ w).alloc (Nat.le_refl _) _
  have H0 := Lib.hid (And.intro hb hB)
  clear hb hB hmk
  go_loopw [6] (fun i wr => ∃ (k : Nat) (t : ByteArray), k ≤ m ∧ i = .int .i64 k ∧ Hid (WideAt l m k t) ∧ Hid (Blk wr w.heap.size (encS t) 5 ∧ Below w.heap.size w wr)) (fun i _ => m - (intOf i).toNat)
  case atStart => exact ⟨0, zeroS m, Nat.zero_le _, rfl, Lib.hid (WideAt.start l m), H0⟩
  case round =>
    obtain ⟨k, t, hk, rfl, hW, hS⟩ := hrel
    by_cases hlt : k < m
    · obtain ⟨k4, q4, e4⟩ : ∃ k4 : Nat, (k : Int) / 4 = (k4 : Int) ∧ k4 = k / 4 := ⟨k / 4, by omega, rfl⟩
      by_cases hin : k4 < l.length
      · obtain ⟨b, rfl, _, hbl, hcell⟩ : ∃ b, A = some ⟨b, 0, none⟩ ∧ lo ≤ b ∧ b < w.heap.size ∧ ∀ i, i < l.length → w.cell? ⟨b, i, none⟩ = some (.int .u32 (wd (l.getD i 0))) := by
          rcases HA.out with h | h
          · subst h; simp at hin
          · exact h
        have hcb : wr.cell? ⟨b, k4, none⟩ = some (.int .u32 (wd (l.getD k4 0))) := by rw [hS.out.2.cell (p := ⟨b, k4, none⟩) hbl]; exact hcell k4 hin
        have hq : (k4 : Int) < (l.length : Int) := by omega
        obtain ⟨sh, qs, es⟩ : ∃ sh : Nat, 8 * ((k : Int) % 4) = (sh : Int) ∧ sh = 8 * (k % 4) := ⟨8 * (k % 4), by omega, rfl⟩
        have hs32 : min sh 32 = sh := by omega
        obtain ⟨j, qj, ej⟩ : ∃ j : Nat, (m : Int) - 1 - (k : Int) = (j : Int) ∧ j = m - 1 - k := ⟨m - 1 - k, by omega, rfl⟩
        have hjm : (j : Int) < (m : Int) := by omega
        have hwb : wideB l k = by8 (l.getD k4 0 >>> sh) := by rw [wideB, ← e4, if_pos hin, es]
        have hput := hW.out.put hlt
        rw [hwb, ← ej] at hput
        have hshr := wd_shr (l.getD k4 0) sh
        generalize l.getD k4 0 = x at hcb hput hshr
        have hby := by8_int (x >>> sh)
        generalize by8 (x >>> sh) = y at hput hby
        have hcj : wr.cell? ⟨w.heap.size, j, none⟩ = some (.int .u8 ((byt t j).toNat : Int)) := by rw [hS.out.1.cell j, encS_get t j (by rw [hW.out.1]; omega)]
        have hfj := hS.out.1.free j
        have HP := Lib.hid hput
        have hnx : Hid (Blk (wr.setCell ⟨w.heap.size, j, none⟩ (.int .u8 (y.toNat : Int))) w.heap.size (encS (bset t j y)) 5 ∧ Below w.heap.size w (wr.setCell ⟨w.heap.size, j, none⟩ (.int .u8 (y.toNat : Int)))) :=
          Lib.hid ⟨by rw [encS_bset]; exact hS.out.1.set j _, hS.out.2.setCell (p := ⟨w.heap.size, j, none⟩) (Nat.le_refl _) _⟩
        clear hwb hput hcell hW hS es ej e4
        repeat (first | (fail) | go_values | go_skip | go_guarded | go_step | go_upon | go_back)
        go_roundw
        case rel => exact ⟨k + 1, _, by omega, by go_num, HP, hnx⟩
        case measure => simp [intOf]; omega
      · have hq : ¬ ((k4 : Int) < (l.length : Int)) := by omega
        have hz : wideB l k = 0 := by rw [wideB, ← e4, if_neg hin]
        have HP := Lib.hid (hW.out.skip hlt hz)
        clear hz hW e4
        repeat (first | (fail) | go_values | go_skip | go_guarded | go_step | go_upon | go_back)
        go_roundw
        case rel => exact ⟨k + 1, t, by omega, by go_num, HP, hS⟩
        case measure => simp [intOf]; omega
    · obtain rfl : k = m := by omega
      have ht := hW.out.all
      subst ht
      have hcs := conv_bytes_string wr w.heap.size k k (wideS l k) hS.out.1 (wideS_size l k).symm
      go_wp2_with fail
      go_ret
      exact ⟨rfl, hS.out.2⟩
end Go.Proofs.YtdmfbcfhfopipaaGreatDoor

/- The document's own numbers (its chapter 5): Bytes. -/
namespace Go.Proofs.YtdmfbcfhfopipaaGreatDoor
open Go.RowKit

theorem bitsL_nat (l : List W32) : ∃ B : Nat, bitsL l = (B : Int) ∧ B ≤ 32 * l.length := by
  unfold bitsL
  by_cases h : l = []
  · exact ⟨0, by rw [if_pos h]; rfl, by omega⟩
  · rw [if_neg h]
    have hl : 0 < l.length := List.length_pos_iff.2 h
    have hb := bitLen_le (l.getD (l.length - 1) 0).toNat 32 (l.getD (l.length - 1) 0).isLt
    exact ⟨32 * (l.length - 1) + Lib.bitLen (l.getD (l.length - 1) 0).toNat, by omega, by omega⟩
/-- The bytes of a number. -/
def bytesL (l : List W32) : ByteArray := wideS l ((bitsL l + 7) / 8).toNat
set_option maxRecDepth 100000 in
set_option maxHeartbeats 400000 in
theorem ref_bytes (A : Option Addr) (c : Nat) (l : List W32) (w : World) (hc : l.length ≤ c) (hl : l.length ≤ 100000) (lo : Nat) (hA : DigsAt lo w A l) :
    Calls Tryz.prog 43 #[.slice A l.length c] w fun e w' => e = .returned (.string (bytesL l)) ∧ Below w.heap.size w w' := by
  have hbi := ref_bits A c l w hc (by omega) lo hA
  obtain ⟨B, hB, hBl⟩ := bitsL_nat l
  have hby : bytesL l = wideS l ((B + 7) / 8) := by rw [bytesL, hB]; congr 1
  have hwi := ref_wide A c l ((B + 7) / 8) w hc (by omega) (by omega) lo hA
  rw [hB] at hbi
  rw [hby]
  obtain ⟨m, hm⟩ : ∃ m, m = (B + 7) / 8 := ⟨_, rfl⟩
  rw [← hm] at hwi ⊢
  have hq : ((B : Int) + 7) / 8 = (m : Int) := by omega
  have hBb : (B : Int) ≤ 3200000 := by omega
  have HBI := Lib.hid hbi; have HWI := Lib.hid hwi
  clear hbi hwi hby hB hBl hm hA
  go_enter Tryz.func43, Tryz.ntmps43
  go_wp2_with (first
    | (go_at_call 21; refine HBI.out.mono ?_; rintro e w1 ⟨rfl, rfl⟩)
    | (go_at_call 45; refine HWI.out.mono ?_; rintro e w2 ⟨rfl, hb⟩; replace hb := Lib.hid hb))
  go_ret
  exact ⟨rfl, hb.out⟩
end Go.Proofs.YtdmfbcfhfopipaaGreatDoor

/- Trimmed digits hang on the digits alone. -/
namespace Go.Proofs.YtdmfbcfhfopipaaGreatDoor
open Go.RowKit

theorem trimN_spec (l : List W32) (n : Nat) : (∀ i, trimN l n ≤ i → i < n → l.getD i 0 = 0) ∧ (0 < trimN l n → l.getD (trimN l n - 1) 0 ≠ 0) := by
  induction n with
  | zero => exact ⟨fun i _ h => by omega, fun h => by simp [trimN] at h⟩
  | succ n ih =>
    unfold trimN
    split
    · rename_i hz
      refine ⟨fun i h1 h2 => ?_, ih.2⟩
      by_cases e : i = n
      · rw [e]; exact hz
      · exact ih.1 i h1 (by omega)
    · rename_i hz
      exact ⟨fun i h1 h2 => by omega, fun _ => by simpa using hz⟩
theorem getD_past (l : List W32) (i : Nat) (h : l.length ≤ i) : l.getD i 0 = 0 := by
  simp [List.getD, List.getElem?_eq_none h]
theorem trim_ext {l l' : List W32} (h : ∀ i, l.getD i 0 = l'.getD i 0) : trimL l = trimL l' := by
  obtain ⟨a1, a2⟩ := trimN_spec l l.length
  obtain ⟨b1, b2⟩ := trimN_spec l' l'.length
  have la := trimN_le l l.length
  have lb := trimN_le l' l'.length
  have za : ∀ i, trimN l l.length ≤ i → l.getD i 0 = 0 := fun i hi => by
    by_cases hl : i < l.length
    · exact a1 i hi hl
    · exact getD_past l i (by omega)
  have zb : ∀ i, trimN l' l'.length ≤ i → l'.getD i 0 = 0 := fun i hi => by
    by_cases hl : i < l'.length
    · exact b1 i hi hl
    · exact getD_past l' i (by omega)
  have hT : trimN l l.length = trimN l' l'.length := by
    rcases Nat.lt_trichotomy (trimN l l.length) (trimN l' l'.length) with hlt | he | hlt
    · exact absurd ((h _).symm.trans (za (trimN l' l'.length - 1) (by omega))) (b2 (by omega))
    · exact he
    · exact absurd ((h _).trans (zb (trimN l l.length - 1) (by omega))) (a2 (by omega))
  unfold trimL
  rw [hT]
  rw [hT] at la
  generalize trimN l' l'.length = T at la lb
  apply List.ext_getElem
  · simp; omega
  · intro i h1 h2
    have hi := h i
    have e1 : i < l.length := by simp at h1; omega
    have e2 : i < l'.length := by simp at h2; omega
    simpa [List.getD, List.getElem?_eq_getElem e1, List.getElem?_eq_getElem e2] using hi
end Go.Proofs.YtdmfbcfhfopipaaGreatDoor

/- The digits of bytes, told from their end: the program's and the document's. -/
namespace Go.Proofs.YtdmfbcfhfopipaaGreatDoor
open Go.RowKit

/-- Byte k of a row, the last first; none behind its beginning. -/
def rb (l : List UInt8) (k : Nat) : Nat := if k < l.length then (l.getD (l.length - 1 - k) 0).toNat else 0
theorem rb_lt (l : List UInt8) (k : Nat) : rb l k < 256 := by
  unfold rb
  split
  · exact UInt8.toNat_lt _
  · omega
/-- Digit d, n of its four bytes taken. -/
def partN (l : List UInt8) (d : Nat) : Nat → Nat
  | 0 => 0
  | n + 1 => partN l d n * 256 + rb l (4 * d + 3 - n)
theorem partN_lt (l : List UInt8) (d n : Nat) : partN l d n < 2 ^ (8 * n) := by
  induction n with
  | zero => simp [partN]
  | succ n ih =>
    have := rb_lt l (4 * d + 3 - n)
    have e : 2 ^ (8 * (n + 1)) = 2 ^ (8 * n) * 256 := by rw [show 8 * (n + 1) = 8 * n + 8 by omega, Nat.pow_add]
    rw [partN, e]
    omega
theorem partN_zero (l : List UInt8) (d n : Nat) (h : l.length ≤ 4 * d + 4 - n) (hn : n ≤ 4) : partN l d n = 0 := by
  induction n with
  | zero => rfl
  | succ n ih =>
    rw [partN, ih (by omega) (by omega), rb, if_neg (by omega)]
theorem or_disjoint (y x a : Nat) (hx : x < 2 ^ 8) : (y * 2 ^ (8 * (a + 1))) ||| (x * 2 ^ (8 * a)) = (y * 256 + x) * 2 ^ (8 * a) := by
  have hb : x * 2 ^ (8 * a) < 2 ^ (8 * (a + 1)) := by
    rw [show 8 * (a + 1) = 8 + 8 * a by omega, Nat.pow_add]
    exact Nat.mul_lt_mul_of_pos_right hx (Nat.two_pow_pos _)
  have h := Nat.two_pow_add_eq_or_of_lt hb y
  rw [Nat.mul_comm y, ← h]
  rw [show 8 * (a + 1) = 8 * a + 8 by omega, Nat.pow_add, Nat.add_mul, Nat.mul_comm y 256, Nat.mul_assoc]
  congr 1
  exact Nat.mul_comm _ _
theorem set_getD (l : List W32) (i j : Nat) (x : W32) (hi : i < l.length) : (l.set i x).getD j 0 = if j = i then x else l.getD j 0 := by
  simp only [List.getD, List.getElem?_set]
  by_cases e : i = j
  · subst e; simp [hi]
  · rw [if_neg e, if_neg (fun h => e h.symm)]
theorem ofRun_part (l : List UInt8) : ∀ i, i ≤ l.length → ∀ d, 4 * d < l.length → ((ofRun l i).getD d 0).toNat = partN l d (4 - min 4 (l.length - 4 * d - i)) * 2 ^ (8 * min 4 (l.length - 4 * d - i)) := by
  intro i
  induction i with
  | zero =>
    intro _ d hd
    have hz : partN l d (4 - min 4 (l.length - 4 * d - 0)) = 0 := by
      by_cases h4 : 4 ≤ l.length - 4 * d - 0
      · rw [show 4 - min 4 (l.length - 4 * d - 0) = 0 by omega]; rfl
      · exact partN_zero l d _ (by omega) (by omega)
    rw [hz]
    simp [ofRun, List.getD, show d < (l.length + 3) / 4 by omega]
  | succ i ih =>
    intro hi d hd
    rw [ofRun, set_getD _ _ _ _ (by rw [ofRun_len]; omega)]
    by_cases e : d = (l.length - 1 - i) / 4
    · rw [if_pos e, ← e]
      have hs := ih (by omega) d hd
      generalize ha : (l.length - 1 - i) % 4 = a
      have h1 : min 4 (l.length - 4 * d - i) = a + 1 := by omega
      have h2 : min 4 (l.length - 4 * d - (i + 1)) = a := by omega
      rw [h1] at hs
      rw [h2]
      have ha4 : a < 4 := by omega
      have hrb : rb l (4 * d + 3 - (4 - (a + 1))) = (l.getD i 0).toNat := by
        rw [rb, if_pos (by omega), show l.length - 1 - (4 * d + 3 - (4 - (a + 1))) = i by omega]
      rw [show 4 - a = (4 - (a + 1)) + 1 by omega, partN, hrb]
      have hx := (l.getD i 0).toNat_lt
      have hp := partN_lt l d (4 - (a + 1))
      generalize (l.getD i 0).toNat = x at hx ⊢
      generalize partN l d (4 - (a + 1)) = y at hs hp ⊢
      rw [BitVec.toNat_or, hs, BitVec.toNat_shiftLeft, BitVec.toNat_ofNat, Nat.shiftLeft_eq]
      have hlt : x * 2 ^ (8 * a) < 2 ^ 32 := by
        refine Nat.lt_of_lt_of_le (Nat.mul_lt_mul_of_pos_right (show x < 2 ^ 8 by omega) (Nat.two_pow_pos _)) ?_
        rw [← Nat.pow_add]
        exact Nat.pow_le_pow_right (by omega) (by omega)
      rw [Nat.mod_eq_of_lt (show x < 2 ^ 32 by omega), Nat.mod_eq_of_lt hlt]
      exact or_disjoint y x a (by omega)
    · rw [if_neg e, ih (by omega) d hd]
      have h1 : min 4 (l.length - 4 * d - i) = min 4 (l.length - 4 * d - (i + 1)) := by omega
      rw [h1]
theorem ofRun_dig (l : List UInt8) (d : Nat) : ((ofRun l l.length).getD d 0).toNat = partN l d 4 := by
  by_cases h : 4 * d < l.length
  · have := ofRun_part l l.length (Nat.le_refl _) d h
    rw [this, show min 4 (l.length - 4 * d - l.length) = 0 by omega]
    simp
  · rw [partN_zero l d 4 (by omega) (by omega), getD_past _ _ (by rw [ofRun_len]; omega)]
    rfl
/-- The document's digits. -/
def docDigs (l : List UInt8) : List W32 := (List.range ((l.length + 3) / 4)).map fun d => BitVec.ofNat 32 (partN l d 4)
theorem docDigs_len (l : List UInt8) : (docDigs l).length = (l.length + 3) / 4 := by simp [docDigs]
theorem docDigs_dig (l : List UInt8) (d : Nat) : (docDigs l).getD d 0 = BitVec.ofNat 32 (partN l d 4) := by
  by_cases h : d < (l.length + 3) / 4
  · simp [docDigs, List.getD, h]
  · rw [getD_past _ _ (by rw [docDigs_len]; omega), partN_zero l d 4 (by omega) (by omega)]
    rfl
theorem strip_rb (l : List UInt8) (k : Nat) : rb (stripL l) k = rb l k := by
  unfold stripL
  induction l with
  | nil => rfl
  | cons a l ih =>
    unfold Lib.trimLeftB at *
    rw [List.dropWhile_cons]
    split
    · rename_i hz
      rw [ih]
      have ha : a = 0 := by simpa using hz
      subst ha
      unfold rb
      by_cases h : k < l.length
      · rw [if_pos h, if_pos (by simp; omega), List.length_cons, show l.length + 1 - 1 - k = (l.length - 1 - k) + 1 by omega]
        rfl
      · rw [if_neg h]
        split
        · rename_i h2
          rw [List.length_cons] at h2 ⊢
          rw [show l.length + 1 - 1 - k = 0 by omega]
          rfl
        · rfl
    · rfl
theorem strip_part (l : List UInt8) (d n : Nat) : partN (stripL l) d n = partN l d n := by
  induction n with
  | zero => rfl
  | succ n ih => rw [partN, partN, ih, strip_rb]
theorem doc_trim (l : List UInt8) : trimL (docDigs l) = numDigs l := by
  rw [numDigs]
  refine trim_ext fun d => ?_
  rw [docDigs_dig, ← strip_part, ← ofRun_dig]
  simp
end Go.Proofs.YtdmfbcfhfopipaaGreatDoor

/- The document's own numbers (its chapter 5): Of. -/
namespace Go.Proofs.YtdmfbcfhfopipaaGreatDoor
open Go.RowKit

/-- v holds these words, in a row of the call's own. -/
def OwnW (base : Nat) (v : Value) (l : List W32) (w : World) : Prop := w.ownsRow base 64 1 v l.length (l.map vw)
theorem OwnW.nil (base : Nat) (w : World) : OwnW base (.slice none 0 0) [] w := ⟨rfl, .inl ⟨rfl, rfl⟩⟩
theorem OwnW.digs {base : Nat} {v : Value} {l : List W32} {w : World} (h : OwnW base v l w) : ∃ A c, v = .slice A l.length c ∧ l.length ≤ c ∧ DigsAt base w A l := by
  rcases h.2 with ⟨rfl, h0⟩ | ⟨g, cap, cur, rfl, hb, hg, hn, _, hsz, htk⟩
  · obtain rfl : l = [] := List.eq_nil_of_length_eq_zero h0
    exact ⟨none, 0, rfl, Nat.le_refl _, .inl rfl⟩
  · refine ⟨some ⟨g, 0, none⟩, cap, rfl, hn, .inr ⟨g, rfl, hb, ?_, fun i hi => ?_⟩⟩
    · rcases Nat.lt_or_ge g w.heap.size with h | h
      · exact h
      · rw [Array.getElem?_eq_none h] at hg; cases hg
    · rw [cell_of_row w g i cur 64 (0, 0) hg]
      have e : cur.toList[i]? = (l.map vw)[i]? := by
        rw [← htk, List.getElem?_take, if_pos (by simpa using hi)]
      rw [← Array.getElem?_toList, e]
      simp [vw, List.getD, hi]
theorem ownW_append {ops : Array Oper} {rest : List Oper} {o : Oper} {a : Act} {Q : Exit → Act → World → Prop} {base : Nat} {v : Value} {l : List W32} {w0 W : World} (HO : OwnW base v l W) (HB : Below base w0 W) (hbase : base ≤ W.heap.size) (x : W32) (hl : l.length ≤ 1000000)
    (hgd : o.guard = none) (s y : Operand) (ho : o.op = .call { callee := .builtin .append, args := #[s, y], argTypes := #[43, 43] }) (cs : Array Value) (m c : Nat) (hs : a.eval s = v) (hx : a.eval y = .slice (some ⟨W.heap.size, 0, none⟩) m c) (hcs : cs = #[vw x]) (hm : m = 1)
    (h : ∀ v1 w1, OwnW base v1 (l ++ [x]) w1 → Below base w0 w1 → base ≤ w1.heap.size → wpList Tryz.prog ops Q rest (a.put o.dst v1) w1) : wpList Tryz.prog ops Q (o :: rest) a (W.alloc (.cells cs 64)) := by
  subst hcs hm
  refine own_append base _ hgd s y 43 64 (.int .u32 0) 4 ho Tryz.underlying43 info_u32 rfl v (l.map vw) 1 c hs hx (by simp) (by intro u hu; simp at hu; subst hu; rfl) (by simpa [OwnW] using HO) HB hbase (by omega) (by simp; omega) ?_
  intro v1 w1 h1 h2 h3
  exact h v1 w1 (by simpa [OwnW] using h1) h2 h3
theorem docDigs_take (l : List UInt8) (i : Nat) (h : i < (l.length + 3) / 4) : (docDigs l).take (i + 1) = (docDigs l).take i ++ [BitVec.ofNat 32 (partN l i 4)] := by
  rw [List.take_succ_eq_append_getElem (by rw [docDigs_len]; exact h)]
  simp [docDigs]
theorem bitsL_le (l : List W32) (n : Nat) (h : l.length ≤ n) : bitsL l ≤ 32 * (n : Int) := by
  obtain ⟨B, hB, hBl⟩ := bitsL_nat l
  omega

set_option maxRecDepth 100000 in
set_option maxHeartbeats 400000 in
theorem ref_of5 (l : List UInt8) (w : World) (hs : l.length ≤ 512) :
    Calls Tryz.prog 41 #[.string (bs l)] w fun e w' => Below w.heap.size w w' ∧ ∃ A c, e = .returned (.tuple #[.slice A (numDigs l).length c, .int .i64 0]) ∧ (numDigs l).length ≤ c ∧ DigsAt w.heap.size w' A (numDigs l) := by
  have hsz := bs_size l
  have hD : (docDigs l).length = (l.length + 3) / 4 := docDigs_len l
  have hN := doc_trim l
  generalize numDigs l = N at hN ⊢
  have HD := Lib.hid hD; have HN := Lib.hid hN
  clear hD hN
  go_enter Tryz.func41, Tryz.ntmps41
  go_wp2_with fail
  go_loopw [4, 5] (fun v z wr => ∃ (i : Nat) (zi : Int), i ≤ (l.length + 3) / 4 ∧ z = .int .i64 zi ∧ Hid (zi = (l.length : Int) - 4 * (i : Int)) ∧ Hid (OwnW w.heap.size v ((docDigs l).take i) wr ∧ Below w.heap.size w wr ∧ w.heap.size ≤ wr.heap.size)) (fun _ z _ => (intOf z + 4).toNat)
  case atStart => exact ⟨0, l.length, Nat.zero_le _, rfl, Lib.hid (by omega), Lib.hid ⟨OwnW.nil _ _, Below.refl _ _, Nat.le_refl _⟩⟩
  case round =>
    obtain ⟨i, zi, hi, rfl, hz, hS⟩ := hrel
    by_cases hlt : i < (l.length + 3) / 4
    · obtain ⟨k, rfl⟩ : ∃ k : Nat, zi = (k : Int) := ⟨zi.toNat, by have := hz.out; omega⟩
      have hk0 : decide (0 < k) = true := by have := hz.out; exact decide_eq_true (by omega)
      have hkl : (k : Int) ≤ 512 := by have := hz.out; omega
      have hkl2 : (k : Int) ≤ (l.length : Int) := by have := hz.out; omega
      obtain ⟨j0, hj0, hj0e⟩ : ∃ j0 : Nat, max (0 : Int) ((k : Int) - 4) = (j0 : Int) ∧ j0 = k - 4 := ⟨k - 4, by omega, rfl⟩
      have hp0 : partN l i (4 + j0 - k) = 0 := by
        by_cases h4 : 4 ≤ k
        · rw [show 4 + j0 - k = 0 by omega]; rfl
        · have := hz.out; exact partN_zero l i _ (by omega) (by omega)
      have HJ := Lib.hid hj0e; have HI := Lib.hid hi; have HLT := Lib.hid hlt; have HP0 := Lib.hid hp0
      clear hj0e hi hlt hp0
      repeat (first | (fail) | go_values | go_skip | go_guarded | go_step | go_upon | go_back)
      go_loopw [6, 7] (fun d z wi => ∃ (n j E : Nat), d = .int .u32 (E : Int) ∧ z = .int .i64 j ∧ Hid (E = partN l i n) ∧ j ≤ k ∧ Hid (j + 4 = k + n ∧ n ≤ 4) ∧ Hid (wi = wr)) (fun _ z _ => k - (intOf z).toNat)
      case atStart =>
        refine ⟨4 + j0 - k, j0, 0, rfl, rfl, Lib.hid HP0.out.symm, by have := HJ.out; omega, Lib.hid (by have := HJ.out; omega), Lib.hid rfl⟩
      case round =>
        obtain ⟨n, j, E, rfl, rfl, hE, hj, hn, hw⟩ := hrel
        by_cases hjk : j < k
        · have hn3 : n ≤ 3 := by have := hn.out; omega
          have hx : ∀ h, (bs l)[j]'h = l.getD j 0 := fun h => bs_get _ _ h
          have hrb : rb l (4 * i + 3 - n) = (l.getD j 0).toNat := by
            have h1 := hz.out; have h2 := hn.out
            rw [rb, if_pos (by omega), show l.length - 1 - (4 * i + 3 - n) = j by omega]
          have hEl : (E : Int) < 16777216 := by
            have h1 := partN_lt l i n
            rw [← hE.out] at h1
            have h2 : 2 ^ (8 * n) ≤ 2 ^ 24 := Nat.pow_le_pow_right (by omega) (by omega)
            omega
          have hnx : partN l i (n + 1) = E * 256 + (l.getD j 0).toNat := by rw [partN, hrb, ← hE.out]
          have hxl := (l.getD j 0).toNat_lt
          have hjl : (j : Int) < (l.length : Int) := by omega
          have hjki : (j : Int) < (k : Int) := by omega
          generalize l.getD j 0 = x at hx hnx hxl
          have HNX := Lib.hid hnx
          clear hnx hrb hE
          repeat (first | (fail) | go_values | go_skip | go_guarded | go_step | go_upon | go_back)
          go_roundw
          case rel => exact ⟨n + 1, j + 1, E * 256 + x.toNat, by go_num, by go_num, Lib.hid HNX.out.symm, by omega, Lib.hid (by have := hn.out; omega), hw⟩
          case measure => simp [intOf]; omega
        · obtain rfl : j = k := by omega
          obtain rfl : n = 4 := by have := hn.out; omega
          have hw' := hw.out
          subst hw'
          have hEl : E < 4294967296 := by
            have h1 := partN_lt l i 4
            rw [← hE.out] at h1
            omega
          obtain ⟨x, hx, hxe⟩ : ∃ x : W32, (E : Int) = wd x ∧ x = BitVec.ofNat 32 E := ⟨BitVec.ofNat 32 E, by simp [wd]; omega, rfl⟩
          have hnx : (docDigs l).take (i + 1) = (docDigs l).take i ++ [x] := by rw [docDigs_take l i HLT.out, hxe, hE.out]
          have hjj : ¬ ((j : Int) < (j : Int)) := by omega
          have HNX := Lib.hid hnx
          have hlen : ((docDigs l).take i).length ≤ 1000000 := by
            have := HD.out; rw [List.length_take]; omega
          have HL := Lib.hid hlen
          rw [hx]
          clear hx hxe hE hnx hlen hEl hw hn hj
          repeat (first | ((at_builtin; go_loud (refine ownW_append hS.out.1 hS.out.2.1 hS.out.2.2 x HL.out rfl _ _ rfl _ 1 1 rfl rfl rfl rfl ?_); refine Lib.hid ?_)) | go_values | go_skip | go_guarded | go_step | go_upon | go_back)
          intro v1 w1 a1 a2 a3
          rw [← HNX.out] at a1
          have A1 := Lib.hid (And.intro a1 (And.intro a2 a3))
          clear a1 a2 a3 hS
          repeat (first | (fail) | go_values | go_skip | go_guarded | go_step | go_upon | go_back)
          go_roundw
          case rel => exact ⟨i + 1, (j : Int) - 4, HLT.out, rfl, Lib.hid (by have := hz.out; omega), A1⟩
          case measure => simp [intOf]; omega
    · obtain rfl : i = (l.length + 3) / 4 := by omega
      have hz0 : ¬ (0 < zi) := by have := hz.out; omega
      obtain ⟨hO, hB, hle⟩ := hS.out
      rw [List.take_of_length_le (by rw [HD.out]; exact Nat.le_refl _)] at hO
      obtain ⟨A, c, rfl, hc, hA⟩ := hO.digs
      have hdl : (docDigs l).length ≤ 128 := by have := HD.out; omega
      have htr := ref_trim A c (docDigs l) wr hc (by omega) w.heap.size hA
      have hlN := trimL_len (docDigs l)
      have hle2 := trimN_le (docDigs l) (docDigs l).length
      have hAN : DigsAt w.heap.size wr A N := by rw [← HN.out, trimL]; exact hA.take _
      rw [HN.out] at hlN
      rw [← hlN] at htr hle2
      have hbi := ref_bits A c N wr (by omega) (by omega) w.heap.size hAN
      have hb4 := bitsL_le N 128 (by omega)
      generalize bitsL N = b at hbi hb4
      have hb5 : ¬ ((4096 : Int) < b) := by omega
      have HT := Lib.hid htr; have HBI := Lib.hid hbi; have HA := Lib.hid hAN; have HB := Lib.hid hB
      have HC := Lib.hid (Nat.le_trans hle2 hc)
      clear htr hbi hAN hA hB hle2 hlN hc hdl hb4 hS hO hle hz hi hlt
      repeat (first | (go_at_call 77; refine HT.out.mono ?_; rintro e w1 ⟨rfl, rfl⟩; simp only []) | (go_at_call 21; refine HBI.out.mono ?_; rintro e w2 ⟨rfl, rfl⟩; simp only []) | go_values | go_skip | go_guarded | go_step | go_upon | go_back)
      go_ret2
      exact ⟨HB.out, A, c, rfl, HC.out, HA.out⟩
end Go.Proofs.YtdmfbcfhfopipaaGreatDoor

/- The number that digits of 32 bits tell, the least first; a number's own digits. -/
namespace Go.Proofs.YtdmfbcfhfopipaaGreatDoor
open Go.RowKit

/-- The number that digits tell. -/
def va : List W32 → Nat
  | [] => 0
  | x :: l => x.toNat + 4294967296 * va l
theorem va_append (a b : List W32) : va (a ++ b) = va a + 4294967296 ^ a.length * va b := by
  induction a with
  | nil => simp [va]
  | cons x a ih =>
    rw [List.cons_append, va, va, ih, List.length_cons, Nat.pow_succ, Nat.mul_add, ← Nat.mul_assoc, Nat.mul_comm 4294967296 (4294967296 ^ a.length)]
    omega
theorem va_lt (l : List W32) : va l < 4294967296 ^ l.length := by
  induction l with
  | nil => simp [va]
  | cons x l ih =>
    have hx : x.toNat < 4294967296 := x.isLt
    rw [va, List.length_cons, Nat.pow_succ]
    omega
theorem va_zero (n : Nat) : va (List.replicate n 0) = 0 := by
  induction n with
  | zero => rfl
  | succ n ih => rw [List.replicate_succ, va, ih]; rfl
theorem va_take (l : List W32) (i : Nat) (h : i < l.length) : va (l.take (i + 1)) = va (l.take i) + 4294967296 ^ i * (l.getD i 0).toNat := by
  rw [List.take_succ_eq_append_getElem h, va_append, List.length_take, Nat.min_eq_left (by omega)]
  simp [va, List.getD, h]
theorem va_split (l : List W32) (i : Nat) (h : i ≤ l.length) : va l = va (l.take i) + 4294967296 ^ i * va (l.drop i) := by
  conv => lhs; rw [← List.take_append_drop i l]
  rw [va_append, List.length_take, Nat.min_eq_left h]
theorem va_drop (l : List W32) (i : Nat) (h : i < l.length) : va (l.drop i) = (l.getD i 0).toNat + 4294967296 * va (l.drop (i + 1)) := by
  rw [List.drop_eq_getElem_cons h, va]
  simp [List.getD, h]
theorem va_set (l : List W32) (i : Nat) (x : W32) (h : i < l.length) : va (l.set i x) + 4294967296 ^ i * (l.getD i 0).toNat = va l + 4294967296 ^ i * x.toNat := by
  induction l generalizing i with
  | nil => simp at h
  | cons y l ih =>
    cases i with
    | zero => simp [va, List.getD]; omega
    | succ i =>
      have := ih i (by simpa using h)
      rw [List.set_cons_succ, va, va, List.getD_cons_succ, Nat.pow_succ]
      rw [Nat.mul_comm (4294967296 ^ i) 4294967296, Nat.mul_assoc, Nat.mul_assoc]
      omega
theorem ofNat_toNat (x : W32) (y : Nat) : BitVec.ofNat 32 (x.toNat + 4294967296 * y) = x := by
  apply BitVec.eq_of_toNat_eq
  have hx : x.toNat < 4294967296 := x.isLt
  rw [BitVec.toNat_ofNat]
  omega
theorem va_dig (l : List W32) (i : Nat) : l.getD i 0 = BitVec.ofNat 32 (va l / 4294967296 ^ i) := by
  induction l generalizing i with
  | nil => simp [va]
  | cons x l ih =>
    cases i with
    | zero => rw [va, Nat.pow_zero, Nat.div_one, ofNat_toNat]; rfl
    | succ i =>
      rw [List.getD_cons_succ, ih i, va, Nat.pow_succ, Nat.mul_comm _ 4294967296, ← Nat.div_div_eq_div_mul]
      have hx : x.toNat < 4294967296 := x.isLt
      rw [show (x.toNat + 4294967296 * va l) / 4294967296 = va l by omega]
/-- A number's digits. -/
def nd (n : Nat) : List W32 := if h : n = 0 then [] else BitVec.ofNat 32 n :: nd (n / 4294967296)
termination_by n
decreasing_by omega
theorem nd_zero : nd 0 = [] := by rw [nd]; simp
theorem nd_pos {n : Nat} (h : n ≠ 0) : nd n = BitVec.ofNat 32 n :: nd (n / 4294967296) := by rw [nd, dif_neg h]
theorem va_nd (n : Nat) : va (nd n) = n := by
  induction n using Nat.strongRecOn with
  | _ n ih =>
    by_cases h : n = 0
    · subst h; rw [nd_zero]; rfl
    · rw [nd_pos h, va, ih _ (by omega), BitVec.toNat_ofNat]; omega
theorem nd_last (n : Nat) (h : n ≠ 0) : 0 < (nd n).length ∧ (nd n).getD ((nd n).length - 1) 0 ≠ 0 := by
  induction n using Nat.strongRecOn with
  | _ n ih =>
    rw [nd_pos h]
    by_cases h2 : n / 4294967296 = 0
    · rw [h2, nd_zero]
      refine ⟨by simp, fun h3 => ?_⟩
      have h4 : BitVec.ofNat 32 n = 0 := by simpa using h3
      have h5 := congrArg BitVec.toNat h4
      rw [BitVec.toNat_ofNat] at h5
      simp at h5
      omega
    · have h3 := ih _ (by omega) h2
      refine ⟨by simp, ?_⟩
      rw [List.length_cons, show (nd (n / 4294967296)).length + 1 - 1 = ((nd (n / 4294967296)).length - 1) + 1 by omega, List.getD_cons_succ]
      exact h3.2
theorem trimN_last (l : List W32) (h : 0 < l.length) (hl : l.getD (l.length - 1) 0 ≠ 0) : trimN l l.length = l.length := by
  obtain ⟨n, hn⟩ : ∃ n, l.length = n + 1 := ⟨l.length - 1, by omega⟩
  rw [hn] at hl ⊢
  rw [Nat.add_sub_cancel] at hl
  rw [trimN, if_neg hl]
theorem trim_nd (n : Nat) : trimL (nd n) = nd n := by
  by_cases h : n = 0
  · subst h; rw [nd_zero]; rfl
  · obtain ⟨h1, h2⟩ := nd_last n h
    rw [trimL, trimN_last _ h1 h2, List.take_length]
theorem nd_va (l : List W32) : nd (va l) = trimL l := by
  rw [← trim_nd]
  refine trim_ext fun i => ?_
  rw [va_dig (nd (va l)), va_nd, ← va_dig]
theorem va_trim (l : List W32) : va (trimL l) = va l := by rw [← nd_va, va_nd]
theorem nd_dig (n i : Nat) : (nd n).getD i 0 = BitVec.ofNat 32 (n / 4294967296 ^ i) := by rw [va_dig, va_nd]
theorem nd_low (n : Nat) (h : n ≠ 0) : 4294967296 ^ ((nd n).length - 1) ≤ n := by
  obtain ⟨h1, h2⟩ := nd_last n h
  obtain ⟨k, hk⟩ : ∃ k, (nd n).length = k + 1 := ⟨(nd n).length - 1, by omega⟩
  rw [hk, Nat.add_sub_cancel] at h2
  rw [hk, Nat.add_sub_cancel]
  rw [nd_dig] at h2
  have : n / 4294967296 ^ k ≠ 0 := fun h3 => h2 (by rw [h3]; rfl)
  have := (Nat.div_ne_zero_iff.mp this).2
  exact this
theorem nd_high (n : Nat) : n < 4294967296 ^ (nd n).length := by
  have := va_lt (nd n)
  rwa [va_nd] at this
theorem nd_len_le (n k : Nat) (h : n < 4294967296 ^ k) : (nd n).length ≤ k := by
  by_cases h0 : n = 0
  · subst h0; rw [nd_zero]; exact Nat.zero_le _
  · have h1 := nd_low n h0
    have h2 := (nd_last n h0).1
    have h3 : 4294967296 ^ ((nd n).length - 1) < 4294967296 ^ k := Nat.lt_of_le_of_lt h1 h
    have := (Nat.pow_lt_pow_iff_right (by omega : 1 < 4294967296)).mp h3
    omega
theorem nd_len_mono {m n : Nat} (h : m ≤ n) : (nd m).length ≤ (nd n).length := nd_len_le _ _ (Nat.lt_of_le_of_lt h (nd_high n))
theorem nd_len_mul (m n : Nat) : (nd (m * n)).length ≤ (nd m).length + (nd n).length := by
  refine nd_len_le _ _ ?_
  rw [Nat.pow_add]
  exact Nat.mul_lt_mul_of_lt_of_lt (nd_high m) (nd_high n)
theorem nd_nil {n : Nat} : nd n = [] ↔ n = 0 := by
  constructor
  · intro h
    have := va_nd n
    rw [h] at this
    exact this.symm
  · rintro rfl; exact nd_zero
theorem nd_inj {m n : Nat} (h : nd m = nd n) : m = n := by rw [← va_nd m, h, va_nd]
end Go.Proofs.YtdmfbcfhfopipaaGreatDoor

/- The laws of products, shifts and powers, digit by digit. -/
namespace Go.Proofs.YtdmfbcfhfopipaaGreatDoor
theorem mul_step {A c P M Z x y o : Nat} (h : A + c * P = Z + M) (A' t lo hi : Nat) (ht : t = x * y + o + c) (hlo : t = lo + 4294967296 * hi) (hA : A' + P * o = A + P * lo) : A' + hi * (P * 4294967296) = Z + (M + x * y * P) := by
  have e1 : P * t = x * y * P + P * o + c * P := by rw [ht]; grind
  have e2 : P * t = P * lo + hi * (P * 4294967296) := by rw [hlo]; grind
  omega
/-- Digit i, and what is above. -/
theorem div_split (x i : Nat) : x / 4294967296 ^ i = x / 4294967296 ^ i % 4294967296 + 4294967296 * (x / 4294967296 ^ (i + 1)) := by
  rw [Nat.pow_succ, ← Nat.div_div_eq_div_mul]
  omega
theorem shr_dig (W i b : Nat) (hb : b < 32) : W / 2 ^ b / 4294967296 ^ i % 4294967296 = ((W / 4294967296 ^ i % 4294967296 + W / 4294967296 ^ (i + 1) % 4294967296 * 4294967296) / 2 ^ b) % 4294967296 := by
  rw [Nat.div_div_eq_div_mul, Nat.mul_comm, ← Nat.div_div_eq_div_mul]
  have h1 := div_split W i
  generalize W / 4294967296 ^ (i + 1) = Y at *
  generalize W / 4294967296 ^ i = X at *
  have hk : 2 ^ b * 2 ^ (32 - b) = 4294967296 := by rw [← Nat.pow_add, show b + (32 - b) = 32 by omega]
  have hp : 0 < 2 ^ b := Nat.two_pow_pos b
  generalize 2 ^ b = k at *
  generalize 2 ^ (32 - b) = m at *
  have e : X = (X % 4294967296 + Y % 4294967296 * 4294967296) + k * (m * (4294967296 * (Y / 4294967296))) := by
    rw [← Nat.mul_assoc, hk]
    omega
  conv => lhs; rw [e, Nat.add_mul_div_left _ _ hp]
  rw [show m * (4294967296 * (Y / 4294967296)) = 4294967296 * (m * (Y / 4294967296)) by grind, Nat.add_mul_mod_self_left]
theorem bit_dig (e k : Nat) : (e / 4294967296 ^ (k / 32) % 4294967296) / 2 ^ (k % 32) % 2 = e / 2 ^ k % 2 := by
  have h1 : (4294967296 : Nat) ^ (k / 32) = 2 ^ (32 * (k / 32)) := by rw [Nat.pow_mul]
  have h2 : 2 ^ k = 2 ^ (32 * (k / 32)) * 2 ^ (k % 32) := by rw [← Nat.pow_add]; congr 1; omega
  rw [h1, h2, ← Nat.div_div_eq_div_mul]
  generalize e / 2 ^ (32 * (k / 32)) = X
  have hk : 2 ^ (k % 32) * (2 * 2 ^ (31 - k % 32)) = 4294967296 := by
    rw [show (2 : Nat) * 2 ^ (31 - k % 32) = 2 ^ (1 + (31 - k % 32)) by rw [Nat.pow_add], ← Nat.pow_add, show k % 32 + (1 + (31 - k % 32)) = 32 by omega]
  have hp : 0 < 2 ^ (k % 32) := Nat.two_pow_pos _
  generalize 2 ^ (k % 32) = a at *
  generalize 2 ^ (31 - k % 32) = m at *
  have e : X = X % 4294967296 + a * (2 * (m * (X / 4294967296))) := by
    rw [show a * (2 * (m * (X / 4294967296))) = (a * (2 * m)) * (X / 4294967296) by grind, hk]
    omega
  conv => rhs; rw [e, Nat.add_mul_div_left _ _ hp]
  omega
theorem pow_low (s e k n : Nat) : s ^ (e % 2 ^ (k + 1)) % n = if e / 2 ^ k % 2 = 1 then (s ^ (e % 2 ^ k) % n) * (s ^ 2 ^ k % n) % n else s ^ (e % 2 ^ k) % n := by
  have h : e % 2 ^ (k + 1) = e % 2 ^ k + 2 ^ k * (e / 2 ^ k % 2) := by rw [Nat.pow_succ, Nat.mod_mul]
  rw [h]
  split
  · rename_i h1
    rw [h1, Nat.mul_one, Nat.pow_add, Nat.mul_mod]
  · rename_i h1
    rw [show e / 2 ^ k % 2 = 0 by omega, Nat.mul_zero, Nat.add_zero]
theorem pow_two (s k n : Nat) : s ^ 2 ^ (k + 1) % n = (s ^ 2 ^ k % n) * (s ^ 2 ^ k % n) % n := by
  rw [Nat.pow_succ, Nat.pow_mul, Nat.pow_two, Nat.mul_mod]
theorem pow_high (s e k n : Nat) : s ^ (e / 2 ^ k) % n = if e / 2 ^ k % 2 = 1 then ((s ^ (e / 2 ^ (k + 1)) % n) * (s ^ (e / 2 ^ (k + 1)) % n) % n) * (s % n) % n else (s ^ (e / 2 ^ (k + 1)) % n) * (s ^ (e / 2 ^ (k + 1)) % n) % n := by
  have h : e / 2 ^ k = 2 * (e / 2 ^ (k + 1)) + e / 2 ^ k % 2 := by rw [Nat.pow_succ, ← Nat.div_div_eq_div_mul]; omega
  generalize hz : e / 2 ^ k % 2 = z at h
  have hz2 : z < 2 := by omega
  generalize e / 2 ^ (k + 1) = y at *
  rw [h, Nat.pow_add, Nat.mul_comm 2 y, Nat.pow_mul, Nat.pow_two]
  split
  · rename_i h1
    rw [h1, Nat.pow_one, Nat.mul_mod (s ^ y * s ^ y) s, ← Nat.mul_mod (s ^ y) (s ^ y)]
  · rw [show z = 0 by omega, Nat.pow_zero, Nat.mul_one, ← Nat.mul_mod]
/-- Shifted up: one digit more. -/
theorem shl_step {A A' P x k d : Nat} (h : A = x * k) (hA : A' = A + P * (d * k % 4294967296) + P * 4294967296 * (d * k / 4294967296)) : A' = (x + P * d) * k := by
  have e : P * (d * k) = P * (d * k % 4294967296) + P * 4294967296 * (d * k / 4294967296) := by
    rw [Nat.mul_assoc, ← Nat.mul_add, Nat.mod_add_div]
  rw [hA, h, Nat.add_mul, Nat.mul_assoc P d k, e]
  omega
theorem nd_digN (x j : Nat) : ((nd x).getD j 0).toNat = x / 4294967296 ^ j % 4294967296 := by rw [nd_dig, BitVec.toNat_ofNat]
theorem dig_eq {x y j : Nat} (h : x / 4294967296 ^ (j + 1) = y / 4294967296 ^ (j + 1)) (hd : (nd x).getD j 0 = (nd y).getD j 0) : x / 4294967296 ^ j = y / 4294967296 ^ j := by
  have h1 := congrArg BitVec.toNat hd
  rw [nd_digN, nd_digN] at h1
  rw [div_split x j, div_split y j, h1, h]
theorem dig_lt {x y j : Nat} (h : x / 4294967296 ^ (j + 1) = y / 4294967296 ^ (j + 1)) (hd : ((nd x).getD j 0).toNat < ((nd y).getD j 0).toNat) : x < y := by
  rw [nd_digN, nd_digN] at hd
  refine Nat.lt_of_not_le fun hle => ?_
  have h1 : y / 4294967296 ^ j ≤ x / 4294967296 ^ j := Nat.div_le_div_right hle
  have hx := div_split x j
  have hy := div_split y j
  rw [h] at hx
  omega
theorem len_lt {x y : Nat} (h : (nd x).length < (nd y).length) : x < y := by
  refine Nat.lt_of_not_le fun hle => ?_
  have := nd_len_mono hle
  omega
theorem top_eq {x y : Nat} (h : (nd x).length = (nd y).length) : x / 4294967296 ^ (nd x).length = y / 4294967296 ^ (nd x).length := by
  rw [Nat.div_eq_of_lt (nd_high x), Nat.div_eq_of_lt (by rw [h]; exact nd_high y)]
/-- Which of two numbers is less. -/
def cmpI (x y : Nat) : Int := if x < y then -1 else if x = y then 0 else 1
theorem cmpI_lt {x y : Nat} (h : x < y) : cmpI x y = -1 := by rw [cmpI, if_pos h]
theorem cmpI_gt {x y : Nat} (h : y < x) : cmpI x y = 1 := by rw [cmpI, if_neg (by omega), if_neg (by omega)]
theorem cmpI_eq (x : Nat) : cmpI x x = 0 := by rw [cmpI, if_neg (by omega), if_pos rfl]
theorem cmpI_neg {x y : Nat} : cmpI x y < 0 ↔ x < y := by unfold cmpI; split <;> (try split) <;> omega
theorem cmpI_nonneg {x y : Nat} : 0 ≤ cmpI x y ↔ y ≤ x := by unfold cmpI; split <;> (try split) <;> omega
theorem cmpI_zero {x y : Nat} : cmpI x y = 0 ↔ x = y := by unfold cmpI; split <;> (try split) <;> omega
end Go.Proofs.YtdmfbcfhfopipaaGreatDoor

/- Digits in memory, as numbers. -/
namespace Go.Proofs.YtdmfbcfhfopipaaGreatDoor
open Go.RowKit

/-- A slice of these digits, in a row from lo on. -/
def SlV (lo : Nat) (w : World) (v : Value) (l : List W32) : Prop := ∃ A c, v = .slice A l.length c ∧ l.length ≤ c ∧ DigsAt lo w A l
theorem SlV.below {lo : Nat} {w w' : World} {v : Value} {l : List W32} (h : SlV lo w v l) (hb : Below w.heap.size w w') : SlV lo w' v l := by
  obtain ⟨A, c, h1, h2, h3⟩ := h
  exact ⟨A, c, h1, h2, h3.below hb⟩
theorem SlV.mono {lo lo' : Nat} {w : World} {v : Value} {l : List W32} (h : SlV lo w v l) (hl : lo' ≤ lo) : SlV lo' w v l := by
  obtain ⟨A, c, h1, h2, h3⟩ := h
  exact ⟨A, c, h1, h2, h3.mono hl⟩
theorem DigsAt.cells {lo : Nat} {w : World} {A : Option Addr} {l : List W32} (h : DigsAt lo w A l) (h0 : 0 < l.length) : ∃ b, A = some ⟨b, 0, none⟩ ∧ lo ≤ b ∧ b < w.heap.size ∧ ∀ i, i < l.length → w.cell? ⟨b, i, none⟩ = some (.int .u32 ((l.getD i 0).toNat : Int)) := by
  rcases h with h | h
  · subst h; simp at h0
  · exact h
theorem blk_digs {w : World} {g lo : Nat} {l : List W32} {t : TypeId} (h : Blk w g (encW l) t) (hl : lo ≤ g) : DigsAt lo w (some ⟨g, 0, none⟩) l :=
  .inr ⟨g, rfl, hl, h.lt, fun i hi => by rw [h.cell i, encW_get l i hi]⟩
theorem len_va (l : List W32) : (nd (va l)).length = trimN l l.length := by rw [nd_va, trimL_len]
theorem len_va_le (l : List W32) : (nd (va l)).length ≤ l.length := by rw [len_va]; exact trimN_le _ _
theorem DigsAt.trim {lo : Nat} {w : World} {A : Option Addr} {l : List W32} (h : DigsAt lo w A l) : DigsAt lo w A (nd (va l)) := by rw [nd_va]; exact h.take _
theorem ref_trim_va (A : Option Addr) (c : Nat) (l : List W32) (w : World) (hc : l.length ≤ c) (hl : l.length ≤ 1000000) (lo : Nat) (hA : DigsAt lo w A l) :
    Calls Tryz.prog 77 #[.slice A l.length c] w fun e w' => e = .returned (.slice A (nd (va l)).length c) ∧ w = w' := by
  rw [len_va]; exact ref_trim A c l w hc hl lo hA
theorem nat_trim_va (A : Option Addr) (c : Nat) (l : List W32) (w : World) (hc : l.length ≤ c) (hcm : c ≤ 9223372036854775807) (lo : Nat) (hA : DigsAt lo w A l) :
    Calls Tryz.prog 53 #[.slice A l.length c] w fun e w' => e = .returned (.agg #[.slice A (nd (va l)).length c]) ∧ Below w.heap.size w w' := by
  rw [len_va]; exact trim_any A c l w hc hcm lo hA
/-- A cell that is set, and the row's digits. -/
theorem cell_set {w : World} {g : Nat} {l : List W32} {t : TypeId} (h : Blk w g (encW l) t) (i : Nat) (x : Nat) (hx : x < 4294967296) : Blk (w.setCell ⟨g, i, none⟩ (.int .u32 (x : Int))) g (encW (l.set i (BitVec.ofNat 32 x))) t := by
  have e := encW_set l i (BitVec.ofNat 32 x)
  rw [wd_lit x hx] at e
  rw [← e]
  exact h.set i _
theorem cell_get {w : World} {g : Nat} {l : List W32} {t : TypeId} (h : Blk w g (encW l) t) (i : Nat) (hi : i < l.length) : w.cell? ⟨g, i, none⟩ = some (.int .u32 ((l.getD i 0).toNat : Int)) := by
  rw [h.cell i, encW_get l i hi]; rfl
theorem below_drew {base : Nat} {w W : World} (h : Below base w W) (n : Nat) : Below base w (W.drewN n) := ⟨h.os, h.tape, h.output, h.size, h.block⟩
theorem blk_drew {W : World} {g : Nat} {cs : Array Value} {t : TypeId} (h : Blk W g cs t) (n : Nat) : Blk (W.drewN n) g cs t := h
theorem toNat_lt32 (x : W32) : x.toNat < 4294967296 := x.isLt
theorem va_set_nat (l : List W32) (i x : Nat) (hi : i < l.length) (hx : x < 4294967296) : va (l.set i (BitVec.ofNat 32 x)) + 4294967296 ^ i * (l.getD i 0).toNat = va l + 4294967296 ^ i * x := by
  have := va_set l i (BitVec.ofNat 32 x) hi
  rwa [BitVec.toNat_ofNat, Nat.mod_eq_of_lt (show x < 2 ^ 32 from hx)] at this
/-- A digit above the number is 0. -/
theorem dig_past (l : List W32) (i : Nat) (h : va l < 4294967296 ^ i) : l.getD i 0 = 0 := by
  rw [va_dig, Nat.div_eq_of_lt h]; rfl
end Go.Proofs.YtdmfbcfhfopipaaGreatDoor

/- The document's own public keys (its chapter 6): Rsa. -/
namespace Go.Proofs.YtdmfbcfhfopipaaGreatDoor
open Go.RowKit

/-- What the document's Rsa tells. -/
def RefRsaPost (p : List UInt8) (w : World) (e : Ending) (w' : World) : Prop :=
  Below w.heap.size w w' ∧ match rsaOf p with
    | none => e = .returned (.tuple #[.slice none 0 0, .slice none 0 0, .bool false])
    | some (x, y) => ∃ A c B d, e = .returned (.tuple #[.slice A (numDigs x).length c, .slice B (numDigs y).length d, .bool true]) ∧ (numDigs x).length ≤ c ∧ (numDigs y).length ≤ d ∧ DigsAt w.heap.size w' A (numDigs x) ∧ DigsAt w.heap.size w' B (numDigs y)

theorem post_none {p : List UInt8} {w w' : World} {e : Ending} (h : rsaOf p = none) (hB : Below w.heap.size w w') (he : e = .returned (.tuple #[.slice none 0 0, .slice none 0 0, .bool false])) : RefRsaPost p w e w' := by
  refine ⟨hB, ?_⟩
  rw [h]; exact he
theorem post_some {p x y : List UInt8} {w w' : World} {e : Ending} {A B : Option Addr} {c d : Nat} (h : rsaOf p = some (x, y)) (hB : Below w.heap.size w w') (he : e = .returned (.tuple #[.slice A (numDigs x).length c, .slice B (numDigs y).length d, .bool true]))
    (h1 : (numDigs x).length ≤ c) (h2 : (numDigs y).length ≤ d) (h3 : DigsAt w.heap.size w' A (numDigs x)) (h4 : DigsAt w.heap.size w' B (numDigs y)) : RefRsaPost p w e w' := by
  refine ⟨hB, ?_⟩
  rw [h]; exact ⟨A, c, B, d, he, h1, h2, h3, h4⟩

set_option maxRecDepth 100000 in
set_option maxHeartbeats 2000000 in
theorem ref_rsa_one (p : List UInt8) (w : World) (hp : 0 < p.length) (hm : p.length ≤ 9223372036854775807) (h0 : (p.getD 0 0).toNat ≠ 0) : Calls Tryz.prog 19 #[.string (bs p)] w (RefRsaPost p w) := by
  have hof : rsaOf p = if rsaOk (p.getD 0 0).toNat (p.drop 1) then some ((p.drop 1).take (p.getD 0 0).toNat, (p.drop 1).drop (p.getD 0 0).toNat) else none := by
    rw [rsaOf, rsaSplit, if_neg (by omega), if_neg h0]
  have hg0 : ∀ h, (bs p)[0]'h = p.getD 0 0 := fun h => bs_get _ _ h
  have hsz := bs_size p
  have hp' : (0 : Int) < (p.length : Int) := by omega
  have hp1 : ¬ ((p.length : Int) < 1) := by omega
  have hb0 := (p.getD 0 0).toNat_lt
  have hk0 : (((p.getD 0 0).toNat : Int) == 0) = false := by rw [beq_eq_false_iff_ne]; omega
  generalize p.getD 0 0 = b0 at *
  generalize hs : b0.toNat = sz at *
  have HOF := Lib.hid hof
  have a1 : sz ≠ 0 := h0
  have HB0 := Lib.hid (Below.refl w.heap.size w)
  clear hof h0
  go_enter Tryz.func19, Tryz.ntmps19
  have hrl : (p.drop 1).length = p.length - 1 := by rw [List.length_drop]
  have hat : (1 : Int) ≤ (p.length : Int) := by omega
  have e1 : ((sz : Int) == 0) = false := by rw [beq_eq_false_iff_ne]; omega
  obtain ⟨j, hj, hje⟩ : ∃ j : Nat, (1 : Int) + (sz : Int) = (j : Int) ∧ j = 1 + sz := ⟨1 + sz, by omega, rfl⟩
  by_cases a2 : p.length ≤ j
  · have e2 : (p.length : Int) ≤ (j : Int) := by omega
    have hno : rsaOf p = none := by rw [HOF.out, rsaOk_no (.inr (.inl (by omega)))]; rfl
    clear a1 a2 hje
    have HNO := Lib.hid hno
    clear hno HOF
    repeat (first | go_values | go_skip | go_guarded | go_step | go_upon | go_back)
    go_ret3
    exact post_none HNO.out HB0.out rfl
  have e2 : ¬ ((p.length : Int) ≤ (j : Int)) := by omega
  have p1 : (1 : Int) < (p.length : Int) := by omega
  have p2 : (j : Int) < (p.length : Int) := by omega
  have d0 : (p.drop 1).getD 0 0 = p.getD 1 0 := by simp [List.getD]
  have d1 : (p.drop 1).getD sz 0 = p.getD j 0 := by rw [hje]; simp [List.getD, Nat.add_comm]
  have d2 : (p.drop 1).drop sz = p.drop j := by rw [List.drop_drop, hje]
  have g0 : ∀ h, (bs p)[1]'h = p.getD 1 0 := fun h => bs_get _ _ h
  have g1 : ∀ h, (bs p)[j]'h = p.getD j 0 := fun h => bs_get _ _ h
  by_cases a3 : (p.getD 1 0).toNat = 0
  · have e3 : (((p.getD 1 0).toNat : Int) == 0) = true := by rw [a3]; rfl
    have hno : rsaOf p = none := by rw [HOF.out, rsaOk_no (.inr (.inr (.inl (by rw [d0]; exact a3))))]; rfl
    generalize p.getD 1 0 = x0 at g0 e3
    clear a1 a2 a3 hje d0 d1 d2 g1 hrl
    have HNO := Lib.hid hno
    clear hno HOF
    repeat (first | go_values | go_skip | go_guarded | go_step | go_upon | go_back)
    go_ret3
    exact post_none HNO.out HB0.out rfl
  have e3 : (((p.getD 1 0).toNat : Int) == 0) = false := by rw [beq_eq_false_iff_ne]; omega
  by_cases a4 : (p.getD j 0).toNat = 0
  · have e4 : (((p.getD j 0).toNat : Int) == 0) = true := by rw [a4]; rfl
    have hno : rsaOf p = none := by rw [HOF.out, rsaOk_no (.inr (.inr (.inr (.inl (by rw [d1]; exact a4)))))]; rfl
    generalize p.getD 1 0 = x0 at g0 e3
    generalize p.getD j 0 = x1 at g1 e4
    clear a1 a2 a3 a4 hje d0 d1 d2 hrl
    have HNO := Lib.hid hno
    clear hno HOF
    repeat (first | go_values | go_skip | go_guarded | go_step | go_upon | go_back)
    go_ret3
    exact post_none HNO.out HB0.out rfl
  have e4 : (((p.getD j 0).toNat : Int) == 0) = false := by rw [beq_eq_false_iff_ne]; omega
  by_cases a5 : 256 < sz
  · have e5 : (256 : Int) < (sz : Int) := by omega
    have hno : rsaOf p = none := by rw [HOF.out, rsaOk_no (.inr (.inr (.inr (.inr (.inl a5)))))]; rfl
    generalize p.getD 1 0 = x0 at g0 e3
    generalize p.getD j 0 = x1 at g1 e4
    clear a1 a2 a3 a4 a5 hje d0 d1 d2 hrl
    have HNO := Lib.hid hno
    clear hno HOF
    repeat (first | go_values | go_skip | go_guarded | go_step | go_upon | go_back)
    go_ret3
    exact post_none HNO.out HB0.out rfl
  have e5 : ¬ ((256 : Int) < (sz : Int)) := by omega
  by_cases a6 : 256 < p.length - j
  · have e6 : (256 : Int) < (p.length : Int) - 1 - (sz : Int) := by omega
    have hno : rsaOf p = none := by rw [HOF.out, rsaOk_no (.inr (.inr (.inr (.inr (.inr (.inl (by omega))))))) ]; rfl
    generalize p.getD 1 0 = x0 at g0 e3
    generalize p.getD j 0 = x1 at g1 e4
    clear a1 a2 a3 a4 a5 a6 hje d0 d1 d2 hrl
    have HNO := Lib.hid hno
    clear hno HOF
    repeat (first | go_values | go_skip | go_guarded | go_step | go_upon | go_back)
    go_ret3
    exact post_none HNO.out HB0.out rfl
  have e6 : ¬ ((256 : Int) < (p.length : Int) - 1 - (sz : Int)) := by omega
  have ho1 := fun W => ref_of5 ((p.drop 1).take sz) W (by rw [List.length_take]; omega)
  have ho2 := fun W => ref_of5 (p.drop j) W (by rw [List.length_drop]; omega)
  have hx1 : (bs p).extract 1 j = bs ((p.drop 1).take sz) := by
    apply ByteArray.ext
    simp [bs, ByteArray.data_extract, hje]
  have hx2 : (bs p).extract j p.length = bs (p.drop j) := bs_drop p j
  have hokk : rsaOk sz (p.drop 1) = decide (496 ≤ bitsL (numDigs (p.drop j))) := by
    simp only [rsaOk, d0, d1, d2, decide_eq_true (show sz ≠ 0 by omega), decide_eq_true (show sz < (p.drop 1).length by omega), decide_eq_true a3, decide_eq_true a4, decide_eq_true (show sz ≤ 256 by omega), decide_eq_true (show (p.drop 1).length - sz ≤ 256 by omega), Bool.true_and]
  rw [hokk, d2] at HOF
  have hnl := numDigs_len (p.drop j)
  have hnl2 : (numDigs (p.drop j)).length ≤ 1000000 := by rw [List.length_drop] at hnl; omega
  generalize hdn : numDigs (p.drop j) = dn at ho2 hnl2 HOF
  generalize hde : numDigs ((p.drop 1).take sz) = de at ho1
  have HDN := Lib.hid hdn; have HDE := Lib.hid hde
  clear hdn hde
  generalize p.getD 1 0 = x0 at g0 e3
  generalize p.getD j 0 = x1 at g1 e4
  generalize bs ((p.drop 1).take sz) = s1 at hx1 ho1
  generalize bs (p.drop j) = s2 at hx2 ho2
  have hje1 : (1 : Int) ≤ (j : Int) := by omega
  have hje2 : (j : Int) ≤ (p.length : Int) := by omega
  have HO1 := Lib.hid ho1; have HO2 := Lib.hid ho2; have HL := Lib.hid hnl2
  clear a1 a2 a3 a4 a5 a6 ho1 ho2 hokk hnl hje d0 d1 d2 hrl hnl2
  repeat (first | (go_at_call 41; refine (Hid.out (p := _) ?_)) | go_values | go_skip | go_guarded | go_step | go_upon | go_back)
  refine Lib.hid ?_
  refine (HO1.out _).mono ?_
  rintro e w2 ⟨hB2, A1, c1, rfl, k2, k3⟩
  have HB2 := Lib.hid (HB0.out.trans (hB2.mono HB0.out.size)); have K3 := Lib.hid (k3.mono HB0.out.size); have K2 := Lib.hid k2
  clear hB2 k3 k2
  simp only []
  repeat (first | (go_at_call 41; refine (Hid.out (p := _) ?_)) | go_values | go_skip | go_guarded | go_step | go_upon | go_back)
  refine Lib.hid ?_
  refine (HO2.out _).mono ?_
  rintro e w3 ⟨hB3, A2, c2, rfl, l2, l3⟩
  have hb3 := HB2.out.trans (hB3.mono HB2.out.size)
  have HB3 := Lib.hid hb3; have L2 := Lib.hid l2
  have hD1 := K3.out.below hB3
  have HD1 := Lib.hid hD1
  have hD2 := l3.mono HB2.out.size
  have HD2 := Lib.hid hD2
  clear hb3 l2 hB3 hD1 hD2 l3 K3 HB2
  simp only []
  have HBI := Lib.hid (ref_bits A2 c2 dn w3 L2.out HL.out w.heap.size HD2.out)
  repeat (first | (go_at_call 21; refine (Hid.out (p := _) ?_)) | go_values | go_skip | go_guarded | go_step | go_upon | go_back)
  refine Lib.hid ?_
  refine HBI.out.mono ?_
  rintro e w4 ⟨rfl, rfl⟩
  simp only []
  generalize bitsL dn = bl at HOF ⊢
  by_cases a7 : bl < 496
  · have hno : rsaOf p = none := by rw [HOF.out, decide_eq_false (by omega)]; rfl
    have HNO := Lib.hid hno
    clear hno HOF HBI
    repeat (first | go_values | go_skip | go_guarded | go_step | go_upon | go_back)
    go_ret3
    exact post_none HNO.out HB3.out rfl
  have hyes : rsaOf p = some ((p.drop 1).take sz, p.drop j) := by rw [HOF.out, decide_eq_true (by omega)]; rfl
  have HYES := Lib.hid hyes
  clear hyes HOF HBI
  repeat (first | go_values | go_skip | go_guarded | go_step | go_upon | go_back)
  go_ret3
  exact post_some HYES.out HB3.out (by rw [HDE.out, HDN.out]; rfl) (by rw [HDE.out]; exact K2.out) (by rw [HDN.out]; exact L2.out) (by rw [HDE.out]; exact HD1.out) (by rw [HDN.out]; exact HD2.out)
set_option maxRecDepth 100000 in
set_option maxHeartbeats 2000000 in
theorem ref_rsa_two (p : List UInt8) (w : World) (hp : 3 ≤ p.length) (hm : p.length ≤ 9223372036854775807) (h0 : (p.getD 0 0).toNat = 0) : Calls Tryz.prog 19 #[.string (bs p)] w (RefRsaPost p w) := by
  have hof : rsaOf p = if rsaOk ((p.getD 1 0).toNat * 256 + (p.getD 2 0).toNat) (p.drop 3) then some ((p.drop 3).take ((p.getD 1 0).toNat * 256 + (p.getD 2 0).toNat), (p.drop 3).drop ((p.getD 1 0).toNat * 256 + (p.getD 2 0).toNat)) else none := by
    rw [rsaOf, rsaSplit, if_neg (by omega), if_pos h0, if_neg (by rw [List.length_drop]; omega)]
    simp [List.getD]
  have hg0 : ∀ h, (bs p)[0]'h = p.getD 0 0 := fun h => bs_get _ _ h
  have hg1 : ∀ h, (bs p)[1]'h = p.getD 1 0 := fun h => bs_get _ _ h
  have hg2 : ∀ h, (bs p)[2]'h = p.getD 2 0 := fun h => bs_get _ _ h
  have hsz := bs_size p
  have hp' : (0 : Int) < (p.length : Int) := by omega
  have hp1 : (1 : Int) < (p.length : Int) := by omega
  have hp2 : (2 : Int) < (p.length : Int) := by omega
  have hp3 : ¬ ((p.length : Int) < 1) := by omega
  have hp4 : ¬ ((p.length : Int) < 3) := by omega
  have hb1 := (p.getD 1 0).toNat_lt
  have hb2 := (p.getD 2 0).toNat_lt
  obtain ⟨sz, hse, hsi⟩ : ∃ sz : Nat, sz = (p.getD 1 0).toNat * 256 + (p.getD 2 0).toNat ∧ 256 * ((p.getD 1 0).toNat : Int) + ((p.getD 2 0).toNat : Int) = (sz : Int) := ⟨_, rfl, by push_cast; omega⟩
  rw [← hse] at hof
  have hsl : sz < 65536 := by omega
  generalize p.getD 0 0 = b0 at *
  generalize p.getD 1 0 = b1 at *
  generalize p.getD 2 0 = b2 at *
  have HOF := Lib.hid hof
  clear hof hse
  go_enter Tryz.func19, Tryz.ntmps19
  repeat (first | (fail) | go_values | go_skip | go_guarded | go_step | go_upon | go_back)
  go_quiet (fail)
  generalize hW : w.drewN nq = W1
  have HB0 := Lib.hid (below_drew (Below.refl w.heap.size w) nq)
  rw [hW] at HB0
  clear hW
  by_cases a1 : sz = 0
  · subst a1
    have hno : rsaOf p = none := by rw [HOF.out, rsaOk_no (.inl rfl)]; rfl
    have HNO := Lib.hid hno
    clear hno HOF
    repeat (first | go_values | go_skip | go_guarded | go_step | go_upon | go_back)
    go_ret3
    exact post_none HNO.out HB0.out rfl
  have hrl : (p.drop 3).length = p.length - 3 := by rw [List.length_drop]
  have hat : (3 : Int) ≤ (p.length : Int) := by omega
  have e1 : ((sz : Int) == 0) = false := by rw [beq_eq_false_iff_ne]; omega
  obtain ⟨j, hj, hje⟩ : ∃ j : Nat, (3 : Int) + (sz : Int) = (j : Int) ∧ j = 3 + sz := ⟨3 + sz, by omega, rfl⟩
  by_cases a2 : p.length ≤ j
  · have e2 : (p.length : Int) ≤ (j : Int) := by omega
    have hno : rsaOf p = none := by rw [HOF.out, rsaOk_no (.inr (.inl (by omega)))]; rfl
    clear a1 a2 hje
    have HNO := Lib.hid hno
    clear hno HOF
    repeat (first | go_values | go_skip | go_guarded | go_step | go_upon | go_back)
    go_ret3
    exact post_none HNO.out HB0.out rfl
  have e2 : ¬ ((p.length : Int) ≤ (j : Int)) := by omega
  have p1 : (3 : Int) < (p.length : Int) := by omega
  have p2 : (j : Int) < (p.length : Int) := by omega
  have d0 : (p.drop 3).getD 0 0 = p.getD 3 0 := by simp [List.getD]
  have d1 : (p.drop 3).getD sz 0 = p.getD j 0 := by rw [hje]; simp [List.getD, Nat.add_comm]
  have d2 : (p.drop 3).drop sz = p.drop j := by rw [List.drop_drop, hje]
  have g0 : ∀ h, (bs p)[3]'h = p.getD 3 0 := fun h => bs_get _ _ h
  have g1 : ∀ h, (bs p)[j]'h = p.getD j 0 := fun h => bs_get _ _ h
  by_cases a3 : (p.getD 3 0).toNat = 0
  · have e3 : (((p.getD 3 0).toNat : Int) == 0) = true := by rw [a3]; rfl
    have hno : rsaOf p = none := by rw [HOF.out, rsaOk_no (.inr (.inr (.inl (by rw [d0]; exact a3))))]; rfl
    generalize p.getD 3 0 = x0 at g0 e3
    clear a1 a2 a3 hje d0 d1 d2 g1 hrl
    have HNO := Lib.hid hno
    clear hno HOF
    repeat (first | go_values | go_skip | go_guarded | go_step | go_upon | go_back)
    go_ret3
    exact post_none HNO.out HB0.out rfl
  have e3 : (((p.getD 3 0).toNat : Int) == 0) = false := by rw [beq_eq_false_iff_ne]; omega
  by_cases a4 : (p.getD j 0).toNat = 0
  · have e4 : (((p.getD j 0).toNat : Int) == 0) = true := by rw [a4]; rfl
    have hno : rsaOf p = none := by rw [HOF.out, rsaOk_no (.inr (.inr (.inr (.inl (by rw [d1]; exact a4)))))]; rfl
    generalize p.getD 3 0 = x0 at g0 e3
    generalize p.getD j 0 = x1 at g1 e4
    clear a1 a2 a3 a4 hje d0 d1 d2 hrl
    have HNO := Lib.hid hno
    clear hno HOF
    repeat (first | go_values | go_skip | go_guarded | go_step | go_upon | go_back)
    go_ret3
    exact post_none HNO.out HB0.out rfl
  have e4 : (((p.getD j 0).toNat : Int) == 0) = false := by rw [beq_eq_false_iff_ne]; omega
  by_cases a5 : 256 < sz
  · have e5 : (256 : Int) < (sz : Int) := by omega
    have hno : rsaOf p = none := by rw [HOF.out, rsaOk_no (.inr (.inr (.inr (.inr (.inl a5)))))]; rfl
    generalize p.getD 3 0 = x0 at g0 e3
    generalize p.getD j 0 = x1 at g1 e4
    clear a1 a2 a3 a4 a5 hje d0 d1 d2 hrl
    have HNO := Lib.hid hno
    clear hno HOF
    repeat (first | go_values | go_skip | go_guarded | go_step | go_upon | go_back)
    go_ret3
    exact post_none HNO.out HB0.out rfl
  have e5 : ¬ ((256 : Int) < (sz : Int)) := by omega
  by_cases a6 : 256 < p.length - j
  · have e6 : (256 : Int) < (p.length : Int) - 3 - (sz : Int) := by omega
    have hno : rsaOf p = none := by rw [HOF.out, rsaOk_no (.inr (.inr (.inr (.inr (.inr (.inl (by omega))))))) ]; rfl
    generalize p.getD 3 0 = x0 at g0 e3
    generalize p.getD j 0 = x1 at g1 e4
    clear a1 a2 a3 a4 a5 a6 hje d0 d1 d2 hrl
    have HNO := Lib.hid hno
    clear hno HOF
    repeat (first | go_values | go_skip | go_guarded | go_step | go_upon | go_back)
    go_ret3
    exact post_none HNO.out HB0.out rfl
  have e6 : ¬ ((256 : Int) < (p.length : Int) - 3 - (sz : Int)) := by omega
  have ho1 := fun W => ref_of5 ((p.drop 3).take sz) W (by rw [List.length_take]; omega)
  have ho2 := fun W => ref_of5 (p.drop j) W (by rw [List.length_drop]; omega)
  have hx1 : (bs p).extract 3 j = bs ((p.drop 3).take sz) := by
    apply ByteArray.ext
    simp [bs, ByteArray.data_extract, hje]
  have hx2 : (bs p).extract j p.length = bs (p.drop j) := bs_drop p j
  have hokk : rsaOk sz (p.drop 3) = decide (496 ≤ bitsL (numDigs (p.drop j))) := by
    simp only [rsaOk, d0, d1, d2, decide_eq_true (show sz ≠ 0 by omega), decide_eq_true (show sz < (p.drop 3).length by omega), decide_eq_true a3, decide_eq_true a4, decide_eq_true (show sz ≤ 256 by omega), decide_eq_true (show (p.drop 3).length - sz ≤ 256 by omega), Bool.true_and]
  rw [hokk, d2] at HOF
  have hnl := numDigs_len (p.drop j)
  have hnl2 : (numDigs (p.drop j)).length ≤ 1000000 := by rw [List.length_drop] at hnl; omega
  generalize hdn : numDigs (p.drop j) = dn at ho2 hnl2 HOF
  generalize hde : numDigs ((p.drop 3).take sz) = de at ho1
  have HDN := Lib.hid hdn; have HDE := Lib.hid hde
  clear hdn hde
  generalize p.getD 3 0 = x0 at g0 e3
  generalize p.getD j 0 = x1 at g1 e4
  generalize bs ((p.drop 3).take sz) = s1 at hx1 ho1
  generalize bs (p.drop j) = s2 at hx2 ho2
  have hje1 : (3 : Int) ≤ (j : Int) := by omega
  have hje2 : (j : Int) ≤ (p.length : Int) := by omega
  have HO1 := Lib.hid ho1; have HO2 := Lib.hid ho2; have HL := Lib.hid hnl2
  clear a1 a2 a3 a4 a5 a6 ho1 ho2 hokk hnl hje d0 d1 d2 hrl hnl2
  repeat (first | (go_at_call 41; refine (Hid.out (p := _) ?_)) | go_values | go_skip | go_guarded | go_step | go_upon | go_back)
  refine Lib.hid ?_
  refine (HO1.out _).mono ?_
  rintro e w2 ⟨hB2, A1, c1, rfl, k2, k3⟩
  have HB2 := Lib.hid (HB0.out.trans (hB2.mono HB0.out.size)); have K3 := Lib.hid (k3.mono HB0.out.size); have K2 := Lib.hid k2
  clear hB2 k3 k2
  simp only []
  repeat (first | (go_at_call 41; refine (Hid.out (p := _) ?_)) | go_values | go_skip | go_guarded | go_step | go_upon | go_back)
  refine Lib.hid ?_
  refine (HO2.out _).mono ?_
  rintro e w3 ⟨hB3, A2, c2, rfl, l2, l3⟩
  have hb3 := HB2.out.trans (hB3.mono HB2.out.size)
  have HB3 := Lib.hid hb3; have L2 := Lib.hid l2
  have hD1 := K3.out.below hB3
  have HD1 := Lib.hid hD1
  have hD2 := l3.mono HB2.out.size
  have HD2 := Lib.hid hD2
  clear hb3 l2 hB3 hD1 hD2 l3 K3 HB2
  simp only []
  have HBI := Lib.hid (ref_bits A2 c2 dn w3 L2.out HL.out w.heap.size HD2.out)
  repeat (first | (go_at_call 21; refine (Hid.out (p := _) ?_)) | go_values | go_skip | go_guarded | go_step | go_upon | go_back)
  refine Lib.hid ?_
  refine HBI.out.mono ?_
  rintro e w4 ⟨rfl, rfl⟩
  simp only []
  generalize bitsL dn = bl at HOF ⊢
  by_cases a7 : bl < 496
  · have hno : rsaOf p = none := by rw [HOF.out, decide_eq_false (by omega)]; rfl
    have HNO := Lib.hid hno
    clear hno HOF HBI
    repeat (first | go_values | go_skip | go_guarded | go_step | go_upon | go_back)
    go_ret3
    exact post_none HNO.out HB3.out rfl
  have hyes : rsaOf p = some ((p.drop 3).take sz, p.drop j) := by rw [HOF.out, decide_eq_true (by omega)]; rfl
  have HYES := Lib.hid hyes
  clear hyes HOF HBI
  repeat (first | go_values | go_skip | go_guarded | go_step | go_upon | go_back)
  go_ret3
  exact post_some HYES.out HB3.out (by rw [HDE.out, HDN.out]; rfl) (by rw [HDE.out]; exact K2.out) (by rw [HDN.out]; exact L2.out) (by rw [HDE.out]; exact HD1.out) (by rw [HDN.out]; exact HD2.out)
set_option maxRecDepth 100000 in
theorem ref_rsa_short (p : List UInt8) (w : World) (hp : p.length < 3) (h0 : p.length = 0 ∨ (p.getD 0 0).toNat = 0) : Calls Tryz.prog 19 #[.string (bs p)] w (RefRsaPost p w) := by
  have hsz := bs_size p
  by_cases hl : p.length = 0
  · obtain rfl := List.eq_nil_of_length_eq_zero hl
    have hno : rsaOf [] = none := rfl
    have HNO := Lib.hid hno
    clear hno
    go_enter Tryz.func19, Tryz.ntmps19
    repeat (first | (fail) | go_values | go_skip | go_guarded | go_step | go_upon | go_back)
    go_ret3
    exact post_none HNO.out (Below.refl _ _) rfl
  · have h1 : (p.getD 0 0).toNat = 0 := h0.resolve_left hl
    have hno : rsaOf p = none := by
      rw [rsaOf, rsaSplit, if_neg hl, if_pos h1, if_pos (by rw [List.length_drop]; omega)]
    have hg0 : ∀ h, (bs p)[0]'h = p.getD 0 0 := fun h => bs_get _ _ h
    have hp' : (0 : Int) < (p.length : Int) := by omega
    have hp3 : ¬ ((p.length : Int) < 1) := by omega
    have hp4 : (p.length : Int) < 3 := by omega
    generalize p.getD 0 0 = b0 at *
    have HNO := Lib.hid hno
    clear hno h0
    go_enter Tryz.func19, Tryz.ntmps19
    repeat (first | (fail) | go_values | go_skip | go_guarded | go_step | go_upon | go_back)
    go_ret3
    exact post_none HNO.out (Below.refl _ _) rfl
theorem ref_rsa (p : ByteArray) (w : World) (hm : p.size ≤ 9223372036854775807) : Calls Tryz.prog 19 #[.string p] w (RefRsaPost p.data.toList w) := by
  have hb : bs p.data.toList = p := bs_toList p
  have hl : p.data.toList.length = p.size := by simp
  generalize p.data.toList = l at hb hl ⊢
  subst hb
  by_cases h : 0 < l.length
  · by_cases h0 : (l.getD 0 0).toNat = 0
    · by_cases h3 : 3 ≤ l.length
      · exact ref_rsa_two l w h3 (by omega) h0
      · exact ref_rsa_short l w (by omega) (.inr h0)
    · exact ref_rsa_one l w h (by omega) h0
  · exact ref_rsa_short l w (by omega) (.inl (by omega))
end Go.Proofs.YtdmfbcfhfopipaaGreatDoor

/- keys.Rsa and the document's Rsa, in one form each. -/
namespace Go.Proofs.YtdmfbcfhfopipaaGreatDoor
open Go.RowKit

/-- The digits of a key's exponent, and of its modulus; whether it is one. -/
def rsaE (p : List UInt8) : List W32 := match rsaOf p with | none => [] | some (x, _) => numDigs x
def rsaN (p : List UInt8) : List W32 := match rsaOf p with | none => [] | some (_, y) => numDigs y
def rsaGood (p : List UInt8) : Bool := (rsaOf p).isSome
theorem rsa_all (p : ByteArray) (w : World) (hm : p.size ≤ 9223372036854775807) : Calls Tryz.prog 18 #[.string p] w fun e w' => Below w.heap.size w w' ∧ ∃ v u, e = .returned (.tuple #[v, u, .int .i64 (if rsaGood p.data.toList then 0 else 8)]) ∧ NatV w.heap.size w' v (rsaE p.data.toList) ∧ NatV w.heap.size w' u (rsaN p.data.toList) := by
  refine (rsa_any p w hm).mono ?_
  rintro e w' ⟨hB, h⟩
  refine ⟨hB, ?_⟩
  generalize p.data.toList = l at h
  unfold rsaE rsaN rsaGood
  cases hl : rsaOf l with
  | none =>
    rw [hl] at h
    exact ⟨_, _, h, ⟨none, 0, rfl, Nat.le_refl _, by omega, .inl rfl⟩, ⟨none, 0, rfl, Nat.le_refl _, by omega, .inl rfl⟩⟩
  | some x =>
    rw [hl] at h
    obtain ⟨v, u, h1, h2, h3⟩ := h
    exact ⟨v, u, h1, h2, h3⟩
theorem ref_rsa_all (p : ByteArray) (w : World) (hm : p.size ≤ 9223372036854775807) : Calls Tryz.prog 19 #[.string p] w fun e w' => Below w.heap.size w w' ∧ ∃ A c B d, e = .returned (.tuple #[.slice A (rsaE p.data.toList).length c, .slice B (rsaN p.data.toList).length d, .bool (rsaGood p.data.toList)]) ∧ (rsaE p.data.toList).length ≤ c ∧ (rsaN p.data.toList).length ≤ d ∧ DigsAt w.heap.size w' A (rsaE p.data.toList) ∧ DigsAt w.heap.size w' B (rsaN p.data.toList) := by
  refine (ref_rsa p w hm).mono ?_
  rintro e w' ⟨hB, h⟩
  refine ⟨hB, ?_⟩
  generalize p.data.toList = l at h
  unfold rsaE rsaN rsaGood
  cases hl : rsaOf l with
  | none =>
    rw [hl] at h
    exact ⟨none, 0, none, 0, h, Nat.le_refl _, Nat.le_refl _, .inl rfl, .inl rfl⟩
  | some x =>
    rw [hl] at h
    obtain ⟨A, c, B, d, h1, h2, h3, h4, h5⟩ := h
    exact ⟨A, c, B, d, h1, h2, h3, h4, h5⟩
/-- What a right key's split tells. -/
theorem rsa_parts {p x y : List UInt8} (h : rsaOf p = some (x, y)) : ∃ sz r, rsaSplit p = some (sz, r) ∧ rsaOk sz r = true ∧ x = r.take sz ∧ y = r.drop sz := by
  unfold rsaOf at h
  cases hs : rsaSplit p with
  | none => rw [hs] at h; cases h
  | some q =>
    obtain ⟨sz, r⟩ := q
    rw [hs] at h
    simp only [] at h
    cases hk : rsaOk sz r with
    | false => rw [hk] at h; cases h
    | true =>
      rw [hk] at h
      simp only [if_true, Option.some.injEq, Prod.mk.injEq] at h
      exact ⟨sz, r, rfl, hk, h.1.symm, h.2.symm⟩
theorem rsa_small (p : List UInt8) : (rsaE p).length ≤ 256 ∧ (rsaN p).length ≤ 256 := by
  unfold rsaE rsaN
  cases hl : rsaOf p with
  | none => simp
  | some q =>
    obtain ⟨x, y⟩ := q
    obtain ⟨sz, r, _, hk, rfl, rfl⟩ := rsa_parts hl
    simp only [rsaOk, Bool.and_eq_true, decide_eq_true_eq] at hk
    have h1 := numDigs_len (r.take sz)
    have h2 := numDigs_len (r.drop sz)
    rw [List.length_take] at h1
    rw [List.length_drop] at h2
    simp only []
    omega
end Go.Proofs.YtdmfbcfhfopipaaGreatDoor

/- The document's own numbers (its chapter 5): Mul. -/
namespace Go.Proofs.YtdmfbcfhfopipaaGreatDoor
open Go.RowKit

theorem zer_enc (n : Nat) : madeCells #[Value.int .u32 0] n = encW (List.replicate n 0) := made_enc n
theorem mul_prod (x y : Nat) (hx : x < 4294967296) (hy : y < 4294967296) : x * y ≤ 18446744065119617025 := by
  have := Nat.mul_le_mul (show x ≤ 4294967295 by omega) (show y ≤ 4294967295 by omega)
  omega
set_option maxRecDepth 100000 in
set_option maxHeartbeats 2000000 in
theorem ref_mul (A B : Option Addr) (c d : Nat) (a b : List W32) (w : World) (hl : a.length + b.length ≤ 100000) (lo lo' : Nat) (hA : DigsAt lo w A a) (hB : DigsAt lo' w B b) :
    Calls Tryz.prog 79 #[.slice A a.length c, .slice B b.length d] w fun e w' => Below w.heap.size w w' ∧ ∃ v, e = .returned v ∧ SlV w.heap.size w' v (nd (va a * va b)) := by
  obtain ⟨m, hm, hme⟩ : ∃ m : Nat, (a.length : Int) + (b.length : Int) = (m : Int) ∧ m = a.length + b.length := ⟨_, by push_cast; rfl, rfl⟩
  have hmk := run_make_row' 43 64 (.int .u32 0) 4 Tryz.underlying43 info_u32 rfl .i64 .i64 m (by omega) (by omega) w
  rw [zer_enc] at hmk
  have HA := Lib.hid hA; have HB := Lib.hid hB; have HM := Lib.hid hme; have HL := Lib.hid hl
  have ha1 : (a.length : Int) ≤ 100000 := by omega
  have hb1 : (b.length : Int) ≤ 100000 := by omega
  clear hA hB hme hl
  go_enter Tryz.func79, Tryz.ntmps79
  repeat (first | (fail) | go_values | go_skip | go_guarded | go_step | go_upon | go_back)
  have hb0 : Blk (w.alloc (.cells (encW (List.replicate m 0)) 64)) w.heap.size (encW (List.replicate m 0)) 64 := Blk.new w _ _
  have hB0 : Below w.heap.size w (w.alloc (.cells (encW (List.replicate m 0)) 64)) := (Below.refl _ w).alloc (Nat.le_refl _) _
  have H0 := Lib.hid (And.intro hb0 hB0)
  clear hb0 hB0 hmk
  go_loopw [6] (fun z wr => ∃ (i : Nat) (O : List W32), i ≤ a.length ∧ z = .int .i64 i ∧ Hid (O.length = m ∧ va O = va (a.take i) * va b) ∧ Hid (Blk wr w.heap.size (encW O) 64 ∧ Below w.heap.size w wr)) (fun z _ => a.length - (intOf z).toNat)
  case atStart => exact ⟨0, List.replicate m 0, Nat.zero_le _, rfl, Lib.hid ⟨by simp, by rw [va_zero]; simp [va]⟩, H0⟩
  case round =>
    obtain ⟨i, O, hi, rfl, hO, hS⟩ := hrel
    by_cases hlt : i < a.length
    · obtain ⟨b1, rfl, _, hb1l, hc1⟩ := HA.out.cells (by omega)
      have q1 := hc1 i hlt
      have hx := toNat_lt32 (a.getD i 0)
      have htk := va_take a i hlt
      generalize (a.getD i 0).toNat = x at q1 hx htk
      have hii : (i : Int) < (a.length : Int) := by omega
      have hz0 : O.getD (i + b.length) 0 = 0 := by
        refine dig_past O _ ?_
        rw [hO.out.2, Nat.pow_add]
        have h1 := va_lt (a.take i)
        rw [List.length_take, Nat.min_eq_left (by omega)] at h1
        exact Nat.mul_lt_mul_of_lt_of_lt h1 (va_lt b)
      have HZ := Lib.hid hz0; have HTK := Lib.hid htk; have HQ := Lib.hid q1; have HLT := Lib.hid hlt
      have hxi : (x : Int) < 4294967296 := by omega
      clear hz0 htk hc1 q1 hlt
      repeat (first | (fail) | go_values | go_skip | go_guarded | go_step | go_upon | go_back)
      go_loopw [7, 8] (fun cy z wi => ∃ (k e : Nat) (P : List W32), k ≤ b.length ∧ z = .int .i64 k ∧ cy = .int .u64 (e : Int) ∧ (e : Int) < 4294967296 ∧ Hid (P.length = m ∧ P.getD (i + b.length) 0 = 0 ∧ va P + e * 4294967296 ^ (i + k) = va O + x * va (b.take k) * 4294967296 ^ i) ∧ Hid (Blk wi w.heap.size (encW P) 64 ∧ Below w.heap.size w wi)) (fun _ z _ => b.length - (intOf z).toNat)
      case atStart => exact ⟨0, 0, O, Nat.zero_le _, rfl, rfl, by omega, Lib.hid ⟨hO.out.1, HZ.out, by simp [va]⟩, hS⟩
      case round =>
        obtain ⟨k, e, P, hk, rfl, rfl, he, hP, hT⟩ := hrel
        by_cases hkl : k < b.length
        · obtain ⟨b2, rfl, _, hb2l, hc2⟩ := HB.out.cells (by omega)
          have q1 : wr.cell? ⟨b1, i, none⟩ = some (.int .u32 (x : Int)) := by rw [hT.out.2.cell (p := ⟨b1, i, none⟩) hb1l]; exact HQ.out
          have q2 : wr.cell? ⟨b2, k, none⟩ = some (.int .u32 ((b.getD k 0).toNat : Int)) := by rw [hT.out.2.cell (p := ⟨b2, k, none⟩) hb2l]; exact hc2 k hkl
          have hy := toNat_lt32 (b.getD k 0)
          have htb := va_take b k hkl
          generalize (b.getD k 0).toNat = y at q2 hy htb
          obtain ⟨j, hj, hje⟩ : ∃ j : Nat, (i : Int) + (k : Int) = (j : Int) ∧ j = i + k := ⟨_, by push_cast; rfl, rfl⟩
          have hjm : j < m := by have := HM.out; have := HLT.out; omega
          have q3 := cell_get hT.out.1 j (by rw [hP.out.1]; exact hjm)
          have f3 := hT.out.1.free j
          have ho := toNat_lt32 (P.getD j 0)
          have hset := fun z hz => va_set_nat P j z (by rw [hP.out.1]; exact hjm) hz
          generalize hoe : (P.getD j 0).toNat = o at q3 ho hset
          have hjmi : (j : Int) < (m : Int) := by omega
          have hkli : (k : Int) < (b.length : Int) := by omega
          have hp := mul_prod x y hx hy
          obtain ⟨p, hpi, hpe⟩ : ∃ p : Nat, (x : Int) * (y : Int) = (p : Int) ∧ p = x * y := ⟨_, by push_cast; rfl, rfl⟩
          have hpb : (p : Int) ≤ 18446744065119617025 := by omega
          have hob : (o : Int) < 4294967296 := by omega
          obtain ⟨t, hti, hte⟩ : ∃ t : Nat, (p : Int) + (o : Int) + (e : Int) = (t : Int) ∧ t = x * y + o + e := ⟨p + o + e, by push_cast; rfl, by omega⟩
          have htb2 : (t : Int) < 18446744073709551616 := by omega
          obtain ⟨u, hui, hue⟩ : ∃ u : Nat, (t : Int) % 4294967296 = (u : Int) ∧ u = t % 4294967296 := ⟨t % 4294967296, by omega, rfl⟩
          obtain ⟨v, hvi, hve⟩ : ∃ v : Nat, (t : Int) / 4294967296 = (v : Int) ∧ v = t / 4294967296 := ⟨t / 4294967296, by omega, rfl⟩
          have hub : u < 4294967296 := by omega
          have hvb : (v : Int) < 4294967296 := by omega
          have hlaw := mul_step hP.out.2.2 (va (P.set j (BitVec.ofNat 32 u))) t u v hte (by omega) (by rw [← hje]; exact hset u hub)
          have hnP : Hid ((P.set j (BitVec.ofNat 32 u)).length = m ∧ (P.set j (BitVec.ofNat 32 u)).getD (i + b.length) 0 = 0 ∧ va (P.set j (BitVec.ofNat 32 u)) + v * 4294967296 ^ (i + (k + 1)) = va O + x * va (b.take (k + 1)) * 4294967296 ^ i) := by
            refine Lib.hid ⟨by simp [hP.out.1], ?_, ?_⟩
            · rw [set_getD _ _ _ _ (by rw [hP.out.1]; exact hjm), if_neg (by omega)]
              exact hP.out.2.1
            · rw [← Nat.add_assoc i k 1, Nat.pow_succ, hlaw, htb, Nat.mul_add, Nat.add_mul, Nat.pow_add]
              grind
          have HPL := Lib.hid hP.out.1; have HOE := Lib.hid hoe
          clear hlaw hset hte hpe hue hve hje hoe hP hc2 htb hp f3
          repeat (first | (fail) | go_values | go_skip | go_guarded | go_step | go_upon | go_back)
          go_quiet (fail)
          generalize hW : wr.drewN nq = W1
          have hT1 : Blk W1 w.heap.size (encW P) 64 ∧ Below w.heap.size w W1 := by rw [← hW]; exact ⟨blk_drew hT.out.1 nq, below_drew hT.out.2 nq⟩
          have p3 := cell_get hT1.1 j (by rw [HPL.out]; exact hjm)
          rw [HOE.out] at p3
          have f3 := hT1.1.free j
          have hnb := cell_set hT1.1 j u hub
          have hnB := hT1.2.setCell (p := ⟨w.heap.size, j, none⟩) (Nat.le_refl _) (.int .u32 (u : Int))
          have HS := Lib.hid (And.intro hnb hnB)
          clear hnb hnB hT1 hW q1 q2 q3 hT
          repeat (first | (fail) | go_values | go_skip | go_guarded | go_step | go_upon | go_back)
          go_roundw
          case rel => exact ⟨k + 1, v, _, by omega, by go_num, by go_num, hvb, hnP, HS⟩
          case measure => simp [intOf]; omega
        · obtain rfl : k = b.length := by omega
          obtain ⟨j, hj, hje⟩ : ∃ j : Nat, (i : Int) + (b.length : Int) = (j : Int) ∧ j = i + b.length := ⟨_, by push_cast; rfl, rfl⟩
          have hjm : j < m := by have := HM.out; have := HLT.out; omega
          have q3 := cell_get hT.out.1 j (by rw [hP.out.1]; exact hjm)
          have f3 := hT.out.1.free j
          have hset := va_set_nat P j e (by rw [hP.out.1]; exact hjm) (by omega)
          have hjmi : (j : Int) < (m : Int) := by omega
          have hnb := cell_set hT.out.1 j e (by omega)
          have hnB := hT.out.2.setCell (p := ⟨w.heap.size, j, none⟩) (Nat.le_refl _) (.int .u32 (e : Int))
          have HS := Lib.hid (And.intro hnb hnB)
          have hnO : Hid ((P.set j (BitVec.ofNat 32 e)).length = m ∧ va (P.set j (BitVec.ofNat 32 e)) = va (a.take (i + 1)) * va b) := by
            refine Lib.hid ⟨by simp [hP.out.1], ?_⟩
            have h1 := hP.out.2.2
            rw [hje, hP.out.2.1] at hset
            rw [List.take_length] at h1
            rw [HTK.out, Nat.add_mul, ← hO.out.2, show 4294967296 ^ i * x * va b = x * va b * 4294967296 ^ i by grind, ← h1]
            rw [show e * 4294967296 ^ (i + b.length) = 4294967296 ^ (i + b.length) * e from Nat.mul_comm _ _, ← hje]
            rw [← hje] at hset
            simpa using hset
          clear hset hnb hnB hje hP hT hO
          repeat (first | (fail) | go_values | go_skip | go_guarded | go_step | go_upon | go_back)
          go_roundw
          case rel => exact ⟨i + 1, _, HLT.out, by go_num, hnO, HS⟩
          case measure => have := HLT.out; simp [intOf]; omega
    · obtain rfl : i = a.length := by omega
      have h1 := hO.out.2
      rw [List.take_length] at h1
      have hD := blk_digs hS.out.1 (Nat.le_refl _)
      have htr := ref_trim_va (some ⟨w.heap.size, 0, none⟩) m O wr (by rw [hO.out.1]; exact Nat.le_refl _) (by rw [hO.out.1]; have := HL.out; have := HM.out; omega) w.heap.size hD
      have hle := len_va_le O
      have hDT := hD.trim
      rw [h1] at htr hle hDT
      rw [hO.out.1] at htr hle
      have HTR := Lib.hid htr; have HLE := Lib.hid hle; have HDT := Lib.hid hDT
      clear htr hle hDT hD h1
      repeat (first | (go_at_call 77; refine HTR.out.mono ?_; rintro e w1 ⟨rfl, rfl⟩; simp only []) | go_values | go_skip | go_guarded | go_step | go_upon | go_back)
      go_ret
      exact ⟨hS.out.2, _, rfl, _, m, rfl, HLE.out, HDT.out⟩
end Go.Proofs.YtdmfbcfhfopipaaGreatDoor

/- The document's own numbers (its chapter 5): Sub. -/
namespace Go.Proofs.YtdmfbcfhfopipaaGreatDoor
open Go.RowKit

theorem lift_step {A Vk X P cc : Nat} (h : A + Vk = X + cc * P) (u' ui vi c' : Nat) (hd : u' + vi + cc = ui + c' * 4294967296) : (A + P * u') + (Vk + P * vi) = (X + P * ui) + c' * (P * 4294967296) := by
  have e1 : P * (u' + vi + cc) = P * (ui + c' * 4294967296) := by rw [hd]
  have e2 : P * (u' + vi + cc) = P * u' + P * vi + cc * P := by grind
  have e3 : P * (ui + c' * 4294967296) = P * ui + c' * (P * 4294967296) := by grind
  omega
theorem va_take2 (l : List W32) (i : Nat) : va (l.take (i + 1)) = va (l.take i) + 4294967296 ^ i * (l.getD i 0).toNat := by
  by_cases h : i < l.length
  · exact va_take l i h
  · rw [getD_past l i (by omega), List.take_of_length_le (by omega), List.take_of_length_le (by omega)]
    simp
theorem va_snoc (l : List W32) (x : W32) : va (l ++ [x]) = va l + 4294967296 ^ l.length * x.toNat := by rw [va_append]; simp [va]
set_option maxRecDepth 100000 in
set_option maxHeartbeats 400000 in
theorem ref_sub (x y : Nat) (A B : Option Addr) (c d : Nat) (w : World) (hxy : y ≤ x) (hl : (nd x).length ≤ 100000) (lo lo' : Nat) (hA : DigsAt lo w A (nd x)) (hB : DigsAt lo' w B (nd y)) :
    Calls Tryz.prog 159 #[.slice A (nd x).length c, .slice B (nd y).length d] w fun e w' => Below w.heap.size w w' ∧ ∃ v, e = .returned v ∧ SlV w.heap.size w' v (nd (x - y)) := by
  have hly := nd_len_mono hxy
  have hvx := va_nd x
  have hvy := va_nd y
  generalize nd x = a at *
  generalize nd y = b at *
  have HA := Lib.hid hA; have HB := Lib.hid hB; have HVX := Lib.hid hvx; have HVY := Lib.hid hvy; have HXY := Lib.hid hxy
  have ha1 : (a.length : Int) ≤ 100000 := by omega
  have hb1 : (b.length : Int) ≤ 100000 := by omega
  clear hA hB hvx hvy hxy hl
  have HLY := Lib.hid hly
  clear hly
  go_enter Tryz.func159, Tryz.ntmps159
  repeat (first | (fail) | go_values | go_skip | go_guarded | go_step | go_upon | go_back)
  go_loopw [5, 6, 7] (fun v o z wr => ∃ (k e : Nat) (O : List W32), k ≤ a.length ∧ z = .int .i64 k ∧ o = .int .u64 (e : Int) ∧ (e : Int) ≤ 1 ∧ Hid (O.length = k ∧ va O + va (b.take k) = va (a.take k) + e * 4294967296 ^ k) ∧ Hid (OwnW w.heap.size v O wr ∧ Below w.heap.size w wr ∧ w.heap.size ≤ wr.heap.size)) (fun _ _ z _ => a.length - (intOf z).toNat)
  case atStart => exact ⟨0, 0, [], Nat.zero_le _, rfl, rfl, by omega, Lib.hid ⟨rfl, by simp [va]⟩, Lib.hid ⟨OwnW.nil _ _, Below.refl _ _, Nat.le_refl _⟩⟩
  case round =>
    obtain ⟨k, e, O, hk, rfl, rfl, he, hO, hS⟩ := hrel
    by_cases hlt : k < a.length
    · obtain ⟨b1, rfl, _, hb1l, hc1⟩ := HA.out.cells (by omega)
      have q1 : wr.cell? ⟨b1, k, none⟩ = some (.int .u32 ((a.getD k 0).toNat : Int)) := by rw [hS.out.2.1.cell (p := ⟨b1, k, none⟩) hb1l]; exact hc1 k hlt
      have hx := toNat_lt32 (a.getD k 0)
      have htk := va_take2 a k
      have htb := va_take2 b k
      have hy := toNat_lt32 (b.getD k 0)
      have hki : (k : Int) < (a.length : Int) := by omega
      have hyz : b.length ≤ k → (b.getD k 0).toNat = 0 := fun h => by rw [getD_past b k h]; rfl
      have q2 : k < b.length → ∃ b2, B = some ⟨b2, 0, none⟩ ∧ wr.cell? ⟨b2, k, none⟩ = some (.int .u32 ((b.getD k 0).toNat : Int)) := fun h => by
        obtain ⟨b2, hb, _, hb2l, hc2⟩ := HB.out.cells (by omega)
        exact ⟨b2, hb, by rw [hS.out.2.1.cell (p := ⟨b2, k, none⟩) hb2l]; exact hc2 k h⟩
      generalize (a.getD k 0).toNat = x at *
      generalize (b.getD k 0).toNat = y at *
      have hxi : (x : Int) < 4294967296 := by omega
      have hyi : (y : Int) < 4294967296 := by omega
      obtain ⟨t, ht, hte⟩ : ∃ t : Nat, (e : Int) + (y : Int) = (t : Int) ∧ t = e + y := ⟨_, by push_cast; rfl, rfl⟩
      have hti : (t : Int) ≤ 4294967296 := by omega
      obtain ⟨D, hD, hDe⟩ : ∃ D : Nat, (x : Int) + 4294967296 - (t : Int) = (D : Int) ∧ D + t = x + 4294967296 := ⟨x + 4294967296 - t, by omega, by omega⟩
      have hDi : (D : Int) < 8589934592 := by omega
      obtain ⟨u, hu, hue⟩ : ∃ u : W32, (D : Int) % 4294967296 = wd u ∧ u.toNat = D % 4294967296 := ⟨BitVec.ofNat 32 D, by simp [wd], by simp⟩
      obtain ⟨q, hq, hqe⟩ : ∃ q : Nat, (D : Int) / 4294967296 = (q : Int) ∧ q = D / 4294967296 := ⟨D / 4294967296, by omega, rfl⟩
      obtain ⟨f, hf, hfe⟩ : ∃ f : Nat, (1 : Int) - (q : Int) = (f : Int) ∧ f + q = 1 := ⟨1 - q, by omega, by omega⟩
      have hfi : (f : Int) ≤ 1 := by omega
      have hlaw := lift_step hO.out.2 u.toNat x y f (by omega)
      have hnO : Hid ((O ++ [u]).length = k + 1 ∧ va (O ++ [u]) + va (b.take (k + 1)) = va (a.take (k + 1)) + f * 4294967296 ^ (k + 1)) :=
        Lib.hid ⟨by simp [hO.out.1], by rw [va_snoc, hO.out.1, htk, htb, Nat.pow_succ, hlaw]⟩
      have hlen : O.length ≤ 1000000 := by rw [hO.out.1]; omega
      have HL := Lib.hid hlen; have HYZ := Lib.hid hyz; have HQ2 := Lib.hid q2; have HTE := Lib.hid hte; have HK := Lib.hid hlt
      clear hlaw hlen hyz q2 hue hqe hfe hDe hc1 htk htb hO hte hlt
      by_cases hkb : k < b.length
      · have hkbi : (k : Int) < (b.length : Int) := by omega
        obtain ⟨b2, rfl, q2⟩ := HQ2.out hkb
        repeat (first | ((at_builtin; go_loud (refine ownW_append hS.out.1 hS.out.2.1 hS.out.2.2 u HL.out rfl _ _ rfl _ 1 1 rfl rfl rfl rfl ?_); refine Lib.hid ?_)) | go_values | go_skip | go_guarded | go_step | go_upon | go_back)
        intro v1 w1 a1 a2 a3
        have A1 := Lib.hid (And.intro a1 (And.intro a2 a3))
        clear a1 a2 a3 hS q1 q2
        repeat (first | (fail) | go_values | go_skip | go_guarded | go_step | go_upon | go_back)
        go_roundw
        case rel => exact ⟨k + 1, f, _, HK.out, by go_num, by go_num, hfi, hnO, A1⟩
        case measure => have := HK.out; simp [intOf]; omega
      · have hkbi : ¬ ((k : Int) < (b.length : Int)) := by omega
        obtain rfl : y = 0 := HYZ.out (by omega)
        obtain rfl : t = e := by have := HTE.out; omega
        clear ht
        repeat (first | ((at_builtin; go_loud (refine ownW_append hS.out.1 hS.out.2.1 hS.out.2.2 u HL.out rfl _ _ rfl _ 1 1 rfl rfl rfl rfl ?_); refine Lib.hid ?_)) | go_values | go_skip | go_guarded | go_step | go_upon | go_back)
        intro v1 w1 a1 a2 a3
        have A1 := Lib.hid (And.intro a1 (And.intro a2 a3))
        clear a1 a2 a3 hS q1
        repeat (first | (fail) | go_values | go_skip | go_guarded | go_step | go_upon | go_back)
        go_roundw
        case rel => exact ⟨k + 1, f, _, HK.out, by go_num, by go_num, hfi, hnO, A1⟩
        case measure => have := HK.out; simp [intOf]; omega
    · obtain rfl : k = a.length := by omega
      obtain ⟨hOw, hB, hle⟩ := hS.out
      obtain ⟨hOl, hOv⟩ := hO.out
      rw [List.take_length, List.take_of_length_le HLY.out, HVX.out, HVY.out] at hOv
      have hval : va O = x - y := by
        have h1 := va_lt O
        have h2 := HXY.out
        rw [hOl] at h1
        have : e = 0 ∨ e = 1 := by omega
        rcases this with rfl | rfl <;> omega
      obtain ⟨A1, c1, rfl, hc, hD⟩ := hOw.digs
      have htr := ref_trim_va A1 c1 O wr hc (by omega) w.heap.size hD
      have hle2 := len_va_le O
      have hDT := hD.trim
      rw [hval] at htr hle2 hDT
      rw [hOl] at htr
      have HTR := Lib.hid htr; have HLE := Lib.hid (Nat.le_trans hle2 hc); have HDT := Lib.hid hDT; have HBB := Lib.hid hB
      clear htr hle2 hDT hD hS hO hOw hB hle hOv hval hc hlt
      repeat (first | (go_at_call 77; refine (Hid.out (p := _) ?_)) | go_values | go_skip | go_guarded | go_step | go_upon | go_back)
      refine Lib.hid ?_
      refine HTR.out.mono ?_
      rintro e w1 ⟨rfl, rfl⟩
      simp only []
      repeat (first | (fail) | go_values | go_skip | go_guarded | go_step | go_upon | go_back)
      go_ret
      exact ⟨HBB.out, _, rfl, _, c1, rfl, HLE.out, HDT.out⟩
end Go.Proofs.YtdmfbcfhfopipaaGreatDoor

