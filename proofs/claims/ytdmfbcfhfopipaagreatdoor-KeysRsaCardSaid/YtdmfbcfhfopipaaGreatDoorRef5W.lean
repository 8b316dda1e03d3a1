/- The document's own numbers (its chapter 5): Wide. -/
import Derived.Test.YtdmfbcfhfopipaaGreatDoorRef5
import Derived.Test.YtdmfbcfhfopipaaGreatDoorLower
namespace Go.Proofs.YtdmfbcfhfopipaaGreatDoor
open Go.RowKit

/-- Byte k of a number, the least first. -/
def wideB (l : List W32) (k : Nat) : UInt8 := if k / 4 < l.length then by8 (l.getD (k / 4) 0 >>> (8 * (k % 4))) else 0
def wideS (l : List W32) (m : Nat) : ByteArray := bs ((List.range m).map fun i => wideB l (m - 1 - i))
theorem wideS_size (l : List W32) (m : Nat) : (wideS l m).size = m := by rw [wideS, bs_size]; simp
theorem wideS_byt (l : List W32) (m j : Nat) (h : j < m) : byt (wideS l m) j = wideB l (m - 1 - j) := by
  have e : (wideS l m).data.toList = (List.range m).map fun i => wideB l (m - 1 - i) := by simp [wideS, bs]
  rw [byt, e, List.getD_eq_getElem?_getD, List.getElem?_map, List.getElem?_range h]; rfl
/-- k bytes are laid. -/
def WideAt (l : List W32) (m k : Nat) (t : ByteArray) : Prop := t.size = m ∧ ∀ j, j < m → byt t j = if m - 1 - j < k then wideB l (m - 1 - j) else 0
def zeroS (m : Nat) : ByteArray := ⟨Array.replicate m 0⟩
theorem zeroS_enc (m : Nat) : encS (zeroS m) = madeCells #[.int .u8 0] m := by
  rw [madeCells_one]; simp [encS, zeroS]
theorem WideAt.start (l : List W32) (m : Nat) : WideAt l m 0 (zeroS m) := by
  refine ⟨by simp [zeroS, ByteArray.size], fun j hj => ?_⟩
  rw [if_neg (by omega)]
  simp [byt, zeroS, List.getD, hj]
theorem WideAt.put {l : List W32} {m k : Nat} {t : ByteArray} (h : WideAt l m k t) (hk : k < m) : WideAt l m (k + 1) (bset t (m - 1 - k) (wideB l k)) := by
  refine ⟨by rw [size_bset]; exact h.1, fun j hj => ?_⟩
  rw [byt_bset _ _ _ _ (by rw [h.1]; omega)]
  by_cases e : m - 1 - k = j
  · rw [if_pos e, if_pos (by omega), show m - 1 - j = k by omega]
  · rw [if_neg e, h.2 j hj]
    by_cases h2 : m - 1 - j < k
    · rw [if_pos h2, if_pos (by omega)]
    · rw [if_neg h2, if_neg (by omega)]
theorem WideAt.skip {l : List W32} {m k : Nat} {t : ByteArray} (h : WideAt l m k t) (_hk : k < m) (hz : wideB l k = 0) : WideAt l m (k + 1) t := by
  refine ⟨h.1, fun j hj => ?_⟩
  rw [h.2 j hj]
  by_cases h2 : m - 1 - j < k
  · rw [if_pos h2, if_pos (by omega)]
  · rw [if_neg h2]
    by_cases h3 : m - 1 - j = k
    · rw [h3, if_pos (by omega), hz]
    · rw [if_neg (by omega)]
theorem WideAt.all {l : List W32} {m : Nat} {t : ByteArray} (h : WideAt l m m t) : t = wideS l m :=
  bytes_ext (by rw [wideS_size]; exact h.1) fun j hj => by
    rw [h.1] at hj
    rw [h.2 j hj, if_pos (by omega), wideS_byt l m j hj]

set_option maxRecDepth 100000 in
set_option maxHeartbeats 400000 in
theorem ref_wide (A : Option Addr) (c : Nat) (l : List W32) (m : Nat) (w : World) (hc : l.length ≤ c) (hl : l.length ≤ 1000000) (hm : m ≤ 1000000) (lo : Nat) (hA : DigsAt lo w A l) :
    Calls Tryz.prog 45 #[.slice A l.length c, .int .i64 m] w fun e w' => e = .returned (.string (wideS l m)) ∧ Below w.heap.size w w' := by
  have HA := Lib.hid hA
  have hmk := run_make_row' 41 5 (.int .u8 0) 1 Tryz.underlying41 info_u8b rfl .i64 .i64 m (by omega) (by omega) w
  rw [← zeroS_enc] at hmk
  clear hA
  go_enter Tryz.func45, Tryz.ntmps45
  go_wp2_with fail
  have hb : Blk (w.alloc (.cells (encS (zeroS m)) 5)) w.heap.size (encS (zeroS m)) 5 := Blk.new w _ _
  have hB : Below w.heap.size w (w.alloc (.cells (encS (zeroS m)) 5)) := (Below.refl _ w).alloc (Nat.le_refl _) _
  have H0 := Lib.hid (And.intro hb hB)
  clear hb hB hmk
  go_loopw [6] (fun i wr => ∃ (k : Nat) (t : ByteArray), k ≤ m ∧ i = .int .i64 k ∧ Hid (WideAt l m k t) ∧ Hid (Blk wr w.heap.size (encS t) 5 ∧ Below w.heap.size w wr)) (fun i _ => m - (intOf i).toNat)
  case atStart => exact ⟨0, zeroS m, Nat.zero_le _, rfl, Lib.hid (WideAt.start l m), H0⟩
  case round =>
    obtain ⟨k, t, hk, rfl, hW, hS⟩ := hrel
    by_cases hlt : k < m
    · obtain ⟨k4, q4, e4⟩ : ∃ k4 : Nat, (k : Int) / 4 = (k4 : Int) ∧ k4 = k / 4 := ⟨k / 4, by omega, rfl⟩
      by_cases hin : k4 < l.length
      · obtain ⟨b, rfl, _, hbl, hcell⟩ : ∃ b, A = some ⟨b, 0, none⟩ ∧ lo ≤ b ∧ b < w.heap.size ∧ ∀ i, i < l.length → w.cell? ⟨b, i, none⟩ = some (.int .u32 (wd (l.getD i 0))) := by
          rcases HA.out with h | h
          · subst h; simp at hin
          · exact h
        have hcb : wr.cell? ⟨b, k4, none⟩ = some (.int .u32 (wd (l.getD k4 0))) := by rw [hS.out.2.cell (p := ⟨b, k4, none⟩) hbl]; exact hcell k4 hin
        have hq : (k4 : Int) < (l.length : Int) := by omega
        obtain ⟨sh, qs, es⟩ : ∃ sh : Nat, 8 * ((k : Int) % 4) = (sh : Int) ∧ sh = 8 * (k % 4) := ⟨8 * (k % 4), by omega, rfl⟩
        have hs32 : min sh 32 = sh := by omega
        obtain ⟨j, qj, ej⟩ : ∃ j : Nat, (m : Int) - 1 - (k : Int) = (j : Int) ∧ j = m - 1 - k := ⟨m - 1 - k, by omega, rfl⟩
        have hjm : (j : Int) < (m : Int) := by omega
        have hwb : wideB l k = by8 (l.getD k4 0 >>> sh) := by rw [wideB, ← e4, if_pos hin, es]
        have hput := hW.out.put hlt
        rw [hwb, ← ej] at hput
        have hshr := wd_shr (l.getD k4 0) sh
        generalize l.getD k4 0 = x at hcb hput hshr
        have hby := by8_int (x >>> sh)
        generalize by8 (x >>> sh) = y at hput hby
        have hcj : wr.cell? ⟨w.heap.size, j, none⟩ = some (.int .u8 ((byt t j).toNat : Int)) := by rw [hS.out.1.cell j, encS_get t j (by rw [hW.out.1]; omega)]
        have hfj := hS.out.1.free j
        have HP := Lib.hid hput
        have hnx : Hid (Blk (wr.setCell ⟨w.heap.size, j, none⟩ (.int .u8 (y.toNat : Int))) w.heap.size (encS (bset t j y)) 5 ∧ Below w.heap.size w (wr.setCell ⟨w.heap.size, j, none⟩ (.int .u8 (y.toNat : Int)))) :=
          Lib.hid ⟨by rw [encS_bset]; exact hS.out.1.set j _, hS.out.2.setCell (p := ⟨w.heap.size, j, none⟩) (Nat.le_refl _) _⟩
        clear hwb hput hcell hW hS es ej e4
        repeat (first | (fail) | go_values | go_skip | go_guarded | go_step | go_upon | go_back)
        go_roundw
        case rel => exact ⟨k + 1, _, by omega, by go_num, HP, hnx⟩
        case measure => simp [intOf]; omega
      · have hq : ¬ ((k4 : Int) < (l.length : Int)) := by omega
        have hz : wideB l k = 0 := by rw [wideB, ← e4, if_neg hin]
        have HP := Lib.hid (hW.out.skip hlt hz)
        clear hz hW e4
        repeat (first | (fail) | go_values | go_skip | go_guarded | go_step | go_upon | go_back)
        go_roundw
        case rel => exact ⟨k + 1, t, by omega, by go_num, HP, hS⟩
        case measure => simp [intOf]; omega
    · obtain rfl : k = m := by omega
      have ht := hW.out.all
      subst ht
      have hcs := conv_bytes_string wr w.heap.size k k (wideS l k) hS.out.1 (wideS_size l k).symm
      go_wp2_with fail
      go_ret
      exact ⟨rfl, hS.out.2⟩
end Go.Proofs.YtdmfbcfhfopipaaGreatDoor
