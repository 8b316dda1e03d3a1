/- The document's own reader of a name (its chapter 1): its labels, whether it is one, and the name in small letters. -/
import Derived.Test.YtdmfbcfhfopipaaGreatDoorNameLower
import Derived.Test.YtdmfbcfhfopipaaGreatDoorTell
import Derived.Test.YtdmfbcfhfopipaaGreatDoorRows8
namespace Go.Proofs.YtdmfbcfhfopipaaGreatDoor
open Go.RowKit

/-- A text whose first k bytes have been made small. -/
def smallK (s : ByteArray) (k : Nat) : ByteArray := ⟨((s.data.toList.take k).map smallB ++ s.data.toList.drop k).toArray⟩
theorem smallK_size (s : ByteArray) (k : Nat) : (smallK s k).size = s.size := by
  show (((s.data.toList.take k).map smallB ++ s.data.toList.drop k).toArray).size = s.data.size
  simp; omega
theorem smallK_byt (s : ByteArray) (k j : Nat) (hj : j < s.size) : byt (smallK s k) j = if j < k then smallB (byt s j) else byt s j := by
  have hl : s.data.toList.length = s.size := by simp
  simp only [byt, smallK, List.getD]
  by_cases h : j < k
  · rw [if_pos h, List.getElem?_append_left (by simp; omega)]
    rw [List.getElem?_map, List.getElem?_take, if_pos h, Array.getElem?_toList, Array.getElem?_eq_getElem (show j < s.data.size from hj)]
    rfl
  · rw [if_neg h, List.getElem?_append_right (by simp; omega)]
    have e : j - ((s.data.toList.take k).map smallB).length + min k s.size = j := by simp; omega
    simp only [List.getElem?_drop, List.length_map, List.length_take, hl]
    by_cases hk : k ≤ s.size
    · rw [Nat.min_eq_left hk, show k + (j - k) = j by omega]
    · omega
theorem smallK_zero (s : ByteArray) : smallK s 0 = s := by cases s; simp [smallK]
theorem smallK_all (s : ByteArray) : smallK s s.size = lowS s := bytes_ext (by rw [smallK_size, size_lowS]) fun j hj => by
  rw [smallK_size] at hj
  rw [smallK_byt s _ j hj, if_pos hj, byt_lowS s j hj]
theorem smallK_next (s : ByteArray) (k : Nat) (hk : k < s.size) : smallK s (k + 1) = bset (smallK s k) k (smallB (byt s k)) := bytes_ext (by rw [size_bset, smallK_size, smallK_size]) fun j hj => by
  rw [smallK_size] at hj
  rw [byt_bset _ _ _ _ (by rw [smallK_size]; exact hk), smallK_byt s _ j hj, smallK_byt s _ j hj]
  by_cases e : k = j
  · subst e; rw [if_pos (by omega), if_pos rfl]
  · rw [if_neg e]
    by_cases h : j < k
    · rw [if_pos (by omega), if_pos h]
    · rw [if_neg (by omega), if_neg h]
theorem smallK_skip (s : ByteArray) (k : Nat) (h : smallB (byt s k) = byt s k) : smallK s (k + 1) = smallK s k := bytes_ext (by rw [smallK_size, smallK_size]) fun j hj => by
  rw [smallK_size] at hj
  rw [smallK_byt s _ j hj, smallK_byt s _ j hj]
  by_cases e : k = j
  · subst e; rw [if_pos (by omega), if_neg (by omega), h]
  · by_cases h : j < k
    · rw [if_pos (by omega), if_pos h]
    · rw [if_neg (by omega), if_neg h]

set_option maxRecDepth 10000 in
theorem smallB_big (x : UInt8) (h1 : 65 ≤ x.toNat) (h2 : x.toNat ≤ 90) : (smallB x).toNat = x.toNat + 32 := by
  have key : ∀ n : Fin 256, 65 ≤ n.val → n.val ≤ 90 → (smallB (UInt8.ofNat n.val)).toNat = n.val + 32 := by decide
  have := key ⟨x.toNat, x.toNat_lt⟩ h1 h2
  simpa using this

set_option maxRecDepth 100000 in
theorem ref_small (s : ByteArray) (hz : s.size ≤ 2000) (w : World) : Calls Tryz.prog 69 #[.string s] w fun e w' => e = .returned (.string (lowS s)) ∧ Below w.heap.size w w' := by
  have hcv := conv_string_bytes
  have hst := BytesAt.new w s
  have hbl := below_bytesWorld w 5 s
  have hsz := Lib.bytesWorld_size w 5 s
  have HS := Lib.hid hst; have HB := Lib.hid hbl; have HZ := Lib.hid hsz
  clear hst hbl hsz
  go_enter Tryz.func69, Tryz.ntmps69
  go_wp2
  go_loopw [4] (fun i wr => ∃ k : Nat, k ≤ s.size ∧ i = .int .i64 k ∧ Hid (BytesAt wr w.heap.size (smallK s k)) ∧ Hid (Below w.heap.size w wr ∧ w.heap.size < wr.heap.size)) (fun i _ => s.size - (intOf i).toNat)
  case atStart => exact ⟨0, Nat.zero_le _, rfl, by rw [smallK_zero]; exact HS, Lib.hid ⟨HB.out, by have := HZ.out; omega⟩⟩
  case round =>
    obtain ⟨k, hk, rfl, hA, hB⟩ := hrel
    by_cases hlt : k < s.size
    · have hc := (hA.out k (by rw [smallK_size]; exact hlt)).1
      have hf := (hA.out k (by rw [smallK_size]; exact hlt)).2
      rw [smallK_byt s k k hlt, if_neg (by omega)] at hc
      have hn := smallK_next s k hlt
      have hsk := smallK_skip s k
      have hset := hA.out.set k (smallB (byt s k)) (by rw [smallK_size]; exact hlt)
      rw [← hn] at hset
      have hx := (byt s k).toNat_lt
      by_cases h1 : 65 ≤ (byt s k).toNat
      · by_cases h2 : (byt s k).toNat ≤ 90
        · have hv : ((smallB (byt s k)).toNat : Int) = ((byt s k).toNat : Int) + 32 := by
            have := smallB_big _ h1 h2
            omega
          rw [hv] at hset
          generalize byt s k = x at *
          have q1 : (65 : Int) ≤ (x.toNat : Int) := by omega
          have q2 : (x.toNat : Int) ≤ 90 := by omega
          have HSet := Lib.hid hset
          clear hset hsk hn hv h1 h2 hA
          go_wp2
          go_roundw
          case rel => exact ⟨k + 1, by omega, by go_num, HSet, Lib.hid ⟨hB.out.1.setCell (Nat.le_refl _) _, by simpa using hB.out.2⟩⟩
          case measure => simp [intOf]; omega
        · have hsm : smallB (byt s k) = byt s k := by unfold smallB; rw [if_neg (by intro h; have := h.2; rw [UInt8.le_iff_toNat_le] at this; exact h2 this)]
          have he := hsk hsm
          have hA2 : Hid (BytesAt wr w.heap.size (smallK s (k + 1))) := by rw [he]; exact hA
          generalize byt s k = x at *
          have q1 : (65 : Int) ≤ (x.toNat : Int) := by omega
          have q2 : (90 : Int) < (x.toNat : Int) := by omega
          clear hset hsk hn h1 h2 hA hsm he
          go_wp2
          go_roundw
          case rel => exact ⟨k + 1, by omega, by go_num, hA2, hB⟩
          case measure => simp [intOf]; omega
      · have hsm : smallB (byt s k) = byt s k := by unfold smallB; rw [if_neg (by intro h; have := h.1; rw [UInt8.le_iff_toNat_le] at this; exact h1 this)]
        have he := hsk hsm
        have hA2 : Hid (BytesAt wr w.heap.size (smallK s (k + 1))) := by rw [he]; exact hA
        generalize byt s k = x at *
        have q1 : (x.toNat : Int) < 65 := by omega
        clear hset hsk hn h1 hA hsm he
        go_wp2
        go_roundw
        case rel => exact ⟨k + 1, by omega, by go_num, hA2, hB⟩
        case measure => simp [intOf]; omega
    · obtain rfl : k = s.size := by omega
      rw [smallK_all] at hA
      have hcs := hA.out.string s.size (grownCap w s.size 0 5) (size_lowS s).symm
      have HV := Lib.hid hB.out.1
      clear hA hB
      go_wp2
      go_ret
      exact ⟨rfl, HV.out⟩
end Go.Proofs.YtdmfbcfhfopipaaGreatDoor
