/- The document's own text made up to blocks (its chapter 4). -/
import Derived.Test.YtdmfbcfhfopipaaGreatDoorRefTell
import Derived.Test.YtdmfbcfhfopipaaGreatDoorRowApp
namespace Go.Proofs.YtdmfbcfhfopipaaGreatDoor
open Go.RowKit

def lenV : Value → Nat
  | .slice _ n _ => n
  | _ => 0
def zerosOf (n : Nat) : Nat := (119 - n % 64) % 64
theorem zerosOf_lt (n k : Nat) (h : k < zerosOf n) : (n + 1 + k) % 64 ≠ 56 := by unfold zerosOf at h; omega
theorem zerosOf_eq (n : Nat) : (n + 1 + zerosOf n) % 64 = 56 := by unfold zerosOf; omega
theorem lenB_next (N m : Nat) : lenB N (m + 1) = lenB N m ++ [UInt8.ofNat (N / 2 ^ (56 - 8 * m))] := by simp [lenB, List.range_succ]

set_option maxRecDepth 100000 in
set_option maxHeartbeats 600000 in
theorem ref_padded (s : ByteArray) (hs : s.size ≤ 1000000) (w : World) : Calls Tryz.prog 65 #[.string s] w fun e w' => e = .returned (.string (bs (padL s.data.toList))) ∧ Below w.heap.size w w' := by
  have hcv := conv_string_bytes w s
  have hst := byAt_new w s hs
  have hbl := below_bytesWorld w 5 s
  have hsz := Lib.bytesWorld_size w 5 s
  have hl : s.data.toList.length = s.size := by simp
  have hp : padL s.data.toList = s.data.toList ++ (padT s.size ++ lenB (8 * s.size) 8) := by
    rw [padL, hl, Nat.mod_eq_of_lt (by omega)]
  generalize padL s.data.toList = P at hp ⊢
  generalize s.data.toList = l at hst hl hp
  generalize Lib.bytesWorld w 5 s = W0 at hcv hst hbl hsz
  generalize grownCap w s.size 0 5 = cap at hcv hst
  have H0 : Hid (ByAt w.heap.size (.slice (some ⟨w.heap.size, 0, none⟩) s.size cap) l W0 ∧ Below w.heap.size w W0 ∧ w.heap.size ≤ W0.heap.size) := Lib.hid ⟨hst, hbl, by omega⟩
  have HP := Lib.hid hp; have HL := Lib.hid hl
  have info := info_u8b
  clear hst hbl hsz hp hl
  go_enter Tryz.func65, Tryz.ntmps65
  go_wp2_with (at_builtin; go_loud (refine byAt_append H0.out.1 H0.out.2.1 H0.out.2.2 128 (by rw [HL.out]; omega) rfl _ _ rfl _ 1 1 rfl rfl rfl rfl ?_))
  intro v1 w1 a1 a2 a3
  have A1 := Lib.hid (And.intro a1 (And.intro a2 a3))
  clear a1 a2 a3
  clear H0 hcv
  have hA1 : Hid (ByAt w.heap.size v1 (l ++ 128 :: List.replicate 0 0) w1 ∧ Below w.heap.size w w1 ∧ w.heap.size ≤ w1.heap.size) := A1
  clear A1
  go_wp2_with fail
  go_loopw [4] (fun v wr => ∃ k : Nat, k ≤ zerosOf s.size ∧ Hid (ByAt w.heap.size v (l ++ 128 :: List.replicate k 0) wr ∧ Below w.heap.size w wr ∧ w.heap.size ≤ wr.heap.size)) (fun v _ => s.size + 1 + zerosOf s.size - lenV v)
  case atStart => exact ⟨0, Nat.zero_le _, hA1⟩
  case round =>
    obtain ⟨k, hk, hA⟩ := hrel
    have hlen : (l ++ 128 :: List.replicate k 0).length = s.size + 1 + k := by simp [HL.out]; omega
    obtain ⟨g, cap', e⟩ := hA.out.1.slice
    rw [hlen] at e
    generalize hn : s.size + 1 + k = n at e hlen
    have HN := Lib.hid hn
    have HLen := Lib.hid hlen
    subst e
    by_cases hz : k < zerosOf s.size
    · have hq : ((n : Int) % 64 != 56) = true := by have := zerosOf_lt _ _ hz; simp; omega
      clear hn hlen
      go_wp2_with (at_builtin; go_loud (refine byAt_append hA.out.1 hA.out.2.1 hA.out.2.2 0 (by rw [HLen.out]; have := HN.out; have : zerosOf s.size < 64 := Nat.mod_lt _ (by omega); omega) rfl _ _ rfl _ 1 1 rfl rfl rfl rfl ?_))
      intro v1 w1 a1 a2 a3
      have A1 := Lib.hid (And.intro a1 (And.intro a2 a3))
      clear a1 a2 a3
      have A2 : Hid (ByAt w.heap.size v1 (l ++ 128 :: List.replicate (k + 1) 0) w1 ∧ Below w.heap.size w w1 ∧ w.heap.size ≤ w1.heap.size) := by
        have h := A1.out
        rw [← List.replicate_succ'] at h
        exact Lib.hid h
      obtain ⟨g2, cap2, e2⟩ := A2.out.1.slice
      have hl2 : (l ++ 128 :: List.replicate (k + 1) 0).length = n + 1 := by have := HN.out; simp [HL.out]; omega
      rw [hl2] at e2
      have E2 := Lib.hid e2
      clear A1 e2 hA
      go_wp2_with fail
      go_roundw
      case rel => exact ⟨k + 1, by omega, A2⟩
      case measure =>
        have h1 := HN.out
        rw [E2.out]
        simp only [lenV]
        omega
    · obtain rfl : k = zerosOf s.size := by omega
      have hq : ((n : Int) % 64 != 56) = false := by have := zerosOf_eq s.size; simp; omega
      have hB : Hid (ByAt w.heap.size (.slice (some ⟨g, 0, none⟩) n cap') (l ++ (padT s.size ++ lenB (8 * s.size) 0)) wr ∧ Below w.heap.size w wr ∧ w.heap.size ≤ wr.heap.size) := by
        have h := hA.out
        rw [show padT s.size ++ lenB (8 * s.size) 0 = 128 :: List.replicate (zerosOf s.size) 0 by simp [padT, lenB, zerosOf]]
        exact Lib.hid h
      clear hA hn hlen
      have HN2 : Hid (n = s.size + 1 + zerosOf s.size) := Lib.hid HN.out.symm
      clear HN HLen
      go_wp2_with fail
      go_loopw [4, 5] (fun v z wr => ∃ (j : Nat) (zi : Int), j ≤ 8 ∧ Hid (zi = 7 - (j : Int)) ∧ z = .int .i64 zi ∧ Hid (ByAt w.heap.size v (l ++ (padT s.size ++ lenB (8 * s.size) j)) wr ∧ Below w.heap.size w wr ∧ w.heap.size ≤ wr.heap.size)) (fun _ z _ => (intOf z + 1).toNat)
      case atStart => exact ⟨0, 7, by omega, Lib.hid (by omega), rfl, hB⟩
      case round =>
        obtain ⟨j, zi, hj, hz7, rfl, hA⟩ := hrel
        by_cases hlt : j < 8
        · obtain ⟨kk, hkk⟩ : ∃ kk : Nat, kk = 7 - j := ⟨_, rfl⟩
          obtain rfl : zi = (kk : Int) := by have := hz7.out; omega
          obtain ⟨sh, hsh⟩ : ∃ sh : Nat, sh = 8 * kk := ⟨_, rfl⟩
          have h8 : (8 : Int) * (kk : Int) = (sh : Int) := by omega
          have hsl : sh ≤ 56 := by omega
          have hkl : kk ≤ 7 := by omega
          have hm : min sh 64 = sh := by omega
          have hbv : 8 * (s.size : Int) / 2 ^ sh % 256 = ((UInt8.ofNat (8 * s.size / 2 ^ sh)).toNat : Int) := by
            have e1 : (8 * (s.size : Int) / 2 ^ sh) = ((8 * s.size / 2 ^ sh : Nat) : Int) := by push_cast; rfl
            rw [e1]
            simp
          have hnx : lenB (8 * s.size) (j + 1) = lenB (8 * s.size) j ++ [UInt8.ofNat (8 * s.size / 2 ^ sh)] := by rw [lenB_next, show 56 - 8 * j = sh by omega]
          generalize UInt8.ofNat (8 * s.size / 2 ^ sh) = by_ at hbv hnx
          have hlen : (l ++ (padT s.size ++ lenB (8 * s.size) j)).length ≤ 2000000 := by
            have : zerosOf s.size < 64 := Nat.mod_lt _ (by omega)
            simp [padT, lenB, HL.out]; omega
          have HLN := Lib.hid hlen
          have HNX := Lib.hid hnx
          have HKK := Lib.hid hkk
          clear hlen hnx hkk hsh
          go_wp2_with (at_builtin; go_loud (refine byAt_append hA.out.1 hA.out.2.1 hA.out.2.2 by_ (by exact Nat.le_trans HLN.out (by omega)) rfl _ _ rfl _ 1 1 rfl rfl rfl rfl ?_))
          intro v1 w1 a1 a2 a3
          have A1 := Lib.hid (And.intro a1 (And.intro a2 a3))
          clear a1 a2 a3
          have A2 : Hid (ByAt w.heap.size v1 (l ++ (padT s.size ++ lenB (8 * s.size) (j + 1))) w1 ∧ Below w.heap.size w w1 ∧ w.heap.size ≤ w1.heap.size) := by
            have h := A1.out
            rw [← HNX.out] at h
            exact Lib.hid h
          clear A1 hA
          go_wp2_with fail
          go_roundw
          case rel => exact ⟨j + 1, (kk : Int) - 1, by omega, Lib.hid (by have := HKK.out; omega), rfl, A2⟩
          case measure => simp [intOf]
        · obtain rfl : j = 8 := by omega
          obtain rfl : zi = -1 := by have := hz7.out; omega
          have hcs := hA.out.1.string
          rw [← HP.out] at hcs
          have HV := Lib.hid hA.out.2.1
          clear hA
          go_wp2_with fail
          go_ret
          exact ⟨rfl, HV.out⟩
end Go.Proofs.YtdmfbcfhfopipaaGreatDoor
