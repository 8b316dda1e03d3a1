/- The document's own numbers (its chapter 5): Bytes. -/
import Derived.Test.YtdmfbcfhfopipaaGreatDoorRef5W
namespace Go.Proofs.YtdmfbcfhfopipaaGreatDoor
open Go.RowKit

theorem bitsL_nat (l : List W32) : ∃ B : Nat, bitsL l = (B : Int) ∧ B ≤ 32 * l.length := by
  unfold bitsL
  by_cases h : l = []
  · exact ⟨0, by rw [if_pos h]; rfl, by omega⟩
  · rw [if_neg h]
    have hl : 0 < l.length := List.length_pos_iff.2 h
    have hb := bitLen_le (l.getD (l.length - 1) 0).toNat 32 (l.getD (l.length - 1) 0).isLt
    exact ⟨32 * (l.length - 1) + Lib.bitLen (l.getD (l.length - 1) 0).toNat, by omega, by omega⟩
/-- The bytes of a number. -/
def bytesL (l : List W32) : ByteArray := wideS l ((bitsL l + 7) / 8).toNat
set_option maxRecDepth 100000 in
set_option maxHeartbeats 400000 in
theorem ref_bytes (A : Option Addr) (c : Nat) (l : List W32) (w : World) (hc : l.length ≤ c) (hl : l.length ≤ 100000) (lo : Nat) (hA : DigsAt lo w A l) :
    Calls Tryz.prog 43 #[.slice A l.length c] w fun e w' => e = .returned (.string (bytesL l)) ∧ Below w.heap.size w w' := by
  have hbi := ref_bits A c l w hc (by omega) lo hA
  obtain ⟨B, hB, hBl⟩ := bitsL_nat l
  have hby : bytesL l = wideS l ((B + 7) / 8) := by rw [bytesL, hB]; congr 1
  have hwi := ref_wide A c l ((B + 7) / 8) w hc (by omega) (by omega) lo hA
  rw [hB] at hbi
  rw [hby]
  obtain ⟨m, hm⟩ : ∃ m, m = (B + 7) / 8 := ⟨_, rfl⟩
  rw [← hm] at hwi ⊢
  have hq : ((B : Int) + 7) / 8 = (m : Int) := by omega
  have hBb : (B : Int) ≤ 3200000 := by omega
  have HBI := Lib.hid hbi; have HWI := Lib.hid hwi
  clear hbi hwi hby hB hBl hm hA
  go_enter Tryz.func43, Tryz.ntmps43
  go_wp2_with (first
    | (go_at_call 21; refine HBI.out.mono ?_; rintro e w1 ⟨rfl, rfl⟩)
    | (go_at_call 45; refine HWI.out.mono ?_; rintro e w2 ⟨rfl, hb⟩; replace hb := Lib.hid hb))
  go_ret
  exact ⟨rfl, hb.out⟩
end Go.Proofs.YtdmfbcfhfopipaaGreatDoor
