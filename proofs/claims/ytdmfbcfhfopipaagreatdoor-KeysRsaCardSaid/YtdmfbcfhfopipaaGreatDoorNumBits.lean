/- Nat.Bits, walked. -/
import Derived.Test.YtdmfbcfhfopipaaGreatDoorNum
namespace Go.Proofs.YtdmfbcfhfopipaaGreatDoor
open Go.RowKit

/-- How many bits digits have. -/
def bitsL (l : List W32) : Int := if l = [] then 0 else 32 * (l.length : Int) - (32 - (Lib.bitLen (l.getD (l.length - 1) 0).toNat : Int))

theorem bitLenAux_le : ∀ (f x k : Nat), x < 2 ^ k → Lib.bitLenAux f x ≤ k := by
  intro f
  induction f with
  | zero => intro x k _; exact Nat.zero_le _
  | succ f ih =>
    intro x k h
    unfold Lib.bitLenAux
    split
    · exact Nat.zero_le _
    · cases k with
      | zero => simp at h; contradiction
      | succ k =>
        have := ih (x / 2) k (by rw [Nat.pow_succ] at h; omega)
        omega
theorem bitLen_le (x k : Nat) (h : x < 2 ^ k) : Lib.bitLen x ≤ k := bitLenAux_le 64 x k h

set_option maxRecDepth 100000 in
set_option maxHeartbeats 1000000 in
theorem nat_bits (v : Value) (l : List W32) (w : World) (lo : Nat) (hv : NatV lo w v l) (hl : l.length ≤ 1000000000000) :
    Calls Tryz.prog 40 #[v] w fun e w' => e = .returned (.int .i64 (bitsL l)) ∧ Below w.heap.size w w' := by
  obtain ⟨A, c, rfl, hlc, hcm, hd⟩ := hv
  rcases hd with rfl | ⟨b, rfl, _, hlt, hcell⟩
  · go_enter Tryz.func40, Tryz.ntmps40
    go_wp2_with fail
    go_ret
    exact ⟨rfl, (Below.refl w.heap.size w).alloc (Nat.le_refl _) _⟩
  · by_cases h0 : l.length = 0
    · have : l = [] := List.eq_nil_of_length_eq_zero h0
      subst this
      go_enter Tryz.func40, Tryz.ntmps40
      go_wp2_with fail
      go_ret
      exact ⟨rfl, (Below.refl w.heap.size w).alloc (Nat.le_refl _) _⟩
    · have hbl : bitsL l = 32 * (l.length : Int) - (32 - (Lib.bitLen (l.getD (l.length - 1) 0).toNat : Int)) := by
        rw [bitsL, if_neg]; intro h; subst h; simp at h0
      rw [hbl]
      obtain ⟨n, hn⟩ : ∃ n, l.length = n + 1 := ⟨l.length - 1, by omega⟩
      have hc := hcell n (by omega)
      rw [hn] at hlc hl ⊢
      rw [show n + 1 - 1 = n from rfl]
      generalize l.getD n 0 = x at hc ⊢
      have hcW : ∀ o, (w.alloc o).cell? ⟨b, n, none⟩ = some (.int .u32 (wd x)) := fun o => by
        rw [((Below.refl w.heap.size w).alloc (Nat.le_refl _) o).cell (p := ⟨b, n, none⟩) hlt]; exact hc
      have hx0 := wd_nonneg x
      have hx1 : wd x ≤ 4294967295 := by have := wd_lt x; omega
      have hxn : (wd x).toNat = x.toNat := by simp [wd]
      have hlz := fun w => Tryz.bits_LeadingZeros32 (wd x) w hx0 hx1
      rw [hxn] at hlz
      have hbx : Lib.bitLen x.toNat ≤ 32 := bitLen_le x.toNat 32 x.isLt
      generalize Lib.bitLen x.toNat = bl at hlz hbx ⊢
      have HLZ := Lib.hid hlz
      have hne : (((n : Int) + 1) == 0) = false := by rw [beq_eq_false_iff_ne]; omega
      clear hcell hc hbl hx0 hx1 hxn hlz hn h0
      go_enter Tryz.func40, Tryz.ntmps40
      have hnc : (n : Int) < (n : Int) + 1 := by omega
      have hw1 : (n : Int) + 1 - 1 = (n : Int) := by omega
      go_wp2_with fail
      go_quiet ((go_at_call 76; exact Calls.quiet_of_same ((HLZ.out _).mono fun e w' h => ⟨h.1, h.2⟩)))
      go_wp2_with fail
      go_ret
      have hb := (Below.refl w.heap.size w).alloc (Nat.le_refl _) (.cells #[.slice (some ⟨b, 0, none⟩) (n + 1) c] 45)
      exact ⟨ret_int (by push_cast; rfl), hb.os, hb.tape, hb.output, hb.size, hb.block⟩
end Go.Proofs.YtdmfbcfhfopipaaGreatDoor
