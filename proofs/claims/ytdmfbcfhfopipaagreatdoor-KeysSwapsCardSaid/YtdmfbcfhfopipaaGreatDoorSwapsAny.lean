/- KeysSwaps, walked: true, whatever it is given. -/
import Derived.Test.YtdmfbcfhfopipaaGreatDoorSwaps
namespace Go.Proofs.YtdmfbcfhfopipaaGreatDoor
open Go.RowKit

theorem two_wrap (r : Nat) (h : r < 4000) : wrap64 (4 + wrap64 (2 * (r : Int))) = ((4 + 2 * r : Nat) : Int) := by
  have e1 : wrap64 (2 * (r : Int)) = 2 * (r : Int) := by unfold wrap64; omega
  rw [e1]
  unfold wrap64; omega
theorem keysswaps_any (d owner : ByteArray) (i j : Int) (w : World) (wi : -9223372036854775808 ≤ i ∧ i ≤ 9223372036854775807) (wj : -9223372036854775808 ≤ j ∧ j ≤ 9223372036854775807) :
    Calls Tryz.prog 5 #[.string d, .int .i64 i, .int .i64 j, .string owner] w fun e w' => e = .returned (.bool true) ∧ Below w.heap.size w w' := by
  by_cases hk : keyRight d = true
  · by_cases hm : (d.size - 4) / 2 < 2
    · exact keysswaps_few d owner i j w (.inr hm)
    · have h5 : 5 ≤ d.size ∧ d.size ≤ 2000 := by simpa [keyRight] using hk
      have sign : ∀ k : Int, -9223372036854775808 ≤ k ∧ k ≤ 9223372036854775807 → ∃ (k' : Int) (a : Nat), ((k < 0 ∧ k' = -(k + 1)) ∨ (0 ≤ k ∧ k' = k)) ∧ wrap64 (4 + wrap64 (2 * k'.tmod (((d.size - 4) / 2 : Nat) : Int))) = (a : Int) ∧ a % 2 = 0 ∧ a + 1 < d.size := by
        intro k hk
        have go : ∀ k' : Int, 0 ≤ k' → ∃ a : Nat, wrap64 (4 + wrap64 (2 * k'.tmod (((d.size - 4) / 2 : Nat) : Int))) = (a : Int) ∧ a % 2 = 0 ∧ a + 1 < d.size := by
          intro k' h0
          obtain ⟨n, rfl⟩ := Int.eq_ofNat_of_zero_le h0
          generalize hmm : (d.size - 4) / 2 = m at hm
          have hr : n % m < m := Nat.mod_lt _ (by omega)
          refine ⟨4 + 2 * (n % m), ?_, by omega, by omega⟩
          rw [show ((n : Nat) : Int).tmod (m : Int) = ((n % m : Nat) : Int) by rw [Int.tmod_eq_emod_of_nonneg (by omega)]; exact (Int.natCast_emod n m).symm]
          exact two_wrap (n % m) (by omega)
        by_cases h : k < 0
        · obtain ⟨a, h1, h2, h3⟩ := go (-(k + 1)) (by omega)
          exact ⟨_, a, .inl ⟨h, rfl⟩, h1, h2, h3⟩
        · obtain ⟨a, h1, h2, h3⟩ := go k (by omega)
          exact ⟨_, a, .inr ⟨by omega, rfl⟩, h1, h2, h3⟩
      obtain ⟨i', a, hi, hA, ea, la⟩ := sign i wi
      obtain ⟨j', b, hj, hB, eb, lb⟩ := sign j wj
      exact keysswaps_at d owner i j i' j' a b (a + 1) (b + 1) w hk (by omega) wi wj hi hj hA hB (by omega) (by omega) ea eb la lb
  · exact keysswaps_few d owner i j w (.inl (by simpa using hk))

theorem bd64S {n : Int} (h : (Lit.int .i64 n).wf = true) : -9223372036854775808 ≤ n ∧ n ≤ 9223372036854775807 := by
  simp only [Lit.wf, Bool.and_eq_true, decide_eq_true_eq] at h
  have e1 : IntKind.i64.min = -9223372036854775808 := by decide
  have e2 : IntKind.i64.max = 9223372036854775807 := by decide
  omega
end Go.Proofs.YtdmfbcfhfopipaaGreatDoor
