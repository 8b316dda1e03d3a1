/- Trimmed digits hang on the digits alone. -/
import Derived.Test.YtdmfbcfhfopipaaGreatDoorNum
namespace Go.Proofs.YtdmfbcfhfopipaaGreatDoor
open Go.RowKit

theorem trimN_spec (l : List W32) (n : Nat) : (∀ i, trimN l n ≤ i → i < n → l.getD i 0 = 0) ∧ (0 < trimN l n → l.getD (trimN l n - 1) 0 ≠ 0) := by
  induction n with
  | zero => exact ⟨fun i _ h => by omega, fun h => by simp [trimN] at h⟩
  | succ n ih =>
    unfold trimN
    split
    · rename_i hz
      refine ⟨fun i h1 h2 => ?_, ih.2⟩
      by_cases e : i = n
      · rw [e]; exact hz
      · exact ih.1 i h1 (by omega)
    · rename_i hz
      exact ⟨fun i h1 h2 => by omega, fun _ => by simpa using hz⟩
theorem getD_past (l : List W32) (i : Nat) (h : l.length ≤ i) : l.getD i 0 = 0 := by
  simp [List.getD, List.getElem?_eq_none h]
theorem trim_ext {l l' : List W32} (h : ∀ i, l.getD i 0 = l'.getD i 0) : trimL l = trimL l' := by
  obtain ⟨a1, a2⟩ := trimN_spec l l.length
  obtain ⟨b1, b2⟩ := trimN_spec l' l'.length
  have la := trimN_le l l.length
  have lb := trimN_le l' l'.length
  have za : ∀ i, trimN l l.length ≤ i → l.getD i 0 = 0 := fun i hi => by
    by_cases hl : i < l.length
    · exact a1 i hi hl
    · exact getD_past l i (by omega)
  have zb : ∀ i, trimN l' l'.length ≤ i → l'.getD i 0 = 0 := fun i hi => by
    by_cases hl : i < l'.length
    · exact b1 i hi hl
    · exact getD_past l' i (by omega)
  have hT : trimN l l.length = trimN l' l'.length := by
    rcases Nat.lt_trichotomy (trimN l l.length) (trimN l' l'.length) with hlt | he | hlt
    · exact absurd ((h _).symm.trans (za (trimN l' l'.length - 1) (by omega))) (b2 (by omega))
    · exact he
    · exact absurd ((h _).trans (zb (trimN l l.length - 1) (by omega))) (a2 (by omega))
  unfold trimL
  rw [hT]
  rw [hT] at la
  generalize trimN l' l'.length = T at la lb
  apply List.ext_getElem
  · simp; omega
  · intro i h1 h2
    have hi := h i
    have e1 : i < l.length := by simp at h1; omega
    have e2 : i < l'.length := by simp at h2; omega
    simpa [List.getD, List.getElem?_eq_getElem e1, List.getElem?_eq_getElem e2] using hi
end Go.Proofs.YtdmfbcfhfopipaaGreatDoor
