/- keys.Rsa and the document's Rsa, in one form each. -/
import Derived.Test.YtdmfbcfhfopipaaGreatDoorRsa2
import Derived.Test.YtdmfbcfhfopipaaGreatDoorRefRsa
namespace Go.Proofs.YtdmfbcfhfopipaaGreatDoor
open Go.RowKit

/-- The digits of a key's exponent, and of its modulus; whether it is one. -/
def rsaE (p : List UInt8) : List W32 := match rsaOf p with | none => [] | some (x, _) => numDigs x
def rsaN (p : List UInt8) : List W32 := match rsaOf p with | none => [] | some (_, y) => numDigs y
def rsaGood (p : List UInt8) : Bool := (rsaOf p).isSome
theorem rsa_all (p : ByteArray) (w : World) (hm : p.size ≤ 9223372036854775807) : Calls Tryz.prog 18 #[.string p] w fun e w' => Below w.heap.size w w' ∧ ∃ v u, e = .returned (.tuple #[v, u, .int .i64 (if rsaGood p.data.toList then 0 else 8)]) ∧ NatV w.heap.size w' v (rsaE p.data.toList) ∧ NatV w.heap.size w' u (rsaN p.data.toList) := by
  refine (rsa_any p w hm).mono ?_
  rintro e w' ⟨hB, h⟩
  refine ⟨hB, ?_⟩
  generalize p.data.toList = l at h
  unfold rsaE rsaN rsaGood
  cases hl : rsaOf l with
  | none =>
    rw [hl] at h
    exact ⟨_, _, h, ⟨none, 0, rfl, Nat.le_refl _, by omega, .inl rfl⟩, ⟨none, 0, rfl, Nat.le_refl _, by omega, .inl rfl⟩⟩
  | some x =>
    rw [hl] at h
    obtain ⟨v, u, h1, h2, h3⟩ := h
    exact ⟨v, u, h1, h2, h3⟩
theorem ref_rsa_all (p : ByteArray) (w : World) (hm : p.size ≤ 9223372036854775807) : Calls Tryz.prog 19 #[.string p] w fun e w' => Below w.heap.size w w' ∧ ∃ A c B d, e = .returned (.tuple #[.slice A (rsaE p.data.toList).length c, .slice B (rsaN p.data.toList).length d, .bool (rsaGood p.data.toList)]) ∧ (rsaE p.data.toList).length ≤ c ∧ (rsaN p.data.toList).length ≤ d ∧ DigsAt w.heap.size w' A (rsaE p.data.toList) ∧ DigsAt w.heap.size w' B (rsaN p.data.toList) := by
  refine (ref_rsa p w hm).mono ?_
  rintro e w' ⟨hB, h⟩
  refine ⟨hB, ?_⟩
  generalize p.data.toList = l at h
  unfold rsaE rsaN rsaGood
  cases hl : rsaOf l with
  | none =>
    rw [hl] at h
    exact ⟨none, 0, none, 0, h, Nat.le_refl _, Nat.le_refl _, .inl rfl, .inl rfl⟩
  | some x =>
    rw [hl] at h
    obtain ⟨A, c, B, d, h1, h2, h3, h4, h5⟩ := h
    exact ⟨A, c, B, d, h1, h2, h3, h4, h5⟩
/-- What a right key's split tells. -/
theorem rsa_parts {p x y : List UInt8} (h : rsaOf p = some (x, y)) : ∃ sz r, rsaSplit p = some (sz, r) ∧ rsaOk sz r = true ∧ x = r.take sz ∧ y = r.drop sz := by
  unfold rsaOf at h
  cases hs : rsaSplit p with
  | none => rw [hs] at h; cases h
  | some q =>
    obtain ⟨sz, r⟩ := q
    rw [hs] at h
    simp only [] at h
    cases hk : rsaOk sz r with
    | false => rw [hk] at h; cases h
    | true =>
      rw [hk] at h
      simp only [if_true, Option.some.injEq, Prod.mk.injEq] at h
      exact ⟨sz, r, rfl, hk, h.1.symm, h.2.symm⟩
theorem rsa_small (p : List UInt8) : (rsaE p).length ≤ 256 ∧ (rsaN p).length ≤ 256 := by
  unfold rsaE rsaN
  cases hl : rsaOf p with
  | none => simp
  | some q =>
    obtain ⟨x, y⟩ := q
    obtain ⟨sz, r, _, hk, rfl, rfl⟩ := rsa_parts hl
    simp only [rsaOk, Bool.and_eq_true, decide_eq_true_eq] at hk
    have h1 := numDigs_len (r.take sz)
    have h2 := numDigs_len (r.drop sz)
    rw [List.length_take] at h1
    rw [List.length_drop] at h2
    simp only []
    omega
end Go.Proofs.YtdmfbcfhfopipaaGreatDoor
