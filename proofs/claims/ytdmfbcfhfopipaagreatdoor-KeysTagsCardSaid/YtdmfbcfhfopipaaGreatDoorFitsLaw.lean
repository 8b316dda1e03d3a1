/- KeysFits: what its law computes is true. -/
import Derived.Test.YtdmfbcfhfopipaaGreatDoorExamples
namespace Go.Proofs.YtdmfbcfhfopipaaGreatDoor
open Go.RowKit

theorem xor1_ne (t : Int) (h0 : 0 ≤ t) (h1 : t < 9223372036854775807) : bits .xor .i64 t 1 ≠ t := by
  obtain ⟨n, rfl⟩ := Int.eq_ofNat_of_zero_le h0
  rw [show ((1 : Int)) = ((1 : Nat) : Int) from rfl, i64_xor_nat n 1 (by omega) (by omega)]
  intro h
  have h2 : n ^^^ 1 = n := by omega
  have h3 := congrArg (fun m => m.testBit 0) h2
  simp at h3
  omega
theorem tagOf_bd (d : ByteArray) : 0 ≤ tagOf d ∧ tagOf d < 65536 := by unfold tagOf; omega
set_option maxRecDepth 10000 in
theorem alg_bd (d : ByteArray) (_h : keyRight d = true) : 0 ≤ (keyOf d).alg ∧ (keyOf d).alg < 256 := by
  have hb := numFold_bd (d.extract 3 4).data.toList
  have hl : (d.extract 3 4).data.toList.length ≤ 1 := by simp [ByteArray.data_extract]; omega
  refine ⟨hb.1, ?_⟩
  have h2 := hb.2
  change numL (d.extract 3 4).data.toList < 256
  generalize (d.extract 3 4).data.toList = l at hl h2
  match l, hl with
  | [], _ => simp [numL]
  | [x], _ => simpa using h2

/-- What a key's Ds is, kind by kind, where there is one. -/
theorem keysOf_ok {owner d : ByteArray} {kind : Int} (h : (keysOf owner d kind).2 = 0) :
    (keysOf owner d kind).1.tag = tagOf d ∧ (keysOf owner d kind).1.alg = (keyOf d).alg ∧ (keysOf owner d kind).1.kind = kind ∧ (keysOf owner d kind).1.dig = (keysDigest kind owner d).1 ∧ (keysDigest kind owner d).2 = 0 := by
  unfold keysOf at *
  split at h
  · rename_i h1
    rw [if_pos h1]
    exact ⟨rfl, rfl, rfl, rfl, h1⟩
  · rename_i h1
    exact absurd h h1
theorem keysOf_err {owner d : ByteArray} {kind : Int} (h : (keysOf owner d kind).2 ≠ 0) : (keysOf owner d kind).1 = DsD.none := by
  unfold keysOf at *
  split at h
  · exact absurd rfl h
  · rename_i h1; rw [if_neg h1]
theorem dig_size {owner d : ByteArray} {kind : Int} (h : (keysDigest kind owner d).2 = 0) : (kind = 1 ∧ (keysDigest kind owner d).1.size = 20) ∨ (kind = 2 ∧ (keysDigest kind owner d).1.size = 32) := by
  obtain ⟨h1, h2, h3⟩ := keysDigest_ok h
  have e : keysDigest kind owner d = if kind = 1 then (bs (sum160 (lowS owner ++ d).data.toList), 0) else (bs (sum256 (lowS owner ++ d).data.toList), 0) := by
    rw [keysDigest, if_neg (by omega), if_neg (by rw [h2]; simp), if_neg (by rw [h1]; simp)]
  rcases h3 with rfl | rfl
  · left; rw [e]; exact ⟨rfl, (bs_size _).trans (sum160_len _)⟩
  · right; rw [e]; exact ⟨rfl, (bs_size _).trans (sum256_len _)⟩
/-- KeysFits' four Fits. -/
theorem fits_same {owner d : ByteArray} {kind : Int} (h : (keysOf owner d kind).2 = 0) : fitsB owner d (keysOf owner d kind).1 = true := by
  obtain ⟨_, _, hk, _⟩ := keysOf_ok h
  rw [fitsB, hk, h]
  simp
theorem fits_tag {owner d : ByteArray} {kind : Int} {y : DsD} (_h : (keysOf owner d kind).2 = 0) (hk : y.kind = kind) (hne : y.tag ≠ (keysOf owner d kind).1.tag ∨ y.alg ≠ (keysOf owner d kind).1.alg) : fitsB owner d y = false := by
  rw [fitsB, hk]
  rw [Bool.and_eq_false_iff]
  right
  rw [decide_eq_false_iff_not]
  intro e
  rw [e] at hne
  rcases hne with h | h <;> exact h rfl
theorem fits_kind {owner d : ByteArray} {kind : Int} (h : (keysOf owner d kind).2 = 0) (x : DsD) (hx : x.dig = (keysOf owner d kind).1.dig) (hk : x.kind = 3 - kind) : fitsB owner d x = false := by
  cases hf : fitsB owner d x with
  | false => rfl
  | true =>
    exfalso
    simp only [fitsB, Bool.and_eq_true, decide_eq_true_eq] at hf
    rw [hk] at hf
    obtain ⟨_, _, _, h4, h5⟩ := keysOf_ok h
    obtain ⟨_, _, _, g4, g5⟩ := keysOf_ok hf.1
    have e := congrArg DsD.dig hf.2
    rw [g4, hx, h4] at e
    have s1 := dig_size h5
    have s2 := dig_size g5
    have e2 := congrArg ByteArray.size e
    omega
theorem fits_err {owner d : ByteArray} {kind : Int} (x : DsD) (hk : x.kind = kind) (h : (keysOf owner d kind).2 ≠ 0) : fitsB owner d x = false := by
  rw [fitsB, hk]
  simp [h]
end Go.Proofs.YtdmfbcfhfopipaaGreatDoor
