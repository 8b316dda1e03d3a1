/- The document's own numbers (its chapter 5): trim. -/
import Derived.Test.YtdmfbcfhfopipaaGreatDoorNumBits
namespace Go.Proofs.YtdmfbcfhfopipaaGreatDoor
open Go.RowKit

set_option maxRecDepth 100000 in
set_option maxHeartbeats 1000000 in
theorem ref_trim (A : Option Addr) (c : Nat) (l : List W32) (w : World) (hc : l.length ≤ c) (hl : l.length ≤ 1000000) (lo : Nat) (hA : DigsAt lo w A l) :
    Calls Tryz.prog 77 #[.slice A l.length c] w fun e w' => e = .returned (.slice A (trimN l l.length) c) ∧ w = w' := by
  have HA := Lib.hid hA
  clear hA
  generalize hfin : trimN l l.length = fin
  have HFIN := Lib.hid hfin
  clear hfin
  go_enter Tryz.func77, Tryz.ntmps77
  go_wp2
  go_loop [3] (fun v => ∃ k : Nat, k ≤ l.length ∧ v = .int .i64 k ∧ Hid (trimN l k = fin)) (fun v => (intOf v).toNat)
  case atStart => exact ⟨l.length, Nat.le_refl _, rfl, HFIN⟩
  case round =>
    obtain ⟨k, hk, rfl, hf⟩ := hrel
    by_cases h0 : k = 0
    · subst h0
      have hf0 : fin = 0 := hf.out.symm
      subst hf0
      go_wp2
      go_ret
      exact ⟨rfl, rfl⟩
    · obtain ⟨j, rfl⟩ : ∃ j, k = j + 1 := ⟨k - 1, by omega⟩
      obtain ⟨b, rfl, _, hlt, hcell⟩ : ∃ b, A = some ⟨b, 0, none⟩ ∧ lo ≤ b ∧ b < w.heap.size ∧ ∀ i, i < l.length → w.cell? ⟨b, i, none⟩ = some (.int .u32 (wd (l.getD i 0))) := by
        rcases HA.out with h | h
        · subst h; simp at hk
        · exact h
      have hcj := hcell j (by omega)
      have hstep : trimN l (j + 1) = if l.getD j 0 = 0 then trimN l j else j + 1 := rfl
      rw [hf.out] at hstep
      have hgt : decide ((0 : Int) < (j : Int) + 1) = true := decide_eq_true (by omega)
      have hs1 : (j : Int) + 1 - 1 = (j : Int) := by omega
      have hjl : (j : Int) < (l.length : Int) := by omega
      have hj1 : (j : Int) + 1 ≤ (c : Int) := by omega
      have hjt : ((j : Int) + 1).toNat = j + 1 := by omega
      generalize l.getD j 0 = x at hcj hstep
      clear hcell
      by_cases hx : x = 0
      · have hx0 : (wd x == 0) = true := by rw [hx]; rfl
        rw [if_pos hx] at hstep
        have HS := Lib.hid hstep.symm
        clear hx hstep
        go_wp2_with fail
        go_round
        case rel => exact ⟨j, by omega, rfl, HS⟩
        case measure => simp [intOf]
      · have hx0 : (wd x == 0) = false := by
          rw [beq_eq_false_iff_ne]
          intro h
          exact hx (wd_inj h)
        rw [if_neg hx] at hstep
        subst hstep
        clear hx
        go_wp2_with fail
        go_ret
        exact ⟨rfl, rfl⟩
theorem bitLenAux_more : ∀ (f x : Nat), x < 2 ^ f → Lib.bitLenAux (f + 1) x = Lib.bitLenAux f x := by
  intro f
  induction f with
  | zero => intro x h; obtain rfl : x = 0 := by simpa using h
            simp [Lib.bitLenAux]
  | succ f ih =>
    intro x h
    rw [Lib.bitLenAux]
    conv => rhs; rw [Lib.bitLenAux]
    split
    · rfl
    · rw [ih (x / 2) (by rw [Nat.pow_succ] at h; omega)]
theorem bitLen_half (x : Nat) (h0 : x ≠ 0) (h : x < 4294967296) : Lib.bitLen x = Lib.bitLen (x / 2) + 1 := by
  have h1 : Lib.bitLenAux 64 x = Lib.bitLenAux 63 (x / 2) + 1 := by rw [Lib.bitLenAux, if_neg h0, Nat.add_comm]
  have h2 := bitLenAux_more 63 (x / 2) (by omega)
  show Lib.bitLenAux 64 x = Lib.bitLenAux 64 (x / 2) + 1
  rw [h1, h2]
set_option maxRecDepth 100000 in
set_option maxHeartbeats 1000000 in
theorem ref_bits (A : Option Addr) (c : Nat) (l : List W32) (w : World) (hc : l.length ≤ c) (hl : l.length ≤ 1000000) (lo : Nat) (hA : DigsAt lo w A l) :
    Calls Tryz.prog 21 #[.slice A l.length c] w fun e w' => e = .returned (.int .i64 (bitsL l)) ∧ w = w' := by
  by_cases h0 : l.length = 0
  · have : l = [] := List.eq_nil_of_length_eq_zero h0
    subst this
    clear hA h0
    go_enter Tryz.func21, Tryz.ntmps21
    go_wp2
    go_ret
    exact ⟨rfl, rfl⟩
  · obtain ⟨b, rfl, _, hlt, hcell⟩ : ∃ b, A = some ⟨b, 0, none⟩ ∧ lo ≤ b ∧ b < w.heap.size ∧ ∀ i, i < l.length → w.cell? ⟨b, i, none⟩ = some (.int .u32 (wd (l.getD i 0))) := by
      rcases hA with h | h
      · subst h; simp at h0
      · exact h
    have hbl : bitsL l = 32 * ((l.length : Int) - 1) + (Lib.bitLen (l.getD (l.length - 1) 0).toNat : Int) := by
      rw [bitsL, if_neg]
      · omega
      · intro h; subst h; simp at h0
    rw [hbl]
    obtain ⟨n, hn⟩ : ∃ n, l.length = n + 1 := ⟨l.length - 1, by omega⟩
    have hcn := hcell n (by omega)
    rw [hn] at hc hl ⊢
    rw [show n + 1 - 1 = n from rfl]
    generalize l.getD n 0 = x at hcn ⊢
    have hxl : x.toNat < 4294967296 := x.isLt
    have hxw : wd x = (x.toNat : Int) := rfl
    rw [hxw] at hcn
    generalize x.toNat = D at hcn hxl ⊢
    have hb32 := bitLen_le D 32 hxl
    have hne : (((n : Int) + 1) == 0) = false := by rw [beq_eq_false_iff_ne]; omega
    have hs1 : (n : Int) + 1 - 1 = (n : Int) := by omega
    have hni : (n : Int) < (n : Int) + 1 := by omega
    rw [show (((n + 1 : Nat) : Int) - 1) = (n : Int) by omega]
    generalize hB : Lib.bitLen D = BL at hb32 ⊢
    have HB := Lib.hid hB
    clear hB hcell hbl h0 hn hA
    go_enter Tryz.func21, Tryz.ntmps21
    go_wp2
    go_loop [3, 4] (fun m d => ∃ (k E : Nat), m = .int .i64 (32 * (n : Int) + (k : Int)) ∧ d = .int .u32 (E : Int) ∧ E < 4294967296 ∧ k ≤ 32 ∧ Hid (k + Lib.bitLen E = BL)) (fun _ d => (intOf d).toNat)
    case atStart => exact ⟨0, D, by simp, rfl, hxl, by omega, Lib.hid (by have := HB.out; omega)⟩
    case round =>
      obtain ⟨k, E, rfl, rfl, hE, hk, hs⟩ := hrel
      by_cases h0 : E = 0
      · subst h0
        have hs0 : k = BL := by have := hs.out; simpa [Lib.bitLen, Lib.bitLenAux] using this
        subst hs0
        go_wp2
        go_ret
        exact ⟨rfl, rfl⟩
      · have hgt : decide ((0 : Int) < (E : Int)) = true := decide_eq_true (by omega)
        have hh := bitLen_half E h0 hE
        have hs2 := hs.out
        have hk2 : k + 1 ≤ 32 := by omega
        have HS : Hid ((k + 1) + Lib.bitLen (E / 2) = BL) := Lib.hid (by omega)
        clear hh hs2 hs
        go_wp2
        go_round
        case rel => exact ⟨k + 1, E / 2, by first | rfl | (congr 1; omega), by first | rfl | (congr 1), by omega, by omega, HS⟩
        case measure => simp [intOf]; omega
end Go.Proofs.YtdmfbcfhfopipaaGreatDoor
