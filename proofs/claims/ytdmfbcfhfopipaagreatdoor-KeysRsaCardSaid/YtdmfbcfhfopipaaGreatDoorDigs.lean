/- Digits in memory, as numbers. -/
import Derived.Test.YtdmfbcfhfopipaaGreatDoorRef5
import Derived.Test.YtdmfbcfhfopipaaGreatDoorMulLaw
import Derived.Test.YtdmfbcfhfopipaaGreatDoorOfLaw
namespace Go.Proofs.YtdmfbcfhfopipaaGreatDoor
open Go.RowKit

/-- A slice of these digits, in a row from lo on. -/
def SlV (lo : Nat) (w : World) (v : Value) (l : List W32) : Prop := ∃ A c, v = .slice A l.length c ∧ l.length ≤ c ∧ DigsAt lo w A l
theorem SlV.below {lo : Nat} {w w' : World} {v : Value} {l : List W32} (h : SlV lo w v l) (hb : Below w.heap.size w w') : SlV lo w' v l := by
  obtain ⟨A, c, h1, h2, h3⟩ := h
  exact ⟨A, c, h1, h2, h3.below hb⟩
theorem SlV.mono {lo lo' : Nat} {w : World} {v : Value} {l : List W32} (h : SlV lo w v l) (hl : lo' ≤ lo) : SlV lo' w v l := by
  obtain ⟨A, c, h1, h2, h3⟩ := h
  exact ⟨A, c, h1, h2, h3.mono hl⟩
theorem DigsAt.cells {lo : Nat} {w : World} {A : Option Addr} {l : List W32} (h : DigsAt lo w A l) (h0 : 0 < l.length) : ∃ b, A = some ⟨b, 0, none⟩ ∧ lo ≤ b ∧ b < w.heap.size ∧ ∀ i, i < l.length → w.cell? ⟨b, i, none⟩ = some (.int .u32 ((l.getD i 0).toNat : Int)) := by
  rcases h with h | h
  · subst h; simp at h0
  · exact h
theorem blk_digs {w : World} {g lo : Nat} {l : List W32} {t : TypeId} (h : Blk w g (encW l) t) (hl : lo ≤ g) : DigsAt lo w (some ⟨g, 0, none⟩) l :=
  .inr ⟨g, rfl, hl, h.lt, fun i hi => by rw [h.cell i, encW_get l i hi]⟩
theorem len_va (l : List W32) : (nd (va l)).length = trimN l l.length := by rw [nd_va, trimL_len]
theorem len_va_le (l : List W32) : (nd (va l)).length ≤ l.length := by rw [len_va]; exact trimN_le _ _
theorem DigsAt.trim {lo : Nat} {w : World} {A : Option Addr} {l : List W32} (h : DigsAt lo w A l) : DigsAt lo w A (nd (va l)) := by rw [nd_va]; exact h.take _
theorem ref_trim_va (A : Option Addr) (c : Nat) (l : List W32) (w : World) (hc : l.length ≤ c) (hl : l.length ≤ 1000000) (lo : Nat) (hA : DigsAt lo w A l) :
    Calls Tryz.prog 77 #[.slice A l.length c] w fun e w' => e = .returned (.slice A (nd (va l)).length c) ∧ w = w' := by
  rw [len_va]; exact ref_trim A c l w hc hl lo hA
theorem nat_trim_va (A : Option Addr) (c : Nat) (l : List W32) (w : World) (hc : l.length ≤ c) (hcm : c ≤ 9223372036854775807) (lo : Nat) (hA : DigsAt lo w A l) :
    Calls Tryz.prog 53 #[.slice A l.length c] w fun e w' => e = .returned (.agg #[.slice A (nd (va l)).length c]) ∧ Below w.heap.size w w' := by
  rw [len_va]; exact trim_any A c l w hc hcm lo hA
/-- A cell that is set, and the row's digits. -/
theorem cell_set {w : World} {g : Nat} {l : List W32} {t : TypeId} (h : Blk w g (encW l) t) (i : Nat) (x : Nat) (hx : x < 4294967296) : Blk (w.setCell ⟨g, i, none⟩ (.int .u32 (x : Int))) g (encW (l.set i (BitVec.ofNat 32 x))) t := by
  have e := encW_set l i (BitVec.ofNat 32 x)
  rw [wd_lit x hx] at e
  rw [← e]
  exact h.set i _
theorem cell_get {w : World} {g : Nat} {l : List W32} {t : TypeId} (h : Blk w g (encW l) t) (i : Nat) (hi : i < l.length) : w.cell? ⟨g, i, none⟩ = some (.int .u32 ((l.getD i 0).toNat : Int)) := by
  rw [h.cell i, encW_get l i hi]; rfl
theorem below_drew {base : Nat} {w W : World} (h : Below base w W) (n : Nat) : Below base w (W.drewN n) := ⟨h.os, h.tape, h.output, h.size, h.block⟩
theorem blk_drew {W : World} {g : Nat} {cs : Array Value} {t : TypeId} (h : Blk W g cs t) (n : Nat) : Blk (W.drewN n) g cs t := h
theorem toNat_lt32 (x : W32) : x.toNat < 4294967296 := x.isLt
theorem va_set_nat (l : List W32) (i x : Nat) (hi : i < l.length) (hx : x < 4294967296) : va (l.set i (BitVec.ofNat 32 x)) + 4294967296 ^ i * (l.getD i 0).toNat = va l + 4294967296 ^ i * x := by
  have := va_set l i (BitVec.ofNat 32 x) hi
  rwa [BitVec.toNat_ofNat, Nat.mod_eq_of_lt (show x < 2 ^ 32 from hx)] at this
/-- A digit above the number is 0. -/
theorem dig_past (l : List W32) (i : Nat) (h : va l < 4294967296 ^ i) : l.getD i 0 = 0 := by
  rw [va_dig, Nat.div_eq_of_lt h]; rfl
end Go.Proofs.YtdmfbcfhfopipaaGreatDoor
