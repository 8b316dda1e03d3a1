import Derived.Test.YtmkodendjlmijaaGreatDoorSd1
import Derived.Recover
import Derived.Defers
import Derived.WalkKit
import Derived.Deep.QuietTactic
import Derived.BigQuiet
import Derived.OrdersIn
import Derived.TacticsIn
import Derived.RangeFuncCalls
import Derived.Test.YtmkodendjlmijaaGreatDoorRep
import Derived.Deep.RegionWith
/- data.Nsec3: what such data have: the closure that takes them apart, data.take at this type, data.Nsec3 itself. Lines printed by wip/tools/taker.py. -/
namespace Go.Proofs.YtmkodendjlmijaaGreatDoor
open Go.RowKit

structure Nsec3R where
  alg : Int
  flags : Int
  rounds : Int
  salt : ByteArray
  next : ByteArray
  types : List Int
def Nsec3R.v (x : Nsec3R) (u : Value) : Value := .agg #[.int .i64 x.alg, .int .i64 x.flags, .int .i64 x.rounds, .string x.salt, .string x.next, u]
def nsec3V (lo : Nat) (x : Nsec3R) (w : World) (v : Value) : Prop := ∃ u, v = x.v u ∧ OwnI lo u x.types w
def zNsec3 : Array Value := #[.int .i64 0, .int .i64 0, .int .i64 0, .string ⟨#[]⟩, .string ⟨#[]⟩, .slice none 0 0]
theorem info_Nsec3 : (Tryz.prog.info? 108).map (·.size) = some 6 := by kernel_rfl
/-- What is taken, and what is left. -/
def nsec3T (s : ByteArray) : Option (Nsec3R × ByteArray) :=
  match numT 1 s with
  | none => none
  | some (a1, s1) =>
    match numT 1 s1 with
    | none => none
    | some (a2, s2) =>
      match numT 2 s2 with
      | none => none
      | some (a3, s3) =>
        match numT 1 s3 with
        | none => none
        | some (a4, s4) =>
          match bytesT a4.toNat s4 with
          | none => none
          | some (a5, s5) =>
            match numT 1 s5 with
            | none => none
            | some (a6, s6) =>
              match bytesT a6.toNat s6 with
              | none => none
              | some (a7, s7) =>
                if a7.size = 0 then none else
                match typesT s7 with
                | none => none
                | some (a8, s8) =>
                  some (⟨a1, a2, a3, a5, a7, a8⟩, s8)

set_option maxRecDepth 100000 in
set_option maxHeartbeats 4000000 in
theorem nsec31_t (b : Nat) (s : ByteArray) (w : World) (hS : Src b s w) (hz : s.size ≤ 2000) :
    Calls Tryz.prog 90 #[.pointer (some ⟨b, 0, none⟩)] w (Took b w (nsec3T s) (nsec3V (w.heap.size + 1))) := by
  have hne : w.heap.size ≠ b := by have := hS.lt; omega
  have n : b ≠ w.heap.size := fun h => hne h.symm
  have HL := Lib.hid hS.lt
  have HQ0 := Lib.hid hS
  have HZ0 := Lib.hid hz
  clear hS hz
  go_enter Tryz.func90, Tryz.ntmps90
  go_wp2_with fail
  refine (number_t b s 1 1 rfl _ (HQ0.out.alloc _) (by omega)).mono ?_
  rintro e W1 h
  rcases h1 : numT 1 s with _ | ⟨a1, s1⟩
  · rw [h1] at h
    obtain ⟨rfl, hO⟩ := h
    have hO2 : Only b w W1 := (Only.alloc w _).trans hO
    have hT : nsec3T s = none := by simp only [nsec3T, h1]
    first
      | (refine ⟨rfl, ?_⟩; rw [hT]; exact ⟨rfl, hO2⟩)
      | (simp only []; refine ⟨rfl, ?_⟩; rw [hT]; exact ⟨rfl, hO2⟩)
  rw [h1] at h
  obtain ⟨v1, rfl, hv, hS, hO⟩ := h
  have hO2 : Only b w W1 := (Only.alloc w _).trans hO
  obtain rfl : v1 = .int .i64 a1 := hv
  have hB2 := (Blk.new w #[.int .i64 0, .int .i64 0, .int .i64 0, .string ⟨#[]⟩, .string ⟨#[]⟩, .slice none 0 0] 108).only hO hne
  have HZ1 := Lib.hid (Nat.le_trans (numT_le h1) HZ0.out)
  have HB1 := Lib.hid hB2; have HQ1 := Lib.hid hS; have HO1 := Lib.hid hO2; have E1 := Lib.hid h1
  clear hB2 hS hO hO2 h1 
  go_wp2_with fail
  refine (number_t b s1 1 1 rfl _ (HQ1.out) (by omega)).mono ?_
  rintro e W2 h
  rcases h2 : numT 1 s1 with _ | ⟨a2, s2⟩
  · rw [h2] at h
    obtain ⟨rfl, hO⟩ := h
    have hO2 : Only b w W2 := (HO1.out).trans hO
    have hT : nsec3T s = none := by have e1 := E1.out; simp only [nsec3T, e1, h2]
    first
      | (refine ⟨rfl, ?_⟩; rw [hT]; exact ⟨rfl, hO2⟩)
      | (simp only []; refine ⟨rfl, ?_⟩; rw [hT]; exact ⟨rfl, hO2⟩)
  rw [h2] at h
  obtain ⟨v2, rfl, hv, hS, hO⟩ := h
  have hO2 : Only b w W2 := (HO1.out).trans hO
  obtain rfl : v2 = .int .i64 a2 := hv
  have hB2 := HB1.out.only hO hne
  have HZ2 := Lib.hid (Nat.le_trans (numT_le h2) HZ1.out)
  have HB2 := Lib.hid hB2; have HQ2 := Lib.hid hS; have HO2 := Lib.hid hO2; have E2 := Lib.hid h2
  clear hB2 hS hO hO2 h2 
  go_wp2_with fail
  refine (number_t b s2 2 2 rfl _ (HQ2.out) (by omega)).mono ?_
  rintro e W3 h
  rcases h3 : numT 2 s2 with _ | ⟨a3, s3⟩
  · rw [h3] at h
    obtain ⟨rfl, hO⟩ := h
    have hO2 : Only b w W3 := (HO2.out).trans hO
    have hT : nsec3T s = none := by have e1 := E1.out; have e2 := E2.out; simp only [nsec3T, e1, e2, h3]
    first
      | (refine ⟨rfl, ?_⟩; rw [hT]; exact ⟨rfl, hO2⟩)
      | (simp only []; refine ⟨rfl, ?_⟩; rw [hT]; exact ⟨rfl, hO2⟩)
  rw [h3] at h
  obtain ⟨v3, rfl, hv, hS, hO⟩ := h
  have hO2 : Only b w W3 := (HO2.out).trans hO
  obtain rfl : v3 = .int .i64 a3 := hv
  have hB2 := HB2.out.only hO hne
  have HZ3 := Lib.hid (Nat.le_trans (numT_le h3) HZ2.out)
  have HB3 := Lib.hid hB2; have HQ3 := Lib.hid hS; have HO3 := Lib.hid hO2; have E3 := Lib.hid h3
  clear hB2 hS hO hO2 h3 
  have c0 : W3.cell? ⟨w.heap.size, 0, none⟩ = some (.int .i64 0) := HB3.out.cell 0
  have c1 : W3.cell? ⟨w.heap.size, 1, none⟩ = some (.int .i64 0) := HB3.out.cell 1
  have c2 : W3.cell? ⟨w.heap.size, 2, none⟩ = some (.int .i64 0) := HB3.out.cell 2
  have c3 : W3.cell? ⟨w.heap.size, 3, none⟩ = some (.string ⟨#[]⟩) := HB3.out.cell 3
  have c4 : W3.cell? ⟨w.heap.size, 4, none⟩ = some (.string ⟨#[]⟩) := HB3.out.cell 4
  have c5 : W3.cell? ⟨w.heap.size, 5, none⟩ = some (.slice none 0 0) := HB3.out.cell 5
  have f0 := fun j => HB3.out.free j
  go_wp2_with fail
  refine (number_t b s3 1 1 rfl _ ?_ (by omega)).mono ?_
  · iterate 3 refine Blk.other ?_ n _
    exact HQ3.out
  rintro e W4 h
  rcases h4 : numT 1 s3 with _ | ⟨a4, s4⟩
  · rw [h4] at h
    obtain ⟨rfl, hO⟩ := h
    have hO2 : Only b w W4 := by
      refine Only.trans ?_ hO
      iterate 3 refine Only.setNew ?_ (Nat.le_refl _) _
      exact HO3.out
    have hT : nsec3T s = none := by have e1 := E1.out; have e2 := E2.out; have e3 := E3.out; simp only [nsec3T, e1, e2, e3, h4]
    first
      | (refine ⟨rfl, ?_⟩; rw [hT]; exact ⟨rfl, hO2⟩)
      | (simp only []; refine ⟨rfl, ?_⟩; rw [hT]; exact ⟨rfl, hO2⟩)
  rw [h4] at h
  obtain ⟨v4, rfl, hv, hS, hO⟩ := h
  have hO2 : Only b w W4 := by
    refine Only.trans ?_ hO
    iterate 3 refine Only.setNew ?_ (Nat.le_refl _) _
    exact HO3.out
  obtain rfl : v4 = .int .i64 a4 := hv
  have hB2 : Blk W4 w.heap.size #[.int .i64 a1, .int .i64 a2, .int .i64 a3, .string ⟨#[]⟩, .string ⟨#[]⟩, .slice none 0 0] 108 := by
    refine Blk.only (cs := #[.int .i64 a1, .int .i64 a2, .int .i64 a3, .string ⟨#[]⟩, .string ⟨#[]⟩, .slice none 0 0]) ?_ hO hne
    simpa using (((HB3.out.set 0 (.int .i64 a1)).set 1 (.int .i64 a2)).set 2 (.int .i64 a3))
  have HZ4 := Lib.hid (Nat.le_trans (numT_le h4) HZ3.out)
  have HB4 := Lib.hid hB2; have HQ4 := Lib.hid hS; have HO4 := Lib.hid hO2; have E4 := Lib.hid h4
  clear hB2 hS hO hO2 h4 
  clear c0 c1 c2 c3 c4 c5 f0
  go_wp2_with fail
  refine (bytes_t b s4 a4.toNat a4 (by have := (num1 _ _ _ E4.out).1; omega) _ (HQ4.out)).mono ?_
  rintro e W5 h
  rcases h5 : bytesT a4.toNat s4 with _ | ⟨a5, s5⟩
  · rw [h5] at h
    obtain ⟨rfl, hO⟩ := h
    have hO2 : Only b w W5 := (HO4.out).trans hO
    have hT : nsec3T s = none := by have e1 := E1.out; have e2 := E2.out; have e3 := E3.out; have e4 := E4.out; simp only [nsec3T, e1, e2, e3, e4, h5]
    first
      | (refine ⟨rfl, ?_⟩; rw [hT]; exact ⟨rfl, hO2⟩)
      | (simp only []; refine ⟨rfl, ?_⟩; rw [hT]; exact ⟨rfl, hO2⟩)
  rw [h5] at h
  obtain ⟨v5, rfl, hv, hS, hO⟩ := h
  have hO2 : Only b w W5 := (HO4.out).trans hO
  obtain rfl : v5 = .string a5 := hv
  have hB2 := HB4.out.only hO hne
  have HZ5 := Lib.hid (Nat.le_trans (bytesT_le h5) HZ4.out)
  have HB5 := Lib.hid hB2; have HQ5 := Lib.hid hS; have HO5 := Lib.hid hO2; have E5 := Lib.hid h5
  clear hB2 hS hO hO2 h5 
  have c0 : W5.cell? ⟨w.heap.size, 0, none⟩ = some (.int .i64 a1) := HB5.out.cell 0
  have c1 : W5.cell? ⟨w.heap.size, 1, none⟩ = some (.int .i64 a2) := HB5.out.cell 1
  have c2 : W5.cell? ⟨w.heap.size, 2, none⟩ = some (.int .i64 a3) := HB5.out.cell 2
  have c3 : W5.cell? ⟨w.heap.size, 3, none⟩ = some (.string ⟨#[]⟩) := HB5.out.cell 3
  have c4 : W5.cell? ⟨w.heap.size, 4, none⟩ = some (.string ⟨#[]⟩) := HB5.out.cell 4
  have c5 : W5.cell? ⟨w.heap.size, 5, none⟩ = some (.slice none 0 0) := HB5.out.cell 5
  have f0 := fun j => HB5.out.free j
  go_wp2_with fail
  refine (number_t b s5 1 1 rfl _ ?_ (by omega)).mono ?_
  · iterate 1 refine Blk.other ?_ n _
    exact HQ5.out
  rintro e W6 h
  rcases h6 : numT 1 s5 with _ | ⟨a6, s6⟩
  · rw [h6] at h
    obtain ⟨rfl, hO⟩ := h
    have hO2 : Only b w W6 := by
      refine Only.trans ?_ hO
      iterate 1 refine Only.setNew ?_ (Nat.le_refl _) _
      exact HO5.out
    have hT : nsec3T s = none := by have e1 := E1.out; have e2 := E2.out; have e3 := E3.out; have e4 := E4.out; have e5 := E5.out; simp only [nsec3T, e1, e2, e3, e4, e5, h6]
    first
      | (refine ⟨rfl, ?_⟩; rw [hT]; exact ⟨rfl, hO2⟩)
      | (simp only []; refine ⟨rfl, ?_⟩; rw [hT]; exact ⟨rfl, hO2⟩)
  rw [h6] at h
  obtain ⟨v6, rfl, hv, hS, hO⟩ := h
  have hO2 : Only b w W6 := by
    refine Only.trans ?_ hO
    iterate 1 refine Only.setNew ?_ (Nat.le_refl _) _
    exact HO5.out
  obtain rfl : v6 = .int .i64 a6 := hv
  have hB2 : Blk W6 w.heap.size #[.int .i64 a1, .int .i64 a2, .int .i64 a3, .string a5, .string ⟨#[]⟩, .slice none 0 0] 108 := by
    refine Blk.only (cs := #[.int .i64 a1, .int .i64 a2, .int .i64 a3, .string a5, .string ⟨#[]⟩, .slice none 0 0]) ?_ hO hne
    simpa using (HB5.out.set 3 (.string a5))
  have HZ6 := Lib.hid (Nat.le_trans (numT_le h6) HZ5.out)
  have HB6 := Lib.hid hB2; have HQ6 := Lib.hid hS; have HO6 := Lib.hid hO2; have E6 := Lib.hid h6
  clear hB2 hS hO hO2 h6 
  clear c0 c1 c2 c3 c4 c5 f0
  go_wp2_with fail
  refine (bytes_t b s6 a6.toNat a6 (by have := (num1 _ _ _ E6.out).1; omega) _ (HQ6.out)).mono ?_
  rintro e W7 h
  rcases h7 : bytesT a6.toNat s6 with _ | ⟨a7, s7⟩
  · rw [h7] at h
    obtain ⟨rfl, hO⟩ := h
    have hO2 : Only b w W7 := (HO6.out).trans hO
    have hT : nsec3T s = none := by have e1 := E1.out; have e2 := E2.out; have e3 := E3.out; have e4 := E4.out; have e5 := E5.out; have e6 := E6.out; simp only [nsec3T, e1, e2, e3, e4, e5, e6, h7]
    first
      | (refine ⟨rfl, ?_⟩; rw [hT]; exact ⟨rfl, hO2⟩)
      | (simp only []; refine ⟨rfl, ?_⟩; rw [hT]; exact ⟨rfl, hO2⟩)
  rw [h7] at h
  obtain ⟨v7, rfl, hv, hS, hO⟩ := h
  have hO2 : Only b w W7 := (HO6.out).trans hO
  obtain rfl : v7 = .string a7 := hv
  have hB2 := HB6.out.only hO hne
  have HZ7 := Lib.hid (Nat.le_trans (bytesT_le h7) HZ6.out)
  have HB7 := Lib.hid hB2; have HQ7 := Lib.hid hS; have HO7 := Lib.hid hO2; have E7 := Lib.hid h7
  clear hB2 hS hO hO2 h7 
  have c0 : W7.cell? ⟨w.heap.size, 0, none⟩ = some (.int .i64 a1) := HB7.out.cell 0
  have c1 : W7.cell? ⟨w.heap.size, 1, none⟩ = some (.int .i64 a2) := HB7.out.cell 1
  have c2 : W7.cell? ⟨w.heap.size, 2, none⟩ = some (.int .i64 a3) := HB7.out.cell 2
  have c3 : W7.cell? ⟨w.heap.size, 3, none⟩ = some (.string a5) := HB7.out.cell 3
  have c4 : W7.cell? ⟨w.heap.size, 4, none⟩ = some (.string ⟨#[]⟩) := HB7.out.cell 4
  have c5 : W7.cell? ⟨w.heap.size, 5, none⟩ = some (.slice none 0 0) := HB7.out.cell 5
  have f0 := fun j => HB7.out.free j
  by_cases hm : a7.size = 0
  · have hT : nsec3T s = none := by have e1 := E1.out; have e2 := E2.out; have e3 := E3.out; have e4 := E4.out; have e5 := E5.out; have e6 := E6.out; have e7 := E7.out; simp only [nsec3T, e1, e2, e3, e4, e5, e6, e7, hm, if_true]
    have HT := Lib.hid hT
    obtain rfl := size_empty hm
    clear hT hm
    go_wp2_with (go_at_call 93; refine (must_no _ _).mono ?_; rintro e w2 ⟨rfl, rfl⟩)
    have hO2 : Only b w _ := Only.setNew (p := ⟨w.heap.size, 4, none⟩) HO7.out (Nat.le_refl _) (.string ⟨#[]⟩)
    refine ⟨rfl, ?_⟩
    rw [HT.out]
    exact ⟨rfl, hO2⟩
  have he := toList_isEmpty hm
  have HM := Lib.hid hm
  clear hm
  go_wp2_with (go_at_call 93; refine (must_ok _ _).mono ?_; rintro e w2 ⟨rfl, rfl⟩)
  refine (types_t b s7 _ ?_ HZ7.out).mono ?_
  · iterate 1 refine Blk.other ?_ n _
    exact HQ7.out
  rintro e W8 h
  rcases h8 : typesT s7 with _ | ⟨a8, s8⟩
  · rw [h8] at h
    obtain ⟨rfl, hO⟩ := h
    have hO2 : Only b w W8 := by
      refine Only.trans ?_ hO
      iterate 1 refine Only.setNew ?_ (Nat.le_refl _) _
      exact HO7.out
    have hT : nsec3T s = none := by have e1 := E1.out; have e2 := E2.out; have e3 := E3.out; have e4 := E4.out; have e5 := E5.out; have e6 := E6.out; have e7 := E7.out; simp only [nsec3T, e1, e2, e3, e4, e5, e6, e7, h8, HM.out, if_false]
    first
      | (refine ⟨rfl, ?_⟩; rw [hT]; exact ⟨rfl, hO2⟩)
      | (simp only []; refine ⟨rfl, ?_⟩; rw [hT]; exact ⟨rfl, hO2⟩)
  rw [h8] at h
  obtain ⟨v8, rfl, hv, hS, hO⟩ := h
  have hO2 : Only b w W8 := by
    refine Only.trans ?_ hO
    iterate 1 refine Only.setNew ?_ (Nat.le_refl _) _
    exact HO7.out
  obtain ⟨A8, c8, rfl⟩ := OwnI.len hv
  have HV8 : Hid (OwnI (w.heap.size + 1) (.slice A8 a8.length c8) a8 W8) := Lib.hid (OwnI.lift hv (by have := HB7.out.lt; first | omega | (simp; omega)))
  have hB2 : Blk W8 w.heap.size #[.int .i64 a1, .int .i64 a2, .int .i64 a3, .string a5, .string a7, .slice none 0 0] 108 := by
    refine Blk.only (cs := #[.int .i64 a1, .int .i64 a2, .int .i64 a3, .string a5, .string a7, .slice none 0 0]) ?_ hO hne
    simpa using (HB7.out.set 4 (.string a7))
  have HZ8 := Lib.hid (Nat.le_trans (typesT_le h8) HZ7.out)
  have HB8 := Lib.hid hB2; have HQ8 := Lib.hid hS; have HO8 := Lib.hid hO2; have E8 := Lib.hid h8
  clear hB2 hS hO hO2 h8 hv
  clear c0 c1 c2 c3 c4 c5 f0
  have c0 : W8.cell? ⟨w.heap.size, 0, none⟩ = some (.int .i64 a1) := HB8.out.cell 0
  have c1 : W8.cell? ⟨w.heap.size, 1, none⟩ = some (.int .i64 a2) := HB8.out.cell 1
  have c2 : W8.cell? ⟨w.heap.size, 2, none⟩ = some (.int .i64 a3) := HB8.out.cell 2
  have c3 : W8.cell? ⟨w.heap.size, 3, none⟩ = some (.string a5) := HB8.out.cell 3
  have c4 : W8.cell? ⟨w.heap.size, 4, none⟩ = some (.string a7) := HB8.out.cell 4
  have c5 : W8.cell? ⟨w.heap.size, 5, none⟩ = some (.slice none 0 0) := HB8.out.cell 5
  have f0 := fun j => HB8.out.free j
  go_wp2_with fail
  have hF : Blk (((((((W8.setCell ⟨w.heap.size, 5, none⟩ (.slice A8 a8.length c8)).setCell ⟨w.heap.size, 0, none⟩ (.int .i64 a1)).setCell ⟨w.heap.size, 1, none⟩ (.int .i64 a2)).setCell ⟨w.heap.size, 2, none⟩ (.int .i64 a3)).setCell ⟨w.heap.size, 3, none⟩ (.string a5)).setCell ⟨w.heap.size, 4, none⟩ (.string a7)).setCell ⟨w.heap.size, 5, none⟩ (.slice A8 a8.length c8)) w.heap.size #[.int .i64 a1, .int .i64 a2, .int .i64 a3, .string a5, .string a7, .slice A8 a8.length c8] 108 := by
    simpa using (((((((HB8.out.set 5 (.slice A8 a8.length c8)).set 0 (.int .i64 a1)).set 1 (.int .i64 a2)).set 2 (.int .i64 a3)).set 3 (.string a5)).set 4 (.string a7)).set 5 (.slice A8 a8.length c8))
  have hT : nsec3T s = some (⟨a1, a2, a3, a5, a7, a8⟩, s8) := by have e1 := E1.out; have e2 := E2.out; have e3 := E3.out; have e4 := E4.out; have e5 := E5.out; have e6 := E6.out; have e7 := E7.out; have e8 := E8.out; simp only [nsec3T, e1, e2, e3, e4, e5, e6, e7, e8, HM.out, if_false]
  refine bodyPost_ret (results1 rfl ⟨_, rfl, loadVar_blk hF Tryz.underlying108 rfl info_Nsec3⟩) rfl ?_
  rw [hT]
  refine ⟨_, rfl, ⟨_, rfl, ?_⟩, ?_, ?_⟩
  · refine OwnI.only (b := w.heap.size) HV8.out ?_ (Nat.lt_succ_self _)
    iterate 7 refine Only.put ?_ _ _
    exact Only.refl _ _
  · iterate 7 refine Blk.other ?_ n _
    exact HQ8.out
  · iterate 7 refine Only.setNew ?_ (Nat.le_refl _) _
    exact HO8.out
set_option maxRecDepth 100000 in
theorem nsec3_panic (B n m : Nat) {v0 v1 v2 v3 v4 v5 : Value} (w : World) (h0 : Blk w n #[v0, v1, v2, v3, v4, v5] 108) (h1 : Blk w m #[.int .i64 0] 23) (hne : n ≠ m) (hBn : B ≤ n) (hBm : B ≤ m) :
    CallsD Tryz.prog 112 #[.pointer (some ⟨n, 0, none⟩), .pointer (some ⟨m, 0, none⟩)] (.panicking [{ v := .iface 156 (.agg #[]), recovered := false }]) w fun e u' w' =>
      e = .returned (.tuple #[]) ∧ u' = .panicking [{ v := .iface 156 (.agg #[]), recovered := true }] ∧ Blk w' n #[.int .i64 0, .int .i64 0, .int .i64 0, .string ⟨#[]⟩, .string ⟨#[]⟩, .slice none 0 0] 108 ∧ Blk w' m #[.int .i64 6] 23 ∧ Below B w w' := by
  refine callsD_of_wpS Tryz.func112 rfl fun c₀ cs hu => ?_
  simp only [Tryz.ntmps112, List.size_toArray, List.length_cons, List.length_nil, Nat.reduceAdd, Nat.reduceSub, Array.replicate_succ, Array.replicate_zero, List.push_toArray, List.append_toArray, List.nil_append, List.cons_append]
  apply wpS_seq
  apply wpS_region
  simp [wpOpsS, go_sem, recoverD, hu, Exit.thenS]
  refine wpS_of_wp (wp_mono (Q := fun e a' w' => e = .normal ∧ a'.defers = [] ∧ Blk w' n #[.int .i64 0, .int .i64 0, .int .i64 0, .string ⟨#[]⟩, .string ⟨#[]⟩, .slice none 0 0] 108 ∧ Blk w' m #[.int .i64 6] 23 ∧ Below B w w') ?_ ?_)
  · have c0 : w.cell? ⟨n, 0, none⟩ = some v0 := h0.cell 0
    have c1 : w.cell? ⟨n, 1, none⟩ = some v1 := h0.cell 1
    have c2 : w.cell? ⟨n, 2, none⟩ = some v2 := h0.cell 2
    have c3 : w.cell? ⟨n, 3, none⟩ = some v3 := h0.cell 3
    have c4 : w.cell? ⟨n, 4, none⟩ = some v4 := h0.cell 4
    have c5 : w.cell? ⟨n, 5, none⟩ = some v5 := h0.cell 5
    have e0 : w.cell? ⟨m, 0, none⟩ = some (.int .i64 0) := h1.cell 0
    have f0 := fun j => h0.free j
    have f1 := fun j => h1.free j
    have l0 := h0.lt
    have l1 := h1.lt
    have H0 := Lib.hid h0; have H1 := Lib.hid h1; clear h0 h1
    generalize hQ : (fun (e : Exit) (a' : Act) (w' : World) => e = Exit.normal ∧ a'.defers = [] ∧ Blk w' n #[.int .i64 0, .int .i64 0, .int .i64 0, .string ⟨#[]⟩, .string ⟨#[]⟩, .slice none 0 0] 108 ∧ Blk w' m #[.int .i64 6] 23 ∧ Below B w w') = Q
    have HQ := Lib.hid hQ; clear hQ
    have hta := assert_stop
    go_wp2
    rw [← HQ.out]
    refine ⟨rfl, rfl, ?_, ?_, ?_⟩
    · refine Blk.alloc (Blk.alloc (Blk.other ?_ hne _) _) _
      simpa using ((((((H0.out.set 0 (.int .i64 0)).set 1 (.int .i64 0)).set 2 (.int .i64 0)).set 3 (.string ⟨#[]⟩)).set 4 (.string ⟨#[]⟩)).set 5 (.slice none 0 0))
    · refine Blk.alloc (Blk.alloc (Blk.set (cs := #[.int .i64 0]) ?_ 0 _) _) _
      iterate 6 refine Blk.other ?_ (fun h => hne h.symm) _
      exact H1.out
    · refine Below.alloc (Below.alloc ?_ (by simp; omega) _) (by simp; omega) _
      refine Below.setCell ?_ (by simpa using hBm) _
      iterate 6 refine Below.setCell ?_ (by simpa using hBn) _
      exact Below.refl _ _
  · rintro e a w' ⟨rfl, hd, q⟩
    exact ⟨hd, _, rfl, _, results_none rfl _ _ _, rfl, rfl, q⟩

theorem nsec3_idle (n m : Nat) (w : World) :
    CallsD Tryz.prog 112 #[.pointer (some ⟨n, 0, none⟩), .pointer (some ⟨m, 0, none⟩)] .returning w fun e u' w' => e = .returned (.tuple #[]) ∧ u' = .returning ∧ w' = w := by
  refine callsD_of_wpS Tryz.func112 rfl fun c₀ cs hu => ?_
  simp only [Tryz.ntmps112, List.size_toArray, List.length_cons, List.length_nil, Nat.reduceAdd, Nat.reduceSub, Array.replicate_succ, Array.replicate_zero, List.push_toArray, List.append_toArray, List.nil_append, List.cons_append]
  apply wpS_seq
  apply wpS_region
  simp [wpOpsS, go_sem, recoverD, hu, Exit.thenS]
  refine wpS_of_wp (wp_mono (Q := fun e a' w' => e = .normal ∧ a'.defers = [] ∧ w' = w) ?_ ?_)
  · generalize hQ : (fun (e : Exit) (a' : Act) (w' : World) => e = Exit.normal ∧ a'.defers = [] ∧ w' = w) = Q
    have HQ := Lib.hid hQ; clear hQ
    go_wp2
    rw [← HQ.out]
    exact ⟨rfl, rfl, rfl⟩
  · rintro e a w' ⟨rfl, hd, rfl⟩
    cases c₀
    simp at hu
    subst hu
    exact ⟨hd, _, rfl, _, results_none rfl _ _ _, rfl, rfl, rfl⟩

/-- The world in which take calls its function. -/
def wNsec3 (w : World) (d : ByteArray) : World := ((w.alloc (.cells #[.int .i64 0, .int .i64 0, .int .i64 0, .string ⟨#[]⟩, .string ⟨#[]⟩, .slice none 0 0] 108)).alloc (.cells #[.int .i64 0] 23)).alloc (.cells #[.string d] 159)
theorem wNsec3_src (w : World) (d : ByteArray) : Src (w.heap.size + 1 + 1) d (wNsec3 w d) := by
  have := Blk.new ((w.alloc (.cells #[.int .i64 0, .int .i64 0, .int .i64 0, .string ⟨#[]⟩, .string ⟨#[]⟩, .slice none 0 0] 108)).alloc (.cells #[.int .i64 0] 23)) #[.string d] 159
  simpa [wNsec3, Src] using this
theorem wNsec3_val (w : World) (d : ByteArray) : Blk (wNsec3 w d) w.heap.size #[.int .i64 0, .int .i64 0, .int .i64 0, .string ⟨#[]⟩, .string ⟨#[]⟩, .slice none 0 0] 108 := ((Blk.new w #[.int .i64 0, .int .i64 0, .int .i64 0, .string ⟨#[]⟩, .string ⟨#[]⟩, .slice none 0 0] 108).alloc _).alloc _
theorem wNsec3_err (w : World) (d : ByteArray) : Blk (wNsec3 w d) (w.heap.size + 1) #[.int .i64 0] 23 := by
  have := (Blk.new (w.alloc (.cells #[.int .i64 0, .int .i64 0, .int .i64 0, .string ⟨#[]⟩, .string ⟨#[]⟩, .slice none 0 0] 108)) #[.int .i64 0] 23).alloc (.cells #[.string d] 159)
  simpa [wNsec3] using this
theorem wNsec3_below (w : World) (d : ByteArray) : Below w.heap.size w (wNsec3 w d) := (((Below.refl _ w).alloc (Nat.le_refl _) _).alloc (by simp) _).alloc (by simp; omega) _

/-- Behind the door, where something panicked. -/
theorem nsec3_door (p : Option Nsec3R) (hp : p = none) (tmps : Array Value) {v0 v1 v2 v3 v4 v5 : Value} (w w1 : World) (hk : Blk w1 w.heap.size #[v0, v1, v2, v3, v4, v5] 108) (he : Blk w1 (w.heap.size + 1) #[.int .i64 0] 23) (hb : Below w.heap.size w w1)
    (h4 : tmps.getD 4 undef = .pointer (some ⟨w.heap.size, 0, none⟩)) (h5 : tmps.getD 5 undef = .pointer (some ⟨w.heap.size + 1, 0, none⟩)) :
    bodyPostD Tryz.prog Tryz.f89 (TakeP (nsec3V (w.heap.size + 1)) (.agg #[.int .i64 0, .int .i64 0, .int .i64 0, .string ⟨#[]⟩, .string ⟨#[]⟩, .slice none 0 0]) p w) (.panic stopC)
      { tmps := tmps, defers := [{ target := .fn (.func 112) #[.pointer (some ⟨w.heap.size, 0, none⟩), .pointer (some ⟨w.heap.size + 1, 0, none⟩)], args := #[] }] } w1 := by
  subst hp
  refine leaves_cons (f := 112) (args := #[.pointer (some ⟨w.heap.size, 0, none⟩), .pointer (some ⟨w.heap.size + 1, 0, none⟩)]) (by simp) (by simp [go_sem]) ?_
  refine (nsec3_panic w.heap.size _ _ w1 hk he (by omega) (Nat.le_refl _) (by omega)).mono ?_
  rintro e u' w2 ⟨rfl, rfl, hk2, he2, hb2⟩
  exact ⟨_, results2 rfl ⟨_, h4, loadVar_blk hk2 Tryz.underlying108 rfl info_Nsec3⟩ ⟨_, h5, loadVar_int he2 Tryz.underlying23⟩, hb.trans hb2, rfl⟩

set_option maxRecDepth 100000 in
set_option maxHeartbeats 1000000 in
theorem take_nsec3 (d : ByteArray) (w : World) :
    Calls Tryz.prog 89 #[.string d, .func (.func 90) #[] #[]] w (TakeP (nsec3V (w.heap.size + 1)) (.agg #[.int .i64 0, .int .i64 0, .int .i64 0, .string ⟨#[]⟩, .string ⟨#[]⟩, .slice none 0 0]) (takeR nsec3T d) w) := by
  have hmf := makeFunc_run
  by_cases hd : d.size ≤ 2000
  · have hd' : decide ((d.size : Int) ≤ 2000) = true := by simp; omega
    have HD := Lib.hid hd; clear hd
    go_enter_defers Tryz.func89, Tryz.ntmps89
    go_wp2_with (go_at_call 93; refine (must_ok _ _).mono ?_; rintro e w' ⟨rfl, rfl⟩)
    refine (nsec31_t (w.heap.size + 1 + 1) d _ (wNsec3_src w d) HD.out).mono ?_
    rintro e w1 h
    rcases h1 : nsec3T d with _ | ⟨x, r⟩
    · rw [h1] at h
      obtain ⟨rfl, hO⟩ := h
      exact nsec3_door _ (takeR_none h1) _ w w1 ((wNsec3_val w d).only hO (by omega)) ((wNsec3_err w d).only hO (by omega)) ((wNsec3_below w d).trans (hO.belowOf (by omega) (by simp [wNsec3]; omega))) rfl rfl
    rw [h1] at h
    obtain ⟨v, rfl, hv, hS, hO⟩ := h
    obtain ⟨u, rfl, hu⟩ := hv
    obtain ⟨uA, uc, rfl⟩ := OwnI.len hu
    have HU : Hid (OwnI (w.heap.size + 3) (.slice uA x.types.length uc) x.types w1) := Lib.hid (hu.lift (by simp [wNsec3]))
    clear hu
    have hk1 := (wNsec3_val w d).only hO (by omega)
    have he1 := (wNsec3_err w d).only hO (by omega)
    have hB1 := (wNsec3_below w d).trans (hO.belowOf (B := w.heap.size) (by omega) (by simp [wNsec3]; omega))
    have c0 : w1.cell? ⟨w.heap.size, 0, none⟩ = some (.int .i64 0) := hk1.cell 0
    have c1 : w1.cell? ⟨w.heap.size, 1, none⟩ = some (.int .i64 0) := hk1.cell 1
    have c2 : w1.cell? ⟨w.heap.size, 2, none⟩ = some (.int .i64 0) := hk1.cell 2
    have c3 : w1.cell? ⟨w.heap.size, 3, none⟩ = some (.string ⟨#[]⟩) := hk1.cell 3
    have c4 : w1.cell? ⟨w.heap.size, 4, none⟩ = some (.string ⟨#[]⟩) := hk1.cell 4
    have c5 : w1.cell? ⟨w.heap.size, 5, none⟩ = some (.slice none 0 0) := hk1.cell 5
    have e0 : w1.cell? ⟨w.heap.size + 1, 0, none⟩ = some (.int .i64 0) := he1.cell 0
    have e5 : w1.cell? ⟨w.heap.size + 1 + 1, 0, none⟩ = some (.string r) := hS.cell 0
    have f0 := fun j => hk1.free j
    have f1 := fun j => he1.free j
    have HK1 := Lib.hid hk1; have HE1 := Lib.hid he1; have HB1 := Lib.hid hB1; have H1 := Lib.hid h1
    clear hk1 he1 hB1 hO hS h1
    simp only [Nsec3R.v]
    by_cases hr : r.size = 0
    · obtain rfl := size_empty hr
      clear hr
      go_wp2_with (go_at_call 93; refine (must_ok _ _).mono ?_; rintro e w' ⟨rfl, rfl⟩)
      refine leaves_cons (f := 112) (args := #[.pointer (some ⟨w.heap.size, 0, none⟩), .pointer (some ⟨w.heap.size + 1, 0, none⟩)]) (by simp) (by simp [go_sem]) ?_
      refine (nsec3_idle _ _ _).mono ?_
      rintro e u' w2 ⟨rfl, rfl, rfl⟩
      refine ⟨_, results2 rfl ⟨_, rfl, loadVar_blk (cs := #[.int .i64 x.alg, .int .i64 x.flags, .int .i64 x.rounds, .string x.salt, .string x.next, .slice uA x.types.length uc]) (t := 108) ?_ Tryz.underlying108 rfl info_Nsec3⟩ ⟨_, rfl, loadVar_int (t := 23) (v := .int .i64 0) ?_ Tryz.underlying23⟩, ?_, ?_⟩
      · refine Blk.other ?_ (by simp) _
        simpa using ((((((((((((HK1.out.set 0 (.int .i64 x.alg)).set 1 (.int .i64 x.flags)).set 2 (.int .i64 x.rounds)).set 3 (.string x.salt)).set 4 (.string x.next)).set 5 (.slice uA x.types.length uc)).set 0 (.int .i64 x.alg)).set 1 (.int .i64 x.flags)).set 2 (.int .i64 x.rounds)).set 3 (.string x.salt)).set 4 (.string x.next)).set 5 (.slice uA x.types.length uc))
      · refine Blk.set (cs := #[.int .i64 0]) ?_ 0 _
        iterate 12 refine Blk.other ?_ (by simp) _
        exact HE1.out
      · refine Below.setCell ?_ (by simp) _
        iterate 12 refine Below.setCell ?_ (by exact Nat.le_refl _) _
        exact HB1.out
      · rw [takeR_some HD.out H1.out rfl]
        refine ⟨_, ⟨_, rfl, ?_⟩, rfl⟩
        refine OwnI.lift (lo := w.heap.size + 3) ?_ (by omega)
        refine OwnI.only (b := w.heap.size + 1) ?_ ((Only.refl _ _).put _ _) (by omega)
        refine OwnI.only (b := w.heap.size) HU.out ?_ (by omega)
        iterate 12 refine Only.put ?_ _ _
        exact Only.refl _ _
    · have he := toList_isEmpty hr
      have hT := takeR_left H1.out hr
      have HT := Lib.hid hT; clear hT hr
      go_wp2_with (go_at_call 93; refine (must_no _ _).mono ?_; rintro e w' ⟨rfl, rfl⟩)
      refine nsec3_door _ HT.out _ (v0 := .int .i64 x.alg) (v1 := .int .i64 x.flags) (v2 := .int .i64 x.rounds) (v3 := .string x.salt) (v4 := .string x.next) (v5 := .slice uA x.types.length uc) (w := w) (w1 := _) (hk := ?_) (he := ?_) (hb := ?_) rfl rfl
      · exact (by simpa using ((((((HK1.out.set 0 (.int .i64 x.alg)).set 1 (.int .i64 x.flags)).set 2 (.int .i64 x.rounds)).set 3 (.string x.salt)).set 4 (.string x.next)).set 5 (.slice uA x.types.length uc)) : Blk _ w.heap.size #[.int .i64 x.alg, .int .i64 x.flags, .int .i64 x.rounds, .string x.salt, .string x.next, .slice uA x.types.length uc] 108)
      · iterate 6 refine Blk.other ?_ (by simp) _
        exact HE1.out
      · iterate 6 refine Below.setCell ?_ (by exact Nat.le_refl _) _
        exact HB1.out
  · have hd' : decide ((d.size : Int) ≤ 2000) = false := by simp; omega
    have HT := Lib.hid (takeR_long (f := nsec3T) hd)
    clear hd
    go_enter_defers Tryz.func89, Tryz.ntmps89
    go_wp2_with (go_at_call 93; refine (must_no _ _).mono ?_; rintro e w' ⟨rfl, rfl⟩)
    exact nsec3_door _ HT.out _ w _ (wNsec3_val w d) (wNsec3_err w d) (wNsec3_below w d) rfl rfl

set_option maxRecDepth 100000 in
theorem data_nsec3 (d : ByteArray) (w : World) :
    Calls Tryz.prog 66 #[.string d] w (TakeP (nsec3V w.heap.size) (.agg #[.int .i64 0, .int .i64 0, .int .i64 0, .string ⟨#[]⟩, .string ⟨#[]⟩, .slice none 0 0]) (takeR nsec3T d) w) := by
  have hmf := makeFunc_run
  go_enter Tryz.func66, Tryz.ntmps66
  go_wp2_with fail
  refine (take_nsec3 d _).mono ?_
  rintro e w1 ⟨hb, h⟩
  have hk1 : Blk w1 w.heap.size #[.int .i64 0, .int .i64 0, .int .i64 0, .string ⟨#[]⟩, .string ⟨#[]⟩, .slice none 0 0] 108 := (Blk.new w #[.int .i64 0, .int .i64 0, .int .i64 0, .string ⟨#[]⟩, .string ⟨#[]⟩, .slice none 0 0] 108).below hb (by simp)
  have hB : Below w.heap.size w w1 := ((Below.refl _ w).alloc (Nat.le_refl _) _).trans (hb.mono (by simp))
  have c0 : w1.cell? ⟨w.heap.size, 0, none⟩ = some (.int .i64 0) := hk1.cell 0
  have c1 : w1.cell? ⟨w.heap.size, 1, none⟩ = some (.int .i64 0) := hk1.cell 1
  have c2 : w1.cell? ⟨w.heap.size, 2, none⟩ = some (.int .i64 0) := hk1.cell 2
  have c3 : w1.cell? ⟨w.heap.size, 3, none⟩ = some (.string ⟨#[]⟩) := hk1.cell 3
  have c4 : w1.cell? ⟨w.heap.size, 4, none⟩ = some (.string ⟨#[]⟩) := hk1.cell 4
  have c5 : w1.cell? ⟨w.heap.size, 5, none⟩ = some (.slice none 0 0) := hk1.cell 5
  have f0 := fun j => hk1.free j
  have HK1 := Lib.hid hk1; have HB := Lib.hid hB; clear hk1 hb hB
  rcases h1 : takeR nsec3T d with _ | x
  · rw [h1] at h
    obtain rfl := h
    go_wp2
    refine bodyPost_ret (results2 rfl ⟨_, rfl, loadVar_blk (cs := #[.int .i64 0, .int .i64 0, .int .i64 0, .string ⟨#[]⟩, .string ⟨#[]⟩, .slice none 0 0]) (t := 108) ?_ Tryz.underlying108 rfl info_Nsec3⟩ rfl) rfl ⟨?_, ?_⟩
    · simpa using ((((((HK1.out.set 0 (.int .i64 0)).set 1 (.int .i64 0)).set 2 (.int .i64 0)).set 3 (.string ⟨#[]⟩)).set 4 (.string ⟨#[]⟩)).set 5 (.slice none 0 0))
    · iterate 6 refine Below.setCell ?_ (by exact Nat.le_refl _) _
      exact HB.out
    · rw [h1]; rfl
  · rw [h1] at h
    obtain ⟨v, hv, rfl⟩ := h
    obtain ⟨u, rfl, hu⟩ := hv
    obtain ⟨uA, uc, rfl⟩ := OwnI.len hu
    have HU : Hid (OwnI (w.heap.size + 1) (.slice uA x.types.length uc) x.types w1) := Lib.hid (hu.lift (by simp))
    clear hu
    simp only [Nsec3R.v]
    go_wp2
    refine bodyPost_ret (results2 rfl ⟨_, rfl, loadVar_blk (cs := #[.int .i64 x.alg, .int .i64 x.flags, .int .i64 x.rounds, .string x.salt, .string x.next, .slice uA x.types.length uc]) (t := 108) ?_ Tryz.underlying108 rfl info_Nsec3⟩ rfl) rfl ⟨?_, ?_⟩
    · simpa using ((((((HK1.out.set 0 (.int .i64 x.alg)).set 1 (.int .i64 x.flags)).set 2 (.int .i64 x.rounds)).set 3 (.string x.salt)).set 4 (.string x.next)).set 5 (.slice uA x.types.length uc))
    · iterate 6 refine Below.setCell ?_ (by exact Nat.le_refl _) _
      exact HB.out
    · rw [h1]
      refine ⟨_, ⟨_, rfl, ?_⟩, rfl⟩
      refine OwnI.lift (lo := w.heap.size + 1) ?_ (by omega)
      refine OwnI.only (b := w.heap.size) HU.out ?_ (Nat.lt_succ_self _)
      iterate 6 refine Only.put ?_ _ _
      exact Only.refl _ _
end Go.Proofs.YtmkodendjlmijaaGreatDoor

/- A region that draws its order: its first n operations only read (and call what only reads), in whatever order; what stands behind them waits for all of them, one behind the other. One walk serves every order; of a fence, too. -/
namespace Go.Proofs.YtmkodendjlmijaaGreatDoor
open Go.RowKit

section
variable {md : Region.Mode} {ops : Array Oper}

/-- wpAny and its fenced twin, over whatever a step is. -/
def anyG (md : Region.Mode) (ops : Array Oper) (Op1 : Nat → (Act → World → Prop) → Act → World → Prop) (Qn : Act → World → Prop) : Nat → Array Bool → Act → World → Prop
  | 0, listed, a, w => Region.ready md ops listed = [] ∧ Qn a w
  | f + 1, listed, a, w => (Region.ready md ops listed = [] → Qn a w) ∧ ∀ i ∈ Region.ready md ops listed, Op1 i (anyG md ops Op1 Qn f (listed.setIfInBounds i true)) a w

theorem anyG_wpAny {P : Program} {Q : Exit → Act → World → Prop} : ∀ (f : Nat) (listed : Array Bool), anyG md ops (wpOp P ops Q) (Q .normal) f listed = wpAny P md ops Q f listed
  | 0, _ => rfl
  | f + 1, listed => by
    funext a w
    simp only [anyG, wpAny, anyG_wpAny f]
theorem anyG_wpAnyIn {F : Fence} {n : Nat} {P : Program} {Q : Exit → Act → World → Prop} : ∀ (f : Nat) (listed : Array Bool), anyG md ops (wpOpIn F n P ops Q) (Q .normal) f listed = wpAnyIn F n P md ops Q f listed
  | 0, _ => rfl
  | f + 1, listed => by
    funext a w
    simp only [anyG, wpAnyIn, anyG_wpAnyIn f]

/-- Each operation from n on waits for every one ahead of it; the edges lead back. -/
def tailB (md : Region.Mode) (ops : Array Oper) (n : Nat) : Bool :=
  (List.range ops.size).all fun t => match ops[t]? with
    | none => true
    | some o => o.after.all (fun e => decide (e.on < t)) && (decide (t < n) || (List.range t).all fun i => o.after.any fun e => Region.binds md e && e.on == i)

theorem tailB_back {n t : Nat} {o : Oper} (h : tailB md ops n = true) (ho : ops[t]? = some o) : ∀ e ∈ o.after, e.on < t := by
  have hlt : t < ops.size := (Array.getElem?_eq_some_iff.1 ho).1
  have h1 := List.all_eq_true.1 h t (List.mem_range.2 hlt)
  simp only [ho, Bool.and_eq_true] at h1
  intro e he
  have := Array.all_eq_true'.1 h1.1 e he
  simpa using this
theorem tailB_waits {n t : Nat} {o : Oper} (h : tailB md ops n = true) (ho : ops[t]? = some o) (hn : n ≤ t) : ∀ i, i < t → ∃ e ∈ o.after, Region.binds md e = true ∧ e.on = i := by
  have hlt : t < ops.size := (Array.getElem?_eq_some_iff.1 ho).1
  have h1 := List.all_eq_true.1 h t (List.mem_range.2 hlt)
  simp only [ho, Bool.and_eq_true, Bool.or_eq_true, decide_eq_true_eq] at h1
  intro i hi
  rcases h1.2 with h2 | h2
  · omega
  · obtain ⟨e, he, hb⟩ := Array.any_eq_true'.1 (List.all_eq_true.1 h2 i (List.mem_range.2 hi))
    simp only [Bool.and_eq_true, beq_iff_eq] at hb
    exact ⟨e, he, hb.1, hb.2⟩

/-- What stands behind the first n, one behind the other. -/
def tailG (Op1 : Nat → (Act → World → Prop) → Act → World → Prop) (Qn : Act → World → Prop) (size : Nat) : Nat → Act → World → Prop
  | 0 => Qn
  | k + 1 => Op1 (size - (k + 1)) (tailG Op1 Qn size k)

theorem tail_any {Op1 : Nat → (Act → World → Prop) → Act → World → Prop} {Qn : Act → World → Prop} (hmono : ∀ i (K K' : Act → World → Prop) a w, (∀ a w, K a w → K' a w) → Op1 i K a w → Op1 i K' a w)
    {n : Nat} (hB : tailB md ops n = true) : ∀ (k f : Nat) (listed : Array Bool) (a : Act) (w : World), k ≤ f → n + k ≤ ops.size → listed.size = ops.size →
      (∀ i, i < ops.size - k → listed.getD i false = true) → (∀ i, ops.size - k ≤ i → i < ops.size → listed.getD i false = false) →
      tailG Op1 Qn ops.size k a w → anyG md ops Op1 Qn f listed a w := by
  intro k
  induction k with
  | zero =>
    intro f listed a w _ _ hsz hl _ h
    have hr : Region.ready md ops listed = [] := by
      apply List.eq_nil_iff_forall_not_mem.2
      intro i hi
      obtain ⟨hun, o, ho, _⟩ := mem_ready.1 hi
      have hlt : i < ops.size := (Array.getElem?_eq_some_iff.1 ho).1
      have := hl i (by omega)
      have hls : i < listed.size := by omega
      simp [hls] at hun this
      rw [hun] at this
      cases this
    cases f with
    | zero => exact ⟨hr, h⟩
    | succ f => exact ⟨fun _ => h, fun i hi => absurd hi (by rw [hr]; simp)⟩
  | succ k ih =>
    intro f listed a w hf hn hsz hl hu h
    obtain ⟨f, rfl⟩ : ∃ g, f = g + 1 := ⟨f - 1, by omega⟩
    have hm : ops.size - (k + 1) < ops.size := by omega
    have honly : ∀ i ∈ Region.ready md ops listed, i = ops.size - (k + 1) := by
      intro i hi
      obtain ⟨hun, o, ho, hall⟩ := mem_ready.1 hi
      have hlt : i < ops.size := (Array.getElem?_eq_some_iff.1 ho).1
      have hls : i < listed.size := by omega
      rcases Nat.lt_trichotomy i (ops.size - (k + 1)) with h1 | h1 | h1
      · have := hl i h1
        simp [hls] at hun this
        rw [hun] at this
        cases this
      · exact h1
      · obtain ⟨e, he, hb, hon⟩ := tailB_waits hB ho (by omega) _ h1
        have h2 := hall e he hb
        rw [hon, hu _ (Nat.le_refl _) hm] at h2
        cases h2
    have hready : ops.size - (k + 1) ∈ Region.ready md ops listed := by
      refine mem_ready.2 ⟨?_, ops[ops.size - (k + 1)], Array.getElem?_eq_getElem hm, fun e he _ => ?_⟩
      · have := hu _ (Nat.le_refl _) hm
        have hls : ops.size - (k + 1) < listed.size := by omega
        simp [hls] at this ⊢
        exact this
      · exact hl _ (tailB_back hB (Array.getElem?_eq_getElem hm) e he)
    refine ⟨fun h0 => absurd hready (by rw [h0]; simp), fun i hi => ?_⟩
    have hi' := honly i hi
    subst hi'
    refine hmono _ _ _ a w (fun a' w' h' => ih f _ a' w' (by omega) (by omega) (by simpa using hsz) ?_ ?_ h') h
    · intro i hi
      by_cases he : ops.size - (k + 1) = i
      · have hls : i < listed.size := by omega
        simp [he, hls]
      · have := hl i (by omega)
        simp only [Array.getD_eq_getD_getElem?, Array.getElem?_setIfInBounds, he, if_false] at this ⊢
        exact this
    · intro i h1 h2
      have he : ¬ ops.size - (k + 1) = i := by omega
      have := hu i (by omega) h2
      simp only [Array.getD_eq_getD_getElem?, Array.getElem?_setIfInBounds, he, if_false] at this ⊢
      exact this

/-- The first n operations. -/
def headOps (ops : Array Oper) (n : Nat) : Array Oper := (ops.toList.take n).toArray
theorem headOps_get {n i : Nat} (hi : i < n) : (headOps ops n)[i]? = ops[i]? := by simp [headOps, hi]
theorem headOps_size {n : Nat} (hn : n ≤ ops.size) : (headOps ops n).size = n := by simp [headOps]; omega

/-- Guards look back. -/
def guardB (ops : Array Oper) : Bool := (List.range ops.size).all fun i => match ops[i]? with
  | some o => (match o.guard with | some (j, _) => decide (j < i) | none => true)
  | none => true
theorem wanted_head {n i : Nat} {o : Oper} (hg : guardB ops = true) (hi : i < n) (ho : ops[i]? = some o) (t : Array Value) : Region.wanted o (yielded (headOps ops n) t) = Region.wanted o (yielded ops t) := by
  have hlt : i < ops.size := (Array.getElem?_eq_some_iff.1 ho).1
  have h1 := List.all_eq_true.1 hg i (List.mem_range.2 hlt)
  simp only [ho] at h1
  unfold Region.wanted
  split
  · rfl
  · rename_i j want hj
    simp only [hj, decide_eq_true_eq] at h1
    unfold yielded
    rw [headOps_get (by omega)]

theorem all_listed {n : Nat} (hB : tailB md ops n = true) (hn : n ≤ ops.size) {listed : Array Bool} (hsz : listed.size = n) (hr : Region.ready md (headOps ops n) listed = []) : ∀ i, i < n → listed.getD i false = true := by
  intro i
  induction i using Nat.strongRecOn with
  | _ i ih =>
    intro hi
    cases hl : listed.getD i false with
    | true => rfl
    | false =>
      exfalso
      have hlt : i < ops.size := by omega
      have hmem : i ∈ Region.ready md (headOps ops n) listed := by
        refine mem_ready.2 ⟨?_, ops[i], by rw [headOps_get hi]; exact Array.getElem?_eq_getElem hlt, fun e he _ => ?_⟩
        · have hls : i < listed.size := by omega
          simp [hls] at hl ⊢
          exact hl
        · have := tailB_back hB (Array.getElem?_eq_getElem hlt) e he
          exact ih e.on this (by omega)
      rw [hr] at hmem
      cases hmem

theorem getD_head {listed : Array Bool} {n k i : Nat} {d : Bool} (hsz : listed.size = n) (hi : i < n) : (listed ++ Array.replicate k false).getD i d = listed.getD i d := by
  simp only [Array.getD_eq_getD_getElem?]
  rw [Array.getElem?_append_left (by omega)]
theorem getD_tail {listed : Array Bool} {n k i : Nat} (hsz : listed.size = n) (h1 : n ≤ i) : (listed ++ Array.replicate k false).getD i false = false := by
  simp only [Array.getD_eq_getD_getElem?]
  rw [Array.getElem?_append_right (by omega)]
  rcases Nat.lt_or_ge (i - listed.size) k with h | h
  · simp [h]
  · simp [h]
theorem set_head {listed : Array Bool} {n k i : Nat} (hsz : listed.size = n) (hi : i < n) : (listed ++ Array.replicate k false).setIfInBounds i true = listed.setIfInBounds i true ++ Array.replicate k false := by
  apply Array.ext_getElem?
  intro j
  rw [Array.getElem?_setIfInBounds]
  by_cases hj : j < n
  · rw [Array.getElem?_append_left (by omega), Array.getElem?_append_left (by simp; omega), Array.getElem?_setIfInBounds]
    simp only [Array.size_append, Array.size_replicate]
    split
    · rw [if_pos (by omega), if_pos (by omega)]
    · rfl
  · rw [if_neg (by omega), Array.getElem?_append_right (by omega), Array.getElem?_append_right (by simp; omega)]
    simp

theorem head_any {P : Program} {C : World → Prop} {Op1 : Nat → (Act → World → Prop) → Act → World → Prop} {Qn : Act → World → Prop} (hmono : ∀ i (K K' : Act → World → Prop) a w, (∀ a w, K a w → K' a w) → Op1 i K a w → Op1 i K' a w)
    {n : Nat} (hB : tailB md ops n = true) (hn : n ≤ ops.size)
    (hq : ∀ i (K : Act → Prop) (K' : Act → World → Prop) a w, i < n → C w → (∀ a' w', C w' → K a' → K' a' w') → qOp P (headOps ops n) C i K a → Op1 i K' a w)
    {Qh : Act → Prop} (hQ : ∀ a w, C w → Qh a → tailG Op1 Qn ops.size (ops.size - n) a w) :
    ∀ (f : Nat) (listed : Array Bool) (a : Act) (w : World), C w → listed.size = n → wpAnyQ P md (headOps ops n) C Qh f listed a →
      anyG md ops Op1 Qn (f + (ops.size - n)) (listed ++ Array.replicate (ops.size - n) false) a w := by
  have hdone : ∀ (f : Nat) (listed : Array Bool) (a : Act) (w : World), C w → listed.size = n → Region.ready md (headOps ops n) listed = [] → Qh a →
      anyG md ops Op1 Qn (f + (ops.size - n)) (listed ++ Array.replicate (ops.size - n) false) a w := by
    intro f listed a w hC hsz hr h
    have hall := all_listed hB hn hsz hr
    refine tail_any hmono hB (ops.size - n) _ _ a w (by omega) (by omega) (by simp; omega) ?_ ?_ (hQ a w hC h)
    · intro i hi
      rw [getD_head hsz (by omega)]
      exact hall i (by omega)
    · intro i h1 _
      exact getD_tail hsz (by omega)
  intro f
  induction f with
  | zero =>
    intro listed a w hC hsz h
    exact hdone 0 listed a w hC hsz h.1 h.2
  | succ f ih =>
    intro listed a w hC hsz h
    cases hr : Region.ready md (headOps ops n) listed with
    | nil => exact hdone (f + 1) listed a w hC hsz hr (h.1 hr)
    | cons i0 rs =>
      have h0 : i0 ∈ Region.ready md (headOps ops n) listed := by rw [hr]; simp
      obtain ⟨hun0, o0, ho0, hall0⟩ := mem_ready.1 h0
      have hi0 : i0 < n := by have := (Array.getElem?_eq_some_iff.1 ho0).1; rw [headOps_size hn] at this; exact this
      have hls0 : i0 < listed.size := by omega
      have key : ∀ i, i ∈ Region.ready md ops (listed ++ Array.replicate (ops.size - n) false) → i < n ∧ i ∈ Region.ready md (headOps ops n) listed := by
        intro i hi
        obtain ⟨hun, o, ho, hall⟩ := mem_ready.1 hi
        by_cases hin : i < n
        · refine ⟨hin, mem_ready.2 ⟨by rw [getD_head hsz hin] at hun; exact hun, o, by rw [headOps_get hin]; exact ho, fun e he hb => ?_⟩⟩
          have := hall e he hb
          rw [getD_head hsz (by have := tailB_back hB ho e he; omega)] at this
          exact this
        · exfalso
          obtain ⟨e, he, hb, hon⟩ := tailB_waits hB ho (by omega) i0 (by omega)
          have := hall e he hb
          rw [hon, getD_head hsz hi0] at this
          simp [hls0] at hun0 this
          rw [this] at hun0
          cases hun0
      rw [show f + 1 + (ops.size - n) = (f + (ops.size - n)) + 1 by omega]
      refine ⟨fun hnil => ?_, fun i hi => ?_⟩
      · exfalso
        have : i0 ∈ Region.ready md ops (listed ++ Array.replicate (ops.size - n) false) := by
          refine mem_ready.2 ⟨by rw [getD_head hsz hi0]; exact hun0, o0, by rw [headOps_get hi0] at ho0; exact ho0, fun e he hb => ?_⟩
          rw [headOps_get hi0] at ho0
          rw [getD_head hsz (by have := tailB_back hB ho0 e he; omega)]
          exact hall0 e he hb
        rw [hnil] at this
        cases this
      · obtain ⟨hin, hmem⟩ := key i hi
        refine hq i _ _ a w hin hC (fun a' w' hC' h' => ?_) (h.2 i hmem)
        rw [set_head hsz hin]
        exact ih _ a' w' hC' (by simpa using hsz) h'
end

section
variable {P : Program} {C : World → Prop} {Q : Exit → Act → World → Prop} {a : Act} {w : World} {id : Nat} {ops : Array Oper} {n : Nat}

theorem tailG_wp : ∀ (k : Nat) (a : Act) (w : World), k ≤ ops.size → wpList P ops Q (ops.toList.drop (ops.size - k)) a w → tailG (wpOp P ops Q) (Q .normal) ops.size k a w := by
  intro k
  induction k with
  | zero =>
    intro a w _ h
    rw [Nat.sub_zero, List.drop_of_length_le (by simp)] at h
    exact h
  | succ k ih =>
    intro a w hk h
    have hlt : ops.size - (k + 1) < ops.size := by omega
    rw [List.drop_eq_getElem_cons (by simpa using hlt)] at h
    simp only [tailG, wpOp]
    rw [Array.getElem?_eq_getElem hlt]
    simp only [wpList, Array.getElem_toList] at h
    rw [show ops.size - (k + 1) + 1 = ops.size - k by omega] at h
    dsimp only
    split
    · rename_i hw
      rw [if_pos hw] at h
      exact h.imp (Oper.wp_mono (fun a w h => ih a w (by omega) h)) id
    · rename_i hw
      rw [if_neg hw] at h
      exact ih _ _ (by omega) h

theorem qOp_head {i : Nat} {K : Act → Prop} (hg : guardB ops = true) (hi : i < n) (h : qOp P (headOps ops n) C i K a) : qOp P ops C i K a := by
  unfold qOp at *
  rw [headOps_get hi] at h
  cases ho : ops[i]? with
  | none => simpa only [ho] using h
  | some o =>
    simp only [ho] at h ⊢
    rw [wanted_head hg hi ho] at h
    exact h

/-- **A region that draws: n operations that only read; behind them what waits for them.** -/
theorem wp_draw (n : Nat) {l : List Oper} (hm : P.follows .mixedOrders = true) (hB : tailB .any l.toArray n = true) (hG : guardB l.toArray = true) (hL : Region.lexB .any (headOps l.toArray n) = true) (hn : n ≤ l.length)
    (hC : C { w with drawn := w.drawn + 1 }) (h : wpQuiet P (l.take n).toArray C (fun a' => ∀ w', C w' → wpList P l.toArray Q (l.drop n) a' w') (l.take n) a) : (Code.region id l.toArray true).wp P Q a w := by
  simp only [Region.lexB, Bool.and_eq_true] at hL
  have hn' : n ≤ l.toArray.size := by simpa using hn
  rw [show (l.take n).toArray = headOps l.toArray n by simp [headOps]] at h
  refine wp_region_any hm ?_
  have hlen : (l.take n).length = n := by simp; omega
  have h1 := wpAnyQ_lex (P := P) (C := C) (md := .any) hL.1 (l.take n) 0 (Array.replicate n false) a (by intro j; simp [headOps]) (by rw [hlen]; have := hL.2; rw [headOps_size hn'] at this; exact this) h
  rw [hlen] at h1
  have h2 := head_any (P := P) (C := C) (md := .any) (Op1 := wpOp P l.toArray Q) (Qn := Q .normal) (fun i K K' a w hk hh => wpOp_mono hk hh) hB hn'
    (fun i K K' a w hi hC' hk hh => wpOp_of_qOp hC' hk (qOp_head hG hi hh))
    (Qh := fun a' => ∀ w', C w' → wpList P l.toArray Q (l.drop n) a' w')
    (fun a' w' hC' hh => tailG_wp _ a' w' (by omega) (by
      have := hh w' hC'
      rw [show l.toArray.size - (l.toArray.size - n) = n by omega]
      simpa using this)) n (Array.replicate n false) a _ hC (by simp) h1
  rw [anyG_wpAny] at h2
  have e : (Array.replicate n false ++ Array.replicate (l.toArray.size - n) false) = Array.replicate l.toArray.size false := by
    rw [Array.replicate_append_replicate]
    congr 1
    omega
  rw [e, show n + (l.toArray.size - n) = l.toArray.size by omega] at h2
  exact h2
end

section
variable {P : Program} {C : World → Prop} {Q : Exit → Act → World → Prop} {a : Act} {w : World} {id : Nat} {ops : Array Oper} {n : Nat} {F : Fence} {d : Nat}

/-- A fence that lets everything by. -/
structure OpenFence (F : Fence) (d : Nat) (P : Program) : Prop where
  fn : ∀ f, F.fn f
  depth : F.depth = none
  calls : ∀ f args w R, Calls P f args w R → CallsIn F (d - 1) P f args w R
theorem openWide (d : Nat) (P : Program) : OpenFence Fence.wide d P := ⟨fun _ => trivial, rfl, fun _ _ _ _ h => callsIn_wide.2 h⟩
theorem openRound (l d : Nat) (P : Program) : OpenFence (Fence.wide.inRound l) d P := ⟨fun _ => trivial, rfl, fun _ _ _ _ h => CallsIn.inRound l (callsIn_wide.2 h)⟩

theorem wpOpIn_of_qOp (hF : OpenFence F d P) {i : Nat} {K : Act → Prop} {K' : Act → World → Prop} (hC : C w) (h : ∀ a w', C w' → K a → K' a w') (hh : qOp P ops C i K a) : wpOpIn F d P ops Q i K' a w := by
  unfold qOp at hh
  unfold wpOpIn
  split
  · rename_i ho; simp only [ho] at hh; exact h _ _ hC hh
  · rename_i o ho
    simp only [ho] at hh
    split
    · rename_i hw
      simp only [hw, if_true] at hh
      obtain ⟨v, h1, h2⟩ := hh
      have h3 := h1 w hC
      unfold Oper.quietAt at h3
      have hdef : ∀ c, o.op ≠ .defer c := by
        intro c hc
        unfold execOp at h3
        rw [hc] at h3
        simp only [Sem.run_bind] at h3
        cases hr : (resolve a.eval c o.type).run P w with
        | ok x w' => rw [hr] at h3; simp [Oper.quietUpon] at h3
        | halt x w' => rw [hr] at h3; simp [Oper.quietUpon] at h3
      have hs : Oper.semAt F.round a.eval o = execOp a.eval o := by
        cases F.round with
        | none => rfl
        | some l => exact Oper.semAt_some l _ _ hdef
      refine ⟨fun f _ => hF.fn f, ?_⟩
      rw [hs]
      generalize (execOp a.eval o).run P w = r at *
      cases r with
      | ok x w' =>
        cases x <;> simp only [Oper.quietUpon] at h3 <;> simp only [Oper.uponIn]
        case value u =>
          obtain ⟨e1, e2⟩ := h3
          rw [e1, e2]
          exact h _ _ hC h2
        case skip =>
          obtain ⟨e1, e2⟩ := h3
          rw [e1, ← e2]
          exact h _ _ hC h2
        case enter f args =>
          obtain ⟨e1, hc⟩ := h3
          rw [e1]
          refine ⟨fun hd => (by rw [hF.depth] at hd; cases hd), hF.calls _ _ _ _ (hc.mono ?_)⟩
          rintro e w'' ⟨he, hw''⟩
          subst he
          exact h _ _ hw'' h2
      | halt x w' => simp only [Oper.quietUpon] at h3
    · rename_i hw
      simp only [hw] at hh
      exact ⟨fun f _ => hF.fn f, h _ _ hC hh⟩

theorem tailG_wpIn : ∀ (k : Nat) (a : Act) (w : World), k ≤ ops.size → wpListIn F d P ops Q (ops.toList.drop (ops.size - k)) a w → tailG (wpOpIn F d P ops Q) (Q .normal) ops.size k a w := by
  intro k
  induction k with
  | zero =>
    intro a w _ h
    rw [Nat.sub_zero, List.drop_of_length_le (by simp)] at h
    exact h
  | succ k ih =>
    intro a w hk h
    have hlt : ops.size - (k + 1) < ops.size := by omega
    rw [List.drop_eq_getElem_cons (by simpa using hlt)] at h
    simp only [tailG, wpOpIn]
    rw [Array.getElem?_eq_getElem hlt]
    simp only [wpListIn, Array.getElem_toList] at h
    rw [show ops.size - (k + 1) + 1 = ops.size - k by omega] at h
    dsimp only
    split
    · rename_i hw
      rw [if_pos hw] at h
      exact Oper.wpIn_mono (fun a w h => ih a w (by omega) h) h
    · rename_i hw
      rw [if_neg hw] at h
      exact ⟨h.1, ih _ _ (by omega) h.2⟩

theorem wpIn_draw (hF : OpenFence F d P) (n : Nat) {l : List Oper} (hm : P.follows .mixedOrders = true) (hB : tailB .any l.toArray n = true) (hG : guardB l.toArray = true) (hL : Region.lexB .any (headOps l.toArray n) = true) (hn : n ≤ l.length)
    (hC : C { w with drawn := w.drawn + 1 }) (h : wpQuiet P (l.take n).toArray C (fun a' => ∀ w', C w' → wpListIn F d P l.toArray Q (l.drop n) a' w') (l.take n) a) : (Code.region id l.toArray true).wpIn F d P Q a w := by
  simp only [Region.lexB, Bool.and_eq_true] at hL
  have hn' : n ≤ l.toArray.size := by simpa using hn
  rw [show (l.take n).toArray = headOps l.toArray n by simp [headOps]] at h
  refine wpIn_region_any hm ?_
  have hlen : (l.take n).length = n := by simp; omega
  have h1 := wpAnyQ_lex (P := P) (C := C) (md := .any) hL.1 (l.take n) 0 (Array.replicate n false) a (by intro j; simp [headOps]) (by rw [hlen]; have := hL.2; rw [headOps_size hn'] at this; exact this) h
  rw [hlen] at h1
  have h2 := head_any (P := P) (C := C) (md := .any) (Op1 := wpOpIn F d P l.toArray Q) (Qn := Q .normal) (fun i K K' a w hk hh => wpOpIn_mono hk hh) hB hn'
    (fun i K K' a w hi hC' hk hh => wpOpIn_of_qOp hF hC' hk (qOp_head hG hi hh))
    (Qh := fun a' => ∀ w', C w' → wpListIn F d P l.toArray Q (l.drop n) a' w')
    (fun a' w' hC' hh => tailG_wpIn _ a' w' (by omega) (by
      have := hh w' hC'
      rw [show l.toArray.size - (l.toArray.size - n) = n by omega]
      simpa using this)) n (Array.replicate n false) a _ hC (by simp) h1
  rw [anyG_wpAnyIn] at h2
  have e : (Array.replicate n false ++ Array.replicate (l.toArray.size - n) false) = Array.replicate l.toArray.size false := by
    rw [Array.replicate_append_replicate]
    congr 1
    omega
  rw [e, show n + (l.toArray.size - n) = l.toArray.size by omega] at h2
  exact h2
end

/-- The class of the worlds after some draws, for both. -/
abbrev Drawn (w : World) : World → Prop := fun w' => ∃ n, w' = w.drewN n
end Go.Proofs.YtmkodendjlmijaaGreatDoor

/- name.Lower, walked. -/
namespace Go.Proofs.YtmkodendjlmijaaGreatDoor
open Go.RowKit Go.Shelf
attribute [local go_sem] Oper.semAt_some

/-- Does a place lie in one of these labels? -/
def covered (l : List (Nat × ByteArray)) (j : Nat) : Bool := l.any fun x => decide (x.1 + 1 ≤ j) && decide (j < x.1 + 1 + x.2.size)
theorem covered_snoc (l : List (Nat × ByteArray)) (x : Nat × ByteArray) (j : Nat) : covered (l ++ [x]) j = (covered l j || (decide (x.1 + 1 ≤ j) && decide (j < x.1 + 1 + x.2.size))) := by simp [covered]

/-- t is s with small letters where p says so. -/
def LowAt (s t : ByteArray) (p : Nat → Bool) : Prop := t.size = s.size ∧ ∀ j, j < s.size → byt t j = if p j then smallB (byt s j) else byt s j
theorem LowAt.start (s : ByteArray) (p : Nat → Bool) (h : ∀ j, p j = false) : LowAt s s p := ⟨rfl, fun j _ => by simp [h j]⟩
theorem LowAt.congr {s t : ByteArray} {p q : Nat → Bool} (h : LowAt s t p) (e : ∀ j, j < s.size → p j = q j) : LowAt s t q := ⟨h.1, fun j hj => by rw [← e j hj]; exact h.2 j hj⟩
theorem LowAt.step {s t : ByteArray} {p : Nat → Bool} (h : LowAt s t p) (k : Nat) (hk : k < s.size) : LowAt s (bset t k (smallB (byt t k))) (fun j => p j || decide (j = k)) := by
  refine ⟨by rw [size_bset]; exact h.1, fun j hj => ?_⟩
  rw [byt_bset t k j _ (by rw [h.1]; exact hk)]
  by_cases e : k = j
  · subst e
    rw [if_pos rfl, h.2 k hk]
    simp only [decide_true, Bool.or_true, if_true]
    split
    · exact smallB_smallB _
    · rfl
  · rw [if_neg e, h.2 j hj]
    have e' : ¬ j = k := fun h => e h.symm
    simp [e']

theorem cov_step (c : Bool) (a k j : Nat) : ((c || (decide (a ≤ j) && decide (j < a + k))) || decide (j = a + k)) = (c || (decide (a ≤ j) && decide (j < a + (k + 1)))) := by
  cases c
  · rw [Bool.eq_iff_iff]; simp; omega
  · simp

set_option maxRecDepth 100000 in
set_option maxHeartbeats 1000000 in
theorem name_lower_in (s : ByteArray) (w : World) (hr : nameRight s = true) :
    CallsIn Fence.wide 4 Tryz.prog 25 #[.string s] w fun e w' => (∃ t, e = .returned (.string t) ∧ LowAt s t (covered (labels s))) ∧ Below w.heap.size w w' := by
  have h255 : s.size ≤ 255 := by simp [nameRight] at hr; omega
  have hrc := fun w => name_right s w
  rw [hr] at hrc
  have HR := Lib.hid hrc
  clear hrc hr
  have hro : Fence.wide.round = none := rfl
  have hn1 : 1 ≤ 4 := by omega
  have hmk := make_u8 s.size (by omega)
  have hcp := fun w o => copy_str_new w s o
  refine callsIn_of_wp_marks Tryz.func25 rfl trivial ?_ hro
  simp only [Tryz.ntmps25, List.size_toArray, List.length_cons, List.length_nil, Nat.reduceAdd, Nat.reduceSub, Array.replicate_succ, Array.replicate_zero, List.push_toArray, List.append_toArray, List.nil_append, List.cons_append]
  gi_wp2_with (first | (refine ⟨trivial, ?_⟩; gi_at_call 32; refine (callsIn_wide.2 (labels_any _ _)).mono ?_; rintro e w' ⟨rfl, rfl⟩) | (refine ⟨trivial, ?_⟩; gi_at_call 12; refine (callsIn_wide.2 (HR.out _)).mono ?_; rintro e w1 ⟨rfl, hB1⟩))
  have hB0 : Below w.heap.size w (((w1.alloc (.cells (encS s) 5)).alloc (.cells #[.slice (some ⟨w1.heap.size, 0, none⟩) s.size s.size] 57)).alloc (.cells #[.string s] 9)) := (((hB1.alloc hB1.size _).alloc (by simp; have := hB1.size; omega) _).alloc (by simp; have := hB1.size; omega) _)
  have b0 : Blk (((w1.alloc (.cells (encS s) 5)).alloc (.cells #[.slice (some ⟨w1.heap.size, 0, none⟩) s.size s.size] 57)).alloc (.cells #[.string s] 9)) w1.heap.size (encS s) 5 := ((Blk.new w1 _ _).alloc _).alloc _
  have b1 : Blk (((w1.alloc (.cells (encS s) 5)).alloc (.cells #[.slice (some ⟨w1.heap.size, 0, none⟩) s.size s.size] 57)).alloc (.cells #[.string s] 9)) (w1.heap.size + 1) #[.slice (some ⟨w1.heap.size, 0, none⟩) s.size s.size] 57 := by
    have := (Blk.new (w1.alloc (.cells (encS s) 5)) #[.slice (some ⟨w1.heap.size, 0, none⟩) s.size s.size] 57).alloc (.cells #[.string s] 9)
    simpa using this
  have b2 : Blk (((w1.alloc (.cells (encS s) 5)).alloc (.cells #[.slice (some ⟨w1.heap.size, 0, none⟩) s.size s.size] 57)).alloc (.cells #[.string s] 9)) (w1.heap.size + 1 + 1) #[.string s] 9 := by
    have := Blk.new ((w1.alloc (.cells (encS s) 5)).alloc (.cells #[.slice (some ⟨w1.heap.size, 0, none⟩) s.size s.size] 57)) #[.string s] 9
    simpa using this
  have hsz : w.heap.size ≤ w1.heap.size := hB1.size
  clear HR hmk hcp hB1
  refine wpIn_rangeFunc_ownF (α := Lab s) (ps := #[19, 20]) hro hn1 (gf := 60) (lb := #[.pointer (some ⟨w1.heap.size + 1 + 1, 0, none⟩)]) rfl trivial (enters_of Tryz.func60 (by kernel_rfl) rfl)
    (labels1_stops Fence.wide 3 trivial hro (by omega) (w1.heap.size + 1 + 1) s _ (by omega) b2) keepsBlk_t keepsBlk_b (Below.refl _ _) (fun _ => rfl)
    (fun pre W => ((∃ t, Blk W w1.heap.size (encS t) 5 ∧ LowAt s t (covered (labPre pre))) ∧ Blk W (w1.heap.size + 1) #[.slice (some ⟨w1.heap.size, 0, none⟩) s.size s.size] 57) ∧ Below w.heap.size w W)
    (fun _ _ _ => False)
    (OwnFrom.and (Own.from (fun s A B row hs hg hr => ⟨by obtain ⟨t, h1, h2⟩ := hs.1; exact ⟨t, h1.kept hg hr, h2⟩, hs.2.kept hg hr⟩) _) (ownFrom_below (Nat.le_refl _) (by simp; omega)))
    (fun _ _ _ _ _ hs _ _ => hs)
    ⟨⟨⟨s, b0, LowAt.start s _ (fun j => by simp [covered, labPre])⟩, b1⟩, hB0⟩
    (fun x => { tmps := #[.string s, undef, .string ⟨#[]⟩, .pointer (some ⟨w1.heap.size + 1, 0, none⟩), .int .i64 (x.1.1 : Int), .string x.1.2, undef, .string s, .bool true, .bool false, undef, .string s, .int .i64 s.size, .slice (some ⟨w1.heap.size, 0, none⟩) s.size s.size, .slice (some ⟨w1.heap.size, 0, none⟩) s.size s.size, .string s, .int .i64 s.size, .string s, .func (.func 60) #[] #[.pointer (some ⟨w1.heap.size + 1 + 1, 0, none⟩)], .int .i64 (x.1.1 : Int), .string x.1.2, undef, undef, undef, undef, undef, undef, undef, undef, undef, undef, undef, undef, undef, undef, undef, undef, undef, undef, undef, undef, undef, undef], defers := [] }) ?assign ?body ?done ?stop
  case assign =>
    intro l x W K hK
    simp only [encLab]
    gi_wp2
    exact hK
  case body =>
    rintro l pre x W ⟨⟨⟨t, hb, hlow⟩, hs1⟩, hB⟩ _
    have hx := (labels_le s x.1 x.2).1
    have HB := Lib.hid hb; have HL := Lib.hid hlow; have HS := Lib.hid hs1
    clear hb hlow hs1
    gi_wp2
    gi_loopw [6, 23] (fun _ i wr => ∃ (k : Nat) (t : ByteArray), k ≤ x.1.2.size ∧ i = .int .i64 k ∧ Hid (Blk wr w1.heap.size (encS t) 5) ∧ Hid (LowAt s t (fun j => covered (labPre pre) j || (decide (x.1.1 + 1 ≤ j) && decide (j < x.1.1 + 1 + k)))) ∧ Hid (Blk wr (w1.heap.size + 1) #[.slice (some ⟨w1.heap.size, 0, none⟩) s.size s.size] 57) ∧ Below w.heap.size w wr ∧ KeepsOthers W wr ∧ KeepsBlk (w1.heap.size + 1 + 1) W wr)
      (fun _ i _ => x.1.2.size - (intOf i).toNat)
    case atStart =>
      exact ⟨0, t, Nat.zero_le _, rfl, HB, Lib.hid (HL.out.congr (fun j _ => by simp; omega)), HS, hB, KeepsOthers.refl _, KeepsBlk.refl _ _⟩
    case round =>
      obtain ⟨k, u, hk, rfl, hbu, hlu, hsu, hBu, hKo, hKb⟩ := hrel
      by_cases hlt : k < x.1.2.size
      · have hcell : wr.cell? ⟨w1.heap.size + 1, 0, none⟩ = some (.slice (some ⟨w1.heap.size, 0, none⟩) s.size s.size) := hsu.out.cell 0
        have hks : x.1.1 + 1 + k < s.size := by omega
        have hus : x.1.1 + 1 + k < u.size := by have := hlu.out.1; omega
        have hbyte : wr.cell? ⟨w1.heap.size, x.1.1 + 1 + k, none⟩ = some (.int .u8 ((byt u (x.1.1 + 1 + k)).toNat : Int)) := by rw [hbu.out.cell, encS_get u _ hus]
        have hfree := hbu.out.free (x.1.1 + 1 + k)
        have hmix : Tryz.prog.follows .mixedOrders = true := by kernel_rfl
        have q1 : (0 : Int) ≤ (x.1.1 : Int) + 1 + (k : Int) := by omega
        have q2 : (x.1.1 : Int) + 1 + (k : Int) < (s.size : Int) := by omega
        have r1 : IntKind.i64.wrap ((x.1.1 : Int) + 1) = (x.1.1 : Int) + 1 := IntWalk.i64_in _ (by omega)
        have r2 : IntKind.i64.wrap ((x.1.1 : Int) + 1 + (k : Int)) = (x.1.1 : Int) + 1 + (k : Int) := IntWalk.i64_in _ (by omega)
        have hti : ((x.1.1 : Int) + 1 + (k : Int)).toNat = x.1.1 + 1 + k := by omega
        gi_wp2
        refine wpIn_draw (openRound l _ _) 14 (C := Drawn wr) hmix (by kernel_rfl) (by kernel_rfl) (by kernel_rfl) (by simp) ⟨1, rfl⟩ ?_
        simp only [List.take_succ_cons, List.take_zero, List.drop_succ_cons, List.drop_zero]
        repeat (go_big_quiet_step ((go_at_call 46; exact Calls.quiet_of_same ((small_any _ _).mono fun e w' h => ⟨h.1, h.2.symm⟩))))
        refine wpQuiet_nil ?_
        intro _ hw'
        obtain ⟨nq, hw''⟩ := hw'
        subst hw''
        gi_wp2
        go_roundw
        case rel =>
          refine ⟨k + 1, bset u (x.1.1 + 1 + k) (smallB (byt u (x.1.1 + 1 + k))), by omega, by go_num, Lib.hid ?_, Lib.hid ?_, Lib.hid ?_, ?_, ?_, ?_⟩
          · rw [encS_bset]
            exact Blk.set (w := wr.drewN nq) hbu.out _ _
          · exact (hlu.out.step _ hks).congr (fun j _ => cov_step _ _ _ _)
          · exact Blk.other (w := wr.drewN nq) hsu.out (by simp) _
          · exact Below.setCell (w := wr.drewN nq) ⟨hBu.os, hBu.tape, hBu.output, hBu.size, hBu.block⟩ (by exact hsz) _
          · exact hKo.trans (KeepsOthers.trans (show KeepsOthers wr (wr.drewN nq) from ⟨Nat.le_refl _, fun _ _ h _ => h⟩) (KeepsOthers.setCell _ _ _))
          · exact keepsBlk_t hKb (keepsBlk_t (show KeepsBlk _ wr (wr.drewN nq) from fun _ _ h => h) (KeepsBlk.set _ _ _ (by simp; omega)))
        case measure => simp [intOf]; omega
      · obtain rfl : k = x.1.2.size := by omega
        have hnew := (hlu.out.congr (q := covered (labPre (pre ++ [x]))) (fun j _ => by rw [labPre_snoc, covered_snoc]))
        have HN := Lib.hid hnew
        clear hnew
        gi_wp2
        exact ⟨hKo, hKb, ⟨⟨u, hbu.out, HN.out⟩, hsu.out⟩, hBu⟩
  case done =>
    rintro D ys W hD hS ⟨⟨⟨t, hb, hlow⟩, hs1⟩, hB⟩ hK
    rw [hS] at hlow
    have hcell : W.cell? ⟨w1.heap.size + 1, 0, none⟩ = some (.slice (some ⟨w1.heap.size, 0, none⟩) s.size s.size) := hs1.cell 0
    have hcv := conv_bytes_string W w1.heap.size s.size s.size t hb hlow.1.symm
    have HL := Lib.hid hlow
    clear hlow hS hb hs1
    gi_wp2
    refine ⟨by simp, .inl ⟨_, _, rfl, run_takeDeferred hK, ?_⟩⟩
    exact ⟨_, results_tmp rfl _ _ _, ⟨t, rfl, HL.out⟩, hB.trans (belowK_b (w := w) (Nat.le_refl _) W D _ _ (by simp at hD; omega) hK rfl rfl)⟩
  case stop =>
    rintro D c pre W _ _ h _
    exact h.elim

theorem endOf_cons (x : Nat × ByteArray) (l : List (Nat × ByteArray)) : endOf (x :: l) = if l = [] then x.1 + 1 + x.2.size else endOf l := by
  cases l with
  | nil => simp [endOf]
  | cons y l => simp [endOf]

theorem labs_cover (s : ByteArray) : ∀ (f p : Nat), ∀ j, p ≤ j → j < (if labs s f p = [] then p else endOf (labs s f p)) → covered (labs s f p) j = true ∨ (byt s j).toNat ≤ 63 := by
  intro f
  induction f with
  | zero => intro p j h1 h2; simp [labs] at h2; omega
  | succ f ih =>
    intro p j h1 h2
    rw [labs] at h2 ⊢
    split at h2
    · rename_i hc
      rw [if_pos hc]
      rw [if_neg (by simp), endOf_cons] at h2
      have e : (s.extract (p + 1) (p + 1 + (byt s p).toNat)).size = (byt s p).toNat := by rw [ByteArray.size_extract]; omega
      simp only [e] at h2
      rcases Nat.lt_or_ge j (p + 1 + (byt s p).toNat) with h3 | h3
      · by_cases hj : j = p
        · subst hj; exact .inr hc.2.2.1
        · left
          simp only [covered, List.any_cons, e, Bool.or_eq_true, Bool.and_eq_true, decide_eq_true_eq]
          exact .inl ⟨by omega, h3⟩
      · have := ih (p + 1 + (byt s p).toNat) j h3 (by split at h2 <;> split <;> simp_all)
        rcases this with h4 | h4
        · left
          simp only [covered, List.any_cons, Bool.or_eq_true] at h4 ⊢
          exact .inr h4
        · exact .inr h4
    · rename_i hc
      rw [if_pos rfl] at h2
      omega

theorem right_cover (s : ByteArray) (h : nameRight s = true) (j : Nat) (hj : j < s.size) : covered (labels s) j = true ∨ (byt s j).toNat ≤ 63 := by
  simp only [nameRight, Bool.and_eq_true, decide_eq_true_eq, beq_iff_eq] at h
  rcases Nat.lt_or_ge j (nameEnd s) with h1 | h1
  · refine labs_cover s (s.size + 1) 0 j (Nat.zero_le _) ?_
    change j < if labels s = [] then 0 else endOf (labels s)
    split
    · rename_i he
      simp [nameEnd, he, endOf] at h1
    · exact h1
  · have : j = nameEnd s := by omega
    rw [this, h.2]
    right; simp

/-- A text with small letters. -/
def lowS (s : ByteArray) : ByteArray := ⟨s.data.map smallB⟩
theorem size_lowS (s : ByteArray) : (lowS s).size = s.size := by
  show (s.data.map smallB).size = s.data.size
  simp
theorem byt_lowS (s : ByteArray) (j : Nat) (hj : j < s.size) : byt (lowS s) j = smallB (byt s j) := by
  have h' : j < s.data.size := hj
  simp only [byt, lowS, List.getD, Array.getElem?_toList, Array.getElem?_map, Array.getElem?_eq_getElem h', Option.map_some, Option.getD_some]
def nameLower (s : ByteArray) : ByteArray := if nameRight s then lowS s else s

theorem low_eq (s t : ByteArray) (h : nameRight s = true) (hl : LowAt s t (covered (labels s))) : t = lowS s := by
  refine bytes_ext (by rw [size_lowS]; exact hl.1) (fun j hj => ?_)
  have hj' : j < s.size := by rw [← hl.1]; exact hj
  rw [hl.2 j hj', byt_lowS s j hj']
  split
  · rfl
  · rename_i hc
    rcases right_cover s h j hj' with h1 | h1
    · exact absurd h1 hc
    · exact (smallB_len _ h1).symm

theorem name_lower (s : ByteArray) (w : World) : Calls Tryz.prog 25 #[.string s] w fun e w' => e = .returned (.string (nameLower s)) ∧ Below w.heap.size w w' := by
  cases hr : nameRight s with
  | true =>
    refine (callsIn_wide.1 (name_lower_in s w hr)).mono ?_
    rintro e w' ⟨⟨t, he, hl⟩, hb⟩
    refine ⟨?_, hb⟩
    rw [he, low_eq s t hr hl, nameLower, if_pos hr]
  | false =>
    have hrc := fun w => name_right s w
    rw [hr] at hrc
    have e : nameLower s = s := by rw [nameLower, if_neg (by rw [hr]; simp)]
    rw [e]
    have HR := Lib.hid hrc
    clear hrc hr e
    go_enter Tryz.func25, Tryz.ntmps25
    go_wp2_with (go_at_call 12; refine (HR.out _).mono ?_; rintro e w1 ⟨rfl, hb⟩)
    go_ret
    exact ⟨rfl, hb⟩
end Go.Proofs.YtmkodendjlmijaaGreatDoor

/- The document's own reader of a name (its chapter 1): its labels, whether it is one, and the name in small letters. -/
namespace Go.Proofs.YtmkodendjlmijaaGreatDoor
open Go.RowKit

/-- A text whose first k bytes have been made small. -/
def smallK (s : ByteArray) (k : Nat) : ByteArray := ⟨((s.data.toList.take k).map smallB ++ s.data.toList.drop k).toArray⟩
theorem smallK_size (s : ByteArray) (k : Nat) : (smallK s k).size = s.size := by
  show (((s.data.toList.take k).map smallB ++ s.data.toList.drop k).toArray).size = s.data.size
  simp; omega
theorem smallK_byt (s : ByteArray) (k j : Nat) (hj : j < s.size) : byt (smallK s k) j = if j < k then smallB (byt s j) else byt s j := by
  have hl : s.data.toList.length = s.size := by simp
  simp only [byt, smallK, List.getD]
  by_cases h : j < k
  · rw [if_pos h, List.getElem?_append_left (by simp; omega)]
    rw [List.getElem?_map, List.getElem?_take, if_pos h, Array.getElem?_toList, Array.getElem?_eq_getElem (show j < s.data.size from hj)]
    rfl
  · rw [if_neg h, List.getElem?_append_right (by simp; omega)]
    have e : j - ((s.data.toList.take k).map smallB).length + min k s.size = j := by simp; omega
    simp only [List.getElem?_drop, List.length_map, List.length_take, hl]
    by_cases hk : k ≤ s.size
    · rw [Nat.min_eq_left hk, show k + (j - k) = j by omega]
    · omega
theorem smallK_zero (s : ByteArray) : smallK s 0 = s := by cases s; simp [smallK]
theorem smallK_all (s : ByteArray) : smallK s s.size = lowS s := bytes_ext (by rw [smallK_size, size_lowS]) fun j hj => by
  rw [smallK_size] at hj
  rw [smallK_byt s _ j hj, if_pos hj, byt_lowS s j hj]
theorem smallK_next (s : ByteArray) (k : Nat) (hk : k < s.size) : smallK s (k + 1) = bset (smallK s k) k (smallB (byt s k)) := bytes_ext (by rw [size_bset, smallK_size, smallK_size]) fun j hj => by
  rw [smallK_size] at hj
  rw [byt_bset _ _ _ _ (by rw [smallK_size]; exact hk), smallK_byt s _ j hj, smallK_byt s _ j hj]
  by_cases e : k = j
  · subst e; rw [if_pos (by omega), if_pos rfl]
  · rw [if_neg e]
    by_cases h : j < k
    · rw [if_pos (by omega), if_pos h]
    · rw [if_neg (by omega), if_neg h]
theorem smallK_skip (s : ByteArray) (k : Nat) (h : smallB (byt s k) = byt s k) : smallK s (k + 1) = smallK s k := bytes_ext (by rw [smallK_size, smallK_size]) fun j hj => by
  rw [smallK_size] at hj
  rw [smallK_byt s _ j hj, smallK_byt s _ j hj]
  by_cases e : k = j
  · subst e; rw [if_pos (by omega), if_neg (by omega), h]
  · by_cases h : j < k
    · rw [if_pos (by omega), if_pos h]
    · rw [if_neg (by omega), if_neg h]

set_option maxRecDepth 10000 in
theorem smallB_big (x : UInt8) (h1 : 65 ≤ x.toNat) (h2 : x.toNat ≤ 90) : (smallB x).toNat = x.toNat + 32 := by
  have key : ∀ n : Fin 256, 65 ≤ n.val → n.val ≤ 90 → (smallB (UInt8.ofNat n.val)).toNat = n.val + 32 := by decide
  have := key ⟨x.toNat, x.toNat_lt⟩ h1 h2
  simpa using this

set_option maxRecDepth 100000 in
theorem ref_small (s : ByteArray) (hz : s.size ≤ 2000) (w : World) : Calls Tryz.prog 56 #[.string s] w fun e w' => e = .returned (.string (lowS s)) ∧ Below w.heap.size w w' := by
  have hcv := conv_string_bytes
  have hst := BytesAt.new w s
  have hbl := below_bytesWorld w 5 s
  have hsz := Lib.bytesWorld_size w 5 s
  have HS := Lib.hid hst; have HB := Lib.hid hbl; have HZ := Lib.hid hsz
  clear hst hbl hsz
  go_enter Tryz.func56, Tryz.ntmps56
  go_wp2
  go_loopw [4] (fun i wr => ∃ k : Nat, k ≤ s.size ∧ i = .int .i64 k ∧ Hid (BytesAt wr w.heap.size (smallK s k)) ∧ Hid (Below w.heap.size w wr ∧ w.heap.size < wr.heap.size)) (fun i _ => s.size - (intOf i).toNat)
  case atStart => exact ⟨0, Nat.zero_le _, rfl, by rw [smallK_zero]; exact HS, Lib.hid ⟨HB.out, by have := HZ.out; omega⟩⟩
  case round =>
    obtain ⟨k, hk, rfl, hA, hB⟩ := hrel
    by_cases hlt : k < s.size
    · have hc := (hA.out k (by rw [smallK_size]; exact hlt)).1
      have hf := (hA.out k (by rw [smallK_size]; exact hlt)).2
      rw [smallK_byt s k k hlt, if_neg (by omega)] at hc
      have hn := smallK_next s k hlt
      have hsk := smallK_skip s k
      have hset := hA.out.set k (smallB (byt s k)) (by rw [smallK_size]; exact hlt)
      rw [← hn] at hset
      have hx := (byt s k).toNat_lt
      by_cases h1 : 65 ≤ (byt s k).toNat
      · by_cases h2 : (byt s k).toNat ≤ 90
        · have hv : ((smallB (byt s k)).toNat : Int) = ((byt s k).toNat : Int) + 32 := by
            have := smallB_big _ h1 h2
            omega
          rw [hv] at hset
          generalize byt s k = x at *
          have q1 : (65 : Int) ≤ (x.toNat : Int) := by omega
          have q2 : (x.toNat : Int) ≤ 90 := by omega
          have HSet := Lib.hid hset
          clear hset hsk hn hv h1 h2 hA
          go_wp2
          go_roundw
          case rel => exact ⟨k + 1, by omega, by go_num, HSet, Lib.hid ⟨hB.out.1.setCell (Nat.le_refl _) _, by simpa using hB.out.2⟩⟩
          case measure => simp [intOf]; omega
        · have hsm : smallB (byt s k) = byt s k := by unfold smallB; rw [if_neg (by intro h; have := h.2; rw [UInt8.le_iff_toNat_le] at this; exact h2 this)]
          have he := hsk hsm
          have hA2 : Hid (BytesAt wr w.heap.size (smallK s (k + 1))) := by rw [he]; exact hA
          generalize byt s k = x at *
          have q1 : (65 : Int) ≤ (x.toNat : Int) := by omega
          have q2 : (90 : Int) < (x.toNat : Int) := by omega
          clear hset hsk hn h1 h2 hA hsm he
          go_wp2
          go_roundw
          case rel => exact ⟨k + 1, by omega, by go_num, hA2, hB⟩
          case measure => simp [intOf]; omega
      · have hsm : smallB (byt s k) = byt s k := by unfold smallB; rw [if_neg (by intro h; have := h.1; rw [UInt8.le_iff_toNat_le] at this; exact h1 this)]
        have he := hsk hsm
        have hA2 : Hid (BytesAt wr w.heap.size (smallK s (k + 1))) := by rw [he]; exact hA
        generalize byt s k = x at *
        have q1 : (x.toNat : Int) < 65 := by omega
        clear hset hsk hn h1 hA hsm he
        go_wp2
        go_roundw
        case rel => exact ⟨k + 1, by omega, by go_num, hA2, hB⟩
        case measure => simp [intOf]; omega
    · obtain rfl : k = s.size := by omega
      rw [smallK_all] at hA
      have hcs := hA.out.string s.size (grownCap w s.size 0 5) (size_lowS s).symm
      have HV := Lib.hid hB.out.1
      clear hA hB
      go_wp2
      go_ret
      exact ⟨rfl, HV.out⟩
end Go.Proofs.YtmkodendjlmijaaGreatDoor

/- The document's own reader of a name (its chapter 1): its labels, and whether it is one. -/
namespace Go.Proofs.YtmkodendjlmijaaGreatDoor
open Go.RowKit

/-- v holds these texts, in a row of the call's own. -/
def OwnS (base : Nat) (v : Value) (l : List ByteArray) (w : World) : Prop := w.ownsRow base 9 1 v l.length (l.map .string)
theorem OwnS.nil (base : Nat) (w : World) : OwnS base (.slice none 0 0) [] w := ⟨rfl, .inl ⟨rfl, rfl⟩⟩
theorem info_str : (Tryz.prog.info? 9).map (fun i => (i.zero, i.size, i.bytes)) = some (some (.string ⟨#[]⟩), 1, 16) := by kernel_rfl
theorem ownS_append {ops : Array Oper} {rest : List Oper} {o : Oper} {a : Act} {Q : Exit → Act → World → Prop} {base : Nat} {v : Value} {l : List ByteArray} {w0 W : World} (HO : OwnS base v l W) (HB : Below base w0 W) (hbase : base ≤ W.heap.size) (x : ByteArray) (hl : l.length + 1 ≤ 1000000)
    (hgd : o.guard = none) (s y : Operand) (ho : o.op = .call { callee := .builtin .append, args := #[s, y], argTypes := #[36, 36] }) (cs : Array Value) (m c : Nat) (hs : a.eval s = v) (hx : a.eval y = .slice (some ⟨W.heap.size, 0, none⟩) m c) (hcs : cs = #[.string x]) (hm : m = 1)
    (h : ∀ v1 w1, OwnS base v1 (l ++ [x]) w1 → Below base w0 w1 → base ≤ w1.heap.size → wpList Tryz.prog ops Q rest (a.put o.dst v1) w1) : wpList Tryz.prog ops Q (o :: rest) a (W.alloc (.cells cs 9)) := by
  subst hcs hm
  refine own_append base _ hgd s y 36 9 (.string ⟨#[]⟩) 16 ho Tryz.underlying36 info_str rfl v (l.map .string) 1 c hs hx (by simp) (by intro u hu; simp at hu; obtain rfl := hu; rfl) (by simpa [OwnS] using HO) HB hbase (by omega) (by simp; omega) ?_
  intro v1 w1 h1 h2 h3
  exact h v1 w1 (by simpa [OwnS] using h1) h2 h3

/-- What the reader has taken so far: the names of its labels, up to place p. -/
structure LabSt (s : ByteArray) (pre : List (Nat × ByteArray)) (f p : Nat) : Prop where
  all : labels s = pre ++ labs s f p
  fin : endOf pre = p
  fuel : s.size < p + f
  len : pre.length ≤ p
theorem LabSt.start (s : ByteArray) : LabSt s [] (s.size + 1) 0 := ⟨rfl, rfl, by omega, Nat.le_refl _⟩
theorem LabSt.end_ {s : ByteArray} {pre : List (Nat × ByteArray)} {f p : Nat} (h : LabSt s pre f p) (hl : labs s f p = []) : labels s = pre ∧ nameEnd s = p := by
  have h1 : labels s = pre := by rw [h.all, hl, List.append_nil]
  exact ⟨h1, by rw [nameEnd, h1]; exact h.fin⟩
theorem labs_stop {s : ByteArray} {f p : Nat} (h : ¬ (p < s.size ∧ byt s p ≠ 0 ∧ (byt s p).toNat ≤ 63 ∧ p + 1 + (byt s p).toNat ≤ s.size)) : labs s f p = [] := by
  cases f with
  | zero => rfl
  | succ f => rw [labs, if_neg h]
theorem LabSt.next {s : ByteArray} {pre : List (Nat × ByteArray)} {f p : Nat} (h : LabSt s pre f p) (hp : p < s.size) (h0 : (byt s p).toNat ≠ 0) (h63 : (byt s p).toNat ≤ 63) (hs : p + 1 + (byt s p).toNat ≤ s.size) :
    ∃ g, LabSt s (pre ++ [(p, s.extract (p + 1) (p + 1 + (byt s p).toNat))]) g (p + 1 + (byt s p).toNat) := by
  obtain ⟨f, rfl⟩ : ∃ g, f = g + 1 := ⟨f - 1, by have := h.fuel; omega⟩
  have hne : byt s p ≠ 0 := fun e => h0 (by rw [e]; rfl)
  refine ⟨f, ?_, ?_, by have := h.fuel; omega, ?_⟩
  · rw [h.all, labs, if_pos ⟨hp, hne, h63, hs⟩]; simp
  · rw [endOf_snoc]
    have e : (s.extract (p + 1) (p + 1 + (byt s p).toNat)).size = (byt s p).toNat := by rw [ByteArray.size_extract]; omega
    show p + 1 + (s.extract (p + 1) (p + 1 + (byt s p).toNat)).size = _
    rw [e]
  · have := h.len; simp; omega
theorem right_at {s : ByteArray} {p : Nat} (h : nameEnd s = p) (h255 : s.size ≤ 255) : nameRight s = (decide (p + 1 = s.size) && (byt s p == 0)) := by
  rw [nameRight, h]
  by_cases e : p + 1 = s.size
  · rw [decide_eq_true e, decide_eq_true (by omega)]; rfl
  · rw [decide_eq_false e]; simp

def LabPost (s : ByteArray) (w : World) (e : Ending) (w' : World) : Prop :=
  Below w.heap.size w w' ∧ ∃ v, e = .returned (.tuple #[v, .bool (nameRight s)]) ∧ (nameRight s = true → OwnS w.heap.size v ((labels s).map (·.2)) w')

theorem labPost_no {s : ByteArray} {w w' : World} {v : Value} (hb : Below w.heap.size w w') (hr : nameRight s = false) : LabPost s w (.returned (.tuple #[v, .bool false])) w' :=
  ⟨hb, v, by rw [hr], fun h => by rw [hr] at h; cases h⟩
theorem labPost_yes {s : ByteArray} {w w' : World} {v : Value} (hb : Below w.heap.size w w') (hr : nameRight s = true) (ho : OwnS w.heap.size v ((labels s).map (·.2)) w') : LabPost s w (.returned (.tuple #[v, .bool true])) w' :=
  ⟨hb, v, by rw [hr], fun _ => ho⟩

set_option maxRecDepth 100000 in
set_option maxHeartbeats 1000000 in
theorem ref_labels (s : ByteArray) (w : World) : Calls Tryz.prog 51 #[.string s] w (LabPost s w) := by
  by_cases h255 : s.size ≤ 255
  · have q0 : decide ((255 : Int) < s.size) = false := decide_eq_false (by omega)
    go_enter Tryz.func51, Tryz.ntmps51
    go_wp2
    go_loopw [4, 5] (fun v i wr => ∃ (p f : Nat) (pre : List (Nat × ByteArray)), i = .int .i64 p ∧ p ≤ s.size ∧ Hid (LabSt s pre f p) ∧ Hid (OwnS w.heap.size v (pre.map (·.2)) wr) ∧ Hid (Below w.heap.size w wr ∧ w.heap.size ≤ wr.heap.size)) (fun _ i _ => s.size - (intOf i).toNat)
    case atStart => exact ⟨0, s.size + 1, [], rfl, Nat.zero_le _, Lib.hid (LabSt.start s), Lib.hid (OwnS.nil _ _), Lib.hid ⟨Below.refl _ _, Nat.le_refl _⟩⟩
    case round =>
      obtain ⟨p, f, pre, rfl, hp, hL, hO, hB⟩ := hrel
      by_cases h1 : p < s.size
      · have hg : s[p] = byt s p := byt_get s p h1
        have hb := (byt s p).toNat_lt
        have hst := fun h => hL.out.end_ (labs_stop h)
        have hnx := hL.out.next h1
        have hll := hL.out.len
        rw [← hg] at hb hst hnx
        have HG := Lib.hid hg
        by_cases h0 : (s[p]).toNat = 0
        · have hz : s[p] = 0 := UInt8.toNat_inj.1 (by rw [h0]; rfl)
          obtain ⟨e1, e2⟩ := hst (fun h => h.2.1 hz)
          have hr := right_at e2 h255
          rw [← hg, hz] at hr
          have E1 := Lib.hid e1; have HR := Lib.hid hr
          have q1 : (((s[p]).toNat : Int) == 0) = true := by simp; omega
          clear hst hnx hr e1 e2 hz h0 hg hL
          by_cases hlast : p + 1 = s.size
          · have q2 : ((p : Int) == (s.size : Int) - 1) = true := by simp; omega
            go_wp2
            go_ret2
            have hr : nameRight s = true := by rw [HR.out, decide_eq_true hlast]; rfl
            exact labPost_yes hB.out.1 hr (by rw [E1.out]; exact hO.out)
          · have q2 : ((p : Int) == (s.size : Int) - 1) = false := by simp; omega
            go_wp2
            go_ret2
            have hr : nameRight s = false := by rw [HR.out, decide_eq_false hlast]; rfl
            exact labPost_no hB.out.1 hr
        · have hz : s[p] ≠ 0 := fun h => h0 (by rw [h]; rfl)
          have q1 : (((s[p]).toNat : Int) == 0) = false := by simp; omega
          by_cases h63 : (s[p]).toNat ≤ 63 ∧ p + 1 + (s[p]).toNat ≤ s.size
          · obtain ⟨g, hN⟩ := hnx h0 h63.1 h63.2
            have q2 : ((s[p]).toNat : Int) ≤ 63 := by omega
            have q3 : (p : Int) + 1 + ((s[p]).toNat : Int) ≤ s.size := by omega
            have hxt : ((p : Int) + 1 + ((s[p]).toNat : Int)).toNat = p + 1 + (s[p]).toNat := by omega
            have hxt2 : ((p : Int) + 1).toNat = p + 1 := by omega
            have HN := Lib.hid hN; have HLL := Lib.hid hll
            have info := info_str
            clear hst hnx hz h0 hg hL h63 hN hll
            go_wp2_with (at_builtin; go_loud (refine ownS_append hO.out hB.out.1 hB.out.2 (s.extract (p + 1) (p + 1 + (s[p]).toNat)) (by have := HLL.out; simp; omega) rfl _ _ rfl _ 1 1 rfl rfl rfl rfl ?_))
            intro v1 w1 a1 a2 a3
            have A1 : Hid (OwnS w.heap.size v1 ((pre ++ [(p, s.extract (p + 1) (p + 1 + (s[p]).toNat))]).map (·.2)) w1) := Lib.hid (by simpa using a1)
            have A2 := Lib.hid (And.intro a2 a3)
            clear a1 a2 a3 hO hB
            go_wp2
            go_roundw
            case rel => exact ⟨p + 1 + (s[p]).toNat, g, _, by go_num, by omega, HN, A1, A2⟩
            case measure => simp [intOf]; omega
          · obtain ⟨e1, e2⟩ := hst (fun h => h63 ⟨h.2.2.1, h.2.2.2⟩)
            have hr := right_at e2 h255
            rw [← hg] at hr
            have hr0 : nameRight s = false := by rw [hr]; simp [hz]
            have HR := Lib.hid hr0
            clear hst hnx hr hr0 e1 e2 hz h0 hg hL
            by_cases h6 : (s[p]).toNat ≤ 63
            · have q2 : ((s[p]).toNat : Int) ≤ 63 := by omega
              have q3 : (s.size : Int) < (p : Int) + 1 + ((s[p]).toNat : Int) := by omega
              clear h63 h6
              go_wp2
              go_ret2
              exact labPost_no hB.out.1 HR.out
            · have q2 : (63 : Int) < ((s[p]).toNat : Int) := by omega
              clear h63 h6
              go_wp2
              go_ret2
              exact labPost_no hB.out.1 HR.out
      · obtain ⟨e1, e2⟩ := hL.out.end_ (labs_stop (fun h => h1 h.1))
        have hr := right_at e2 h255
        have hr0 : nameRight s = false := by rw [hr, decide_eq_false (by omega)]; rfl
        have HR := Lib.hid hr0
        clear hr hr0 e1 e2 hL
        obtain rfl : p = s.size := by omega
        go_wp2
        go_ret2
        exact labPost_no hB.out.1 HR.out
  · have q0 : decide ((255 : Int) < s.size) = true := decide_eq_true (by omega)
    have hr : nameRight s = false := by rw [nameRight, decide_eq_false (by omega)]; rfl
    have HR := Lib.hid hr
    clear hr h255
    go_enter Tryz.func51, Tryz.ntmps51
    go_wp2
    go_ret2
    exact labPost_no (Below.refl _ _) HR.out

theorem ref_right (s : ByteArray) (w : World) : Calls Tryz.prog 27 #[.string s] w fun e w' => e = .returned (.bool (nameRight s)) ∧ Below w.heap.size w w' := by
  have hl := fun w => ref_labels s w
  have HL := Lib.hid hl
  clear hl
  generalize hq : nameRight s = q
  have HQ := Lib.hid hq
  clear hq
  go_enter Tryz.func27, Tryz.ntmps27
  go_wp2_with (go_at_call 51; refine (HL.out _).mono ?_; rintro e w1 ⟨hb, v, rfl, _⟩; rw [HQ.out])
  go_ret
  exact ⟨rfl, hb⟩
end Go.Proofs.YtmkodendjlmijaaGreatDoor

/- digest.blocks: what a text is made up to, block by block, whatever is called with each. -/
namespace Go.Proofs.YtmkodendjlmijaaGreatDoor
open Go.RowKit

/-- A text of these bytes. -/
def bs (l : List UInt8) : ByteArray := ⟨l.toArray⟩
theorem bs_toList (s : ByteArray) : bs s.data.toList = s := by cases s; simp [bs]
theorem bs_size (l : List UInt8) : (bs l).size = l.length := by simp [bs, ByteArray.size]
theorem bs_append (l m : List UInt8) : bs l ++ bs m = bs (l ++ m) := by
  apply ByteArray.ext
  simp [bs, ByteArray.data_append]
theorem byt_bs (l : List UInt8) (k : Nat) : byt (bs l) k = l.getD k 0 := by simp [byt, bs]

/-- The length, in eight bytes, the first m of them. -/
def lenB (N m : Nat) : List UInt8 := (List.range m).map fun i => UInt8.ofNat (N / 2 ^ (56 - 8 * i))
def padT (n : Nat) : List UInt8 := 128 :: List.replicate ((119 - n % 64) % 64) 0
def padL (l : List UInt8) : List UInt8 := l ++ (padT l.length ++ lenB (8 * l.length % 18446744073709551616) 8)
def word4 (a b c d : UInt8) : W32 := (((BitVec.ofNat 32 a.toNat <<< (24 : Nat)) ||| (BitVec.ofNat 32 b.toNat <<< (16 : Nat))) ||| (BitVec.ofNat 32 c.toNat <<< (8 : Nat))) ||| BitVec.ofNat 32 d.toNat
def wordsN (l : List UInt8) (k : Nat) : List W32 := (List.range k).map fun i => word4 (l.getD (4 * i) 0) (l.getD (4 * i + 1) 0) (l.getD (4 * i + 2) 0) (l.getD (4 * i + 3) 0)
/-- Block by block. -/
def foldB {α : Type} (f : α → List W32 → α) : Nat → α → List UInt8 → α
  | 0, st, _ => st
  | n + 1, st, l => foldB f n (f st (wordsN l 16)) (l.drop 64)

theorem padL_len (l : List UInt8) : (padL l).length % 64 = 0 := by
  simp only [padL, padT, lenB, List.length_append, List.length_cons, List.length_replicate, List.length_map, List.length_range]
  omega

theorem lenB_succ (N m : Nat) : lenB N (m + 1) = lenB N m ++ [UInt8.ofNat (N / 2 ^ (56 - 8 * m))] := by simp [lenB, List.range_succ]

theorem repeatL_one (x : UInt8) (c : Nat) : Lib.repeatL [x] c = List.replicate c x := by
  induction c with
  | zero => rfl
  | succ c ih => simp [Lib.repeatL, ih, List.replicate_succ] at *
theorem repeat_byte (x : UInt8) (c : Nat) (w : World) (hc : c ≤ 4294967296) : Calls Tryz.prog 76 #[.string ⟨#[x]⟩, .int .i64 (c : Int)] w fun e w' => e = .returned (.string (bs (List.replicate c x))) ∧ Below w.heap.size w w' := by
  refine (Tryz.strings_Repeat ⟨#[x]⟩ c w (by omega) (by show 1 * c ≤ _; omega)).mono ?_
  rintro e w' ⟨rfl, h⟩
  refine ⟨?_, h⟩
  rw [show (⟨#[x]⟩ : ByteArray).data.toList = [x] from rfl, repeatL_one]
  rfl

theorem conv_byte (W : World) (b : UInt8) : (convert 57 9 (.slice (some ⟨W.heap.size, 0, none⟩) 1 1)).run Tryz.prog (W.alloc (.cells #[.int .u8 (b.toNat : Int)] 5)) = .ok (.string (bs [b])) (W.alloc (.cells #[.int .u8 (b.toNat : Int)] 5)) :=
  conv_bytes_string _ W.heap.size 1 1 (bs [b]) (by
    have := Blk.new W #[.int .u8 (b.toNat : Int)] 5
    simpa [encS, bs] using this) rfl

theorem run_loadCells_blk {P : Program} {w : World} {b : Nat} {cs : Array Value} {t : TypeId} (h : Blk w b cs t) (n : Nat) (hn : cs.size = n) : (loadCellsFrom ⟨b, 0, none⟩ 0 n #[]).run P w = .ok cs w := by
  subst hn
  have := run_loadCells_list (P := P) w ⟨b, 0, none⟩ cs.toList (fun j v hv => by
    have hadd : (⟨b, 0, none⟩ : Addr).add j = ⟨b, j, none⟩ := by unfold Addr.add; split <;> simp_all
    rw [hadd, h.cell]
    simpa using hv)
  simpa [loadCells] using this

theorem bs_get (l : List UInt8) (k : Nat) (h : k < (bs l).size) : (bs l)[k]'h = l.getD k 0 := by
  rw [← byt_bs]
  exact byt_get _ _ h
theorem bs_drop (l : List UInt8) (k : Nat) : (bs l).extract k l.length = bs (l.drop k) := by
  apply ByteArray.ext
  simp only [bs, ByteArray.data_extract, List.extract_toArray, List.extract_eq_take_drop]
  rw [List.take_of_length_le (by simp)]
theorem bs_ne {l : List UInt8} (h : l ≠ []) : ¬ bs l = ⟨#[]⟩ := by
  intro e
  have := congrArg ByteArray.size e
  rw [bs_size] at this
  exact h (List.eq_nil_of_length_eq_zero (by simpa [ByteArray.size] using this))

/-- The first i words of a text, and noughts. -/
def part4 (l : List UInt8) (i : Nat) : List W32 := wordsN l i ++ List.replicate (16 - i) 0
theorem part4_len (l : List UInt8) (i : Nat) (h : i ≤ 16) : (part4 l i).length = 16 := by simp [part4, wordsN]; omega
theorem part4_step (l : List UInt8) (i : Nat) (h : i < 16) : part4 l (i + 1) = (part4 l i).set i (word4 (l.getD (4 * i) 0) (l.getD (4 * i + 1) 0) (l.getD (4 * i + 2) 0) (l.getD (4 * i + 3) 0)) := by
  have e1 : (wordsN l i).length = i := by simp [wordsN]
  rw [part4, part4, show 16 - i = (16 - (i + 1)) + 1 by omega, List.replicate_succ, List.set_append, if_neg (by omega), e1, Nat.sub_self, List.set_cons_zero]
  simp [wordsN, List.range_succ]
theorem part4_all (l : List UInt8) : part4 l 16 = wordsN l 16 := by simp [part4]

theorem or_byte (X : W32) (d : UInt8) : bits .or .u32 (wd X) (d.toNat : Int) = wd (X ||| BitVec.ofNat 32 d.toNat) := by
  rw [← wd_or, wd_lit _ (by have := d.toNat_lt; omega)]
theorem shl_byte (a : UInt8) (n : Nat) : (a.toNat : Int) * 2 ^ n % 4294967296 = wd (BitVec.ofNat 32 a.toNat <<< n) := by
  rw [← wd_shl, wd_lit _ (by have := a.toNat_lt; omega)]

def strLen : Value → Nat
  | .string s => s.size
  | _ => 0
theorem word4_val (a b c d : UInt8) : bits .or .u32 (bits .or .u32 (bits .or .u32 ((a.toNat : Int) % 4294967296 * 16777216 % 4294967296) ((b.toNat : Int) % 4294967296 * 65536 % 4294967296)) ((c.toNat : Int) % 4294967296 * 256 % 4294967296)) ((d.toNat : Int) % 4294967296) = wd (word4 a b c d) := by
  have m (x : UInt8) : (x.toNat : Int) % 4294967296 = (x.toNat : Int) := by have := x.toNat_lt; omega
  have s24 := shl_byte a 24; have s16 := shl_byte b 16; have s8 := shl_byte c 8
  rw [show ((2 : Int) ^ 24) = 16777216 from rfl] at s24
  rw [show ((2 : Int) ^ 16) = 65536 from rfl] at s16
  rw [show ((2 : Int) ^ 8) = 256 from rfl] at s8
  rw [m, m, m, m, s24, s16, s8, wd_or, wd_or, or_byte]
  rfl
theorem foldB_succ {α : Type} (f : α → List W32 → α) (n : Nat) (st : α) (l : List UInt8) : foldB f (n + 1) st l = foldB f n (f st (wordsN l 16)) (l.drop 64) := rfl

set_option maxRecDepth 100000 in
set_option maxHeartbeats 1000000 in
theorem blocks_any {α : Type} (f : α → List W32 → α) (I : α → World → Prop) (g : Nat) (cap : Array Value) (B : Nat) (s : ByteArray) (w : World) (st0 : α) (hs : s.size ≤ 9223372036854775000)
    (hst : ∀ st W W', I st W → Below B W W' → I st W') (hB : B ≤ w.heap.size) (hg : ∀ (args : Array Value) (W : World), (callFunc g args).run Tryz.prog W = .ok (.enter g args) W)
    (hf : ∀ st bl W, I st W → bl.length = 16 → Calls Tryz.prog g (#[.agg (encW bl)] ++ cap) W fun e W' => e = .returned (.tuple #[]) ∧ I (f st bl) W' ∧ B ≤ W'.heap.size) (h0 : I st0 w) :
    Calls Tryz.prog 47 #[.string s, .func (.func g) #[] cap] w fun e W' => e = .returned (.tuple #[]) ∧ I (foldB f ((padL s.data.toList).length / 64) st0 (padL s.data.toList)) W' := by
  obtain ⟨l, rfl⟩ : ∃ l, s = bs l := ⟨_, (bs_toList s).symm⟩
  have hl : (bs l).data.toList = l := by simp [bs]
  rw [hl]
  rw [bs_size] at hs
  have hsz := bs_size l
  have HG := Lib.hid hg; have HF := Lib.hid hf; have HST := Lib.hid hst; have H0 := Lib.hid h0
  clear hf hst h0 hl hg
  obtain ⟨r0, q1, hr0⟩ : ∃ r0 : Nat, (119 - (l.length : Int)) % 64 = (r0 : Int) ∧ r0 = (119 - l.length % 64) % 64 := ⟨(119 - l.length % 64) % 64, by omega, rfl⟩
  have hc : (⟨#[128]⟩ : ByteArray) ++ bs (List.replicate r0 0) = bs (padT l.length) := by
    rw [padT, ← hr0, show (⟨#[128]⟩ : ByteArray) = bs [128] from rfl, bs_append]; rfl
  have q1' : ((119 - l.length % 64 : Nat) : Int) % 64 = (r0 : Int) := by omega
  have hr64 : r0 < 64 := by omega
  have hsr := bs_size (List.replicate r0 0)
  rw [List.length_replicate] at hsr
  have HR0 := Lib.hid hr0
  clear hr0
  go_enter Tryz.func47, Tryz.ntmps47
  go_wp2_with (go_at_call 76; refine (repeat_byte _ _ _ (by omega)).mono ?_; rintro e w1 ⟨rfl, hB1⟩)
  have hN : ∃ N : Nat, IntKind.u64.wrap ((l.length : Int) * 8) = (N : Int) ∧ N = 8 * l.length % 18446744073709551616 ∧ N < 18446744073709551616 := ⟨8 * l.length % 18446744073709551616, by rw [IntKind.wrap_u64]; omega, rfl, by omega⟩
  obtain ⟨N, q2, hNe, hNl⟩ := hN
  have HNE := Lib.hid hNe
  clear hNe
  have hcv := conv_byte
  have HC := Lib.hid hc
  clear hc
  have hBs : Hid (Below w.heap.size w w1 ∧ w.heap.size ≤ w1.heap.size) := Lib.hid ⟨hB1, hB1.size⟩
  clear hB1
  rw [q2]
  go_loopw [5, 6] (fun x z wr => ∃ m : Nat, m ≤ 8 ∧ (∃ zi : Int, zi = 56 - 8 * (m : Int) ∧ z = .int .i64 zi) ∧ x = .string (bs (padT l.length ++ lenB N m)) ∧ Hid (Below w.heap.size w wr ∧ w.heap.size ≤ wr.heap.size)) (fun _ z _ => (intOf z + 8).toNat)
  case atStart => exact ⟨0, Nat.zero_le _, ⟨56, by omega, rfl⟩, by simp [lenB], hBs⟩
  case round =>
    obtain ⟨m, hm, ⟨zi, hz, rfl⟩, rfl, hBw⟩ := hrel
    by_cases hlt : m < 8
    · obtain ⟨sh, rfl⟩ : ∃ sh : Nat, zi = (sh : Int) := ⟨56 - 8 * m, by omega⟩
      have hsh : 56 - 8 * m = sh := by omega
      have hd : decide ((0 : Int) ≤ (sh : Int)) = true := decide_eq_true (by omega)
      have hbyte : (N : Int) / 2 ^ sh % 256 = ((UInt8.ofNat (N / 2 ^ sh)).toNat : Int) := by
        have e : (N : Int) / 2 ^ sh = ((N / 2 ^ sh : Nat) : Int) := by push_cast; rfl
        rw [e]; simp
      have hlen : lenB N (m + 1) = lenB N m ++ [UInt8.ofNat (N / 2 ^ sh)] := by rw [lenB_succ, hsh]
      generalize UInt8.ofNat (N / 2 ^ sh) = bt at hbyte hlen
      have happ : bs (padT l.length ++ lenB N m) ++ bs [bt] = bs (padT l.length ++ lenB N (m + 1)) := by rw [bs_append, hlen, List.append_assoc]
      have hz1 : (bs (padT l.length ++ lenB N m)).size = 1 + r0 + m := by rw [bs_size, List.length_append]; simp [padT, lenB, HR0.out]; omega
      have hz2 : (bs [bt]).size = 1 := bs_size _
      have hmin : min sh 64 = sh := by omega
      have HL := Lib.hid hlen; have HZ := Lib.hid hz; have HSH := Lib.hid hsh
      clear hlen hz hsh
      go_wp2_with fail
      go_roundw
      case rel => exact ⟨m + 1, by omega, ⟨(sh : Int) - 8, by have := HZ.out; omega, by go_num⟩, rfl, Lib.hid ⟨hBw.out.1.alloc hBw.out.2 _, by simp; have := hBw.out.2; omega⟩⟩
      case measure => simp [intOf]; have := HZ.out; omega
    · obtain rfl : m = 8 := by omega
      obtain rfl : zi = -8 := by omega
      have hpad : bs l ++ bs (padT l.length ++ lenB N 8) = bs (padL l) := by rw [bs_append, padL, HNE.out]
      have hz1 : (bs (padT l.length ++ lenB N 8)).size = 1 + r0 + 8 := by rw [bs_size, List.length_append]; simp [padT, lenB, HR0.out]; omega
      have hlen : (padL l).length = l.length + 1 + r0 + 8 := by rw [padL]; simp [padT, lenB, HR0.out]; omega
      have hmod := padL_len l
      have hI : I st0 wr := HST.out st0 w wr H0.out (hBw.out.1.mono hB)
      have hBr : B ≤ wr.heap.size := Nat.le_trans hB hBw.out.2
      have HI := Lib.hid hI; have HP := Lib.hid hmod
      clear hz hcv hI hmod hlt hm H0
      go_wp2_with fail
      generalize hfin : foldB f ((padL l).length / 64) st0 (padL l) = fin
      go_loopw [0] (fun x wr => ∃ (rest : List UInt8) (n : Nat) (st : α), x = .string (bs rest) ∧ rest.length = 64 * n ∧ rest.length ≤ 9223372036854775807 ∧ Hid (I st wr) ∧ Hid (foldB f n st rest = fin) ∧ B ≤ wr.heap.size) (fun x _ => strLen x)
      case atStart => exact ⟨padL l, (padL l).length / 64, st0, rfl, by have := HP.out; omega, by omega, HI, Lib.hid hfin, hBr⟩
      case round =>
        obtain ⟨rest, n, st, rfl, hrn, hrs, hst, hfo, hBr⟩ := hrel
        rename World => Wo
        have hsz := bs_size rest
        by_cases hn : n = 0
        · have he : rest = [] := List.eq_nil_of_length_eq_zero (by omega)
          subst he hn
          have hem : (bs ([] : List UInt8)).toList.isEmpty = true := by rw [ByteArray.toList_eq]; rfl
          go_wp2_with fail
          go_end0
          refine ⟨rfl, ?_⟩
          rw [hfin, ← hfo.out]
          exact hst.out
        · have hem : (bs rest).toList.isEmpty = false := toList_isEmpty (by omega)
          obtain ⟨n, rfl⟩ : ∃ m, n = m + 1 := ⟨n - 1, by omega⟩
          go_wp2_with fail
          have hz : (#[Value.int .u32 0, .int .u32 0, .int .u32 0, .int .u32 0, .int .u32 0, .int .u32 0, .int .u32 0, .int .u32 0, .int .u32 0, .int .u32 0, .int .u32 0, .int .u32 0, .int .u32 0, .int .u32 0, .int .u32 0, .int .u32 0] : Array Value) = encW (part4 rest 0) := rfl
          rw [hz]
          have hb0 : Blk (Wo.alloc (.cells (encW (part4 rest 0)) 87)) Wo.heap.size (encW (part4 rest 0)) 87 := Blk.new _ _ _
          have hB0 : Below Wo.heap.size Wo (Wo.alloc (.cells (encW (part4 rest 0)) 87)) := (Below.refl _ _).alloc (Nat.le_refl _) _
          generalize Wo.alloc (.cells (encW (part4 rest 0)) 87) = W0 at hb0 hB0 ⊢
          have HB0 := Lib.hid hb0; have HBB := Lib.hid hB0
          clear hb0 hB0 hz
          go_loopw [39] (fun i wr => ∃ j : Nat, j ≤ 16 ∧ i = .int .i64 j ∧ Hid (Blk wr Wo.heap.size (encW (part4 rest j)) 87) ∧ Hid (Below Wo.heap.size Wo wr)) (fun i _ => 16 - (intOf i).toNat)
          case atStart => exact ⟨0, Nat.zero_le _, rfl, HB0, HBB⟩
          case round =>
            obtain ⟨j, hj, rfl, hP, hBl⟩ := hrel
            by_cases hlt : j < 16
            · have hd1 : decide ((j : Int) < 16) = true := decide_eq_true (by omega)
              have hj16 : (j : Int) < 16 := by omega
              have hst4 := part4_step rest j hlt
              have g0 : ∀ h, (bs rest)[4 * j]'h = rest.getD (4 * j) 0 := fun h => bs_get _ _ h
              have g1 : ∀ h, (bs rest)[4 * j + 1]'h = rest.getD (4 * j + 1) 0 := fun h => bs_get _ _ h
              have g2 : ∀ h, (bs rest)[4 * j + 2]'h = rest.getD (4 * j + 2) 0 := fun h => bs_get _ _ h
              have g3 : ∀ h, (bs rest)[4 * j + 3]'h = rest.getD (4 * j + 3) 0 := fun h => bs_get _ _ h
              generalize rest.getD (4 * j) 0 = x0 at g0 hst4
              generalize rest.getD (4 * j + 1) 0 = x1 at g1 hst4
              generalize rest.getD (4 * j + 2) 0 = x2 at g2 hst4
              generalize rest.getD (4 * j + 3) 0 = x3 at g3 hst4
              have HST4 := Lib.hid hst4
              clear hst4
              have t0 : (4 * (j : Int)).toNat = 4 * j := by omega
              have t1 : (4 * (j : Int) + 1).toNat = 4 * j + 1 := by omega
              have t2 : (4 * (j : Int) + 2).toNat = 4 * j + 2 := by omega
              have t3 : (4 * (j : Int) + 3).toNat = 4 * j + 3 := by omega
              have p0 : (4 * (j : Int)) < (rest.length : Int) := by omega
              have p1 : (4 * (j : Int) + 1) < (rest.length : Int) := by omega
              have p2 : (4 * (j : Int) + 2) < (rest.length : Int) := by omega
              have p3 : (4 * (j : Int) + 3) < (rest.length : Int) := by omega
              have z0 : (0 : Int) ≤ 4 * (j : Int) := by omega
              have z1 : (0 : Int) ≤ 4 * (j : Int) + 1 := by omega
              have z2 : (0 : Int) ≤ 4 * (j : Int) + 2 := by omega
              have z3 : (0 : Int) ≤ 4 * (j : Int) + 3 := by omega
              have hval := word4_val x0 x1 x2 x3
              generalize word4 x0 x1 x2 x3 = y at hval HST4
              have HVAL := Lib.hid hval
              clear hval
              have cc := hP.out.cell j
              rw [encW_get _ _ (by rw [part4_len _ _ hj]; exact hlt)] at cc
              have fc := hP.out.free j
              have hmix : Tryz.prog.follows .mixedOrders = true := by kernel_rfl
              go_wp2_with fail
              refine wp_draw 30 (C := fun w' => ∃ n, w' = wr.drewN n) hmix (by kernel_rfl) (by kernel_rfl) (by kernel_rfl) (by simp) ⟨1, rfl⟩ ?_
              simp only [List.take_succ_cons, List.take_zero, List.drop_succ_cons, List.drop_zero]
              repeat (go_big_quiet_step (fail))
              refine wpQuiet_nil ?_
              intro _ hw'
              obtain ⟨nq, hw''⟩ := hw'
              subst hw''
              go_wp2_with fail
              rw [HVAL.out]
              go_roundw
              case rel =>
                refine ⟨j + 1, by omega, by go_num, Lib.hid ?_, Lib.hid ?_⟩
                · rw [HST4.out, ← encW_set]
                  exact Blk.set (w := wr.drewN nq) hP.out _ _
                · exact Below.setCell (w := wr.drewN nq) ⟨hBl.out.os, hBl.out.tape, hBl.out.output, hBl.out.size, hBl.out.block⟩ (by exact Nat.le_refl _) _
              case measure => simp [intOf]; omega
            · obtain rfl : j = 16 := by omega
              have hlw : (wordsN rest 16).length = 16 := by simp [wordsN]
              have hPb := hP.out
              rw [part4_all] at hPb
              have hld := loadVar_blk (P := Tryz.prog) (ty := 87) hPb Tryz.underlying87 rfl (by rw [encW_size, hlw]; kernel_rfl)
              have HLD := Lib.hid hld
              clear hld
              have hI : I st wr := HST.out st Wo wr hst.out (hBl.out.mono hBr)
              have hcall := HF.out st (wordsN rest 16) wr hI hlw
              have HCALL := Lib.hid hcall
              have hdr := bs_drop rest 64
              have hfs := foldB_succ f n st rest
              have HFS := Lib.hid hfs
              have hrl : rest.length ≥ 64 := by omega
              clear hcall hI hPb hfs
              go_wp2_with (refine wpList_load rfl 87 _ rfl ⟨Wo.heap.size, 0, none⟩ (.agg (encW (wordsN rest 16))) rfl HLD.out ?_)
              rw [HG.out, Oper.upon_enter]
              refine HCALL.out.mono ?_
              rintro e W3 ⟨rfl, hI3, hB3⟩
              have HI3 := Lib.hid hI3
              clear hI3 hdr
              simp only []
              go_wp2_with fail
              have hdr2 : (bs rest).extract 64 (64 * (n + 1)) = bs (rest.drop 64) := by rw [← hrn]; exact bs_drop rest 64
              go_roundw
              case rel => exact ⟨rest.drop 64, n, f st (wordsN rest 16), by rw [hdr2], by rw [List.length_drop]; omega, by rw [List.length_drop]; omega, HI3, Lib.hid (HFS.out.symm.trans hfo.out), hB3⟩
              case measure =>
                rw [hdr2]
                simp only [strLen, bs_size, List.length_drop]
                omega
end Go.Proofs.YtmkodendjlmijaaGreatDoor

/- The document's own small letters of a name (its chapter 1): it is the program's. -/
namespace Go.Proofs.YtmkodendjlmijaaGreatDoor
open Go.RowKit

theorem OwnS.cell {base : Nat} {v : Value} {l : List ByteArray} {w : World} (h : OwnS base v l w) (hl : l ≠ []) :
    ∃ g c, v = .slice (some ⟨g, 0, none⟩) l.length c ∧ base ≤ g ∧ g < w.heap.size ∧ ∀ i (hi : i < l.length), w.cell? ⟨g, i, none⟩ = some (.string l[i]) := by
  rcases h.2 with ⟨rfl, h0⟩ | ⟨g, cap, cur, rfl, hb, hg, hn, _, hsz, htk⟩
  · exact absurd (List.eq_nil_of_length_eq_zero (by simpa using h0)) hl
  · refine ⟨g, cap, rfl, hb, lt_of_block hg, fun i hi => ?_⟩
    rw [cell_of_row w g i cur 9 (0, 0) hg]
    have e : cur.toList[i]? = (l.map Value.string)[i]? := by
      rw [← htk, List.getElem?_take, if_pos (by simpa using hi)]
    rw [← Array.getElem?_toList, e]
    simp [hi]
theorem OwnS.len {base : Nat} {v : Value} {l : List ByteArray} {w : World} (h : OwnS base v l w) : ∃ A c, v = .slice A l.length c := by
  rcases h.2 with ⟨rfl, h0⟩ | ⟨g, cap, cur, rfl, hb, hg, hn, _, hsz, htk⟩
  · exact ⟨none, 0, by rw [show l.length = 0 by simpa using h0]⟩
  · exact ⟨_, _, rfl⟩

def joinL (l : List ByteArray) : List UInt8 := l.flatMap fun x => UInt8.ofNat x.size :: x.data.toList
def joinS (l : List ByteArray) : List UInt8 := l.flatMap fun x => UInt8.ofNat x.size :: x.data.toList.map smallB
def lowT (l : List ByteArray) (k : Nat) : ByteArray := bs (joinS (l.take k))
theorem lowT_next (l : List ByteArray) (k : Nat) (h : k < l.length) : lowT l (k + 1) = (lowT l k ++ bs [UInt8.ofNat l[k].size]) ++ lowS l[k] := by
  rw [lowT, lowT, List.take_succ_eq_append_getElem h]
  simp only [joinS, List.flatMap_append, List.flatMap_cons, List.flatMap_nil, List.append_nil]
  have e : lowS l[k] = bs (l[k].data.toList.map smallB) := by
    show (⟨l[k].data.map smallB⟩ : ByteArray) = ⟨(l[k].data.toList.map smallB).toArray⟩
    congr 1
    apply Array.toList_inj.1
    rw [Array.toList_map]
  rw [e, bs_append, bs_append, List.append_assoc]
  rfl
theorem smallB_little (n : Nat) (h : n ≤ 63) : smallB (UInt8.ofNat n) = UInt8.ofNat n := by
  unfold smallB
  rw [if_neg]
  intro h1
  have := h1.1
  rw [UInt8.le_iff_toNat_le] at this
  have e : (UInt8.ofNat n).toNat = n := by simp; omega
  rw [e] at this
  have : (65 : UInt8).toNat = 65 := rfl
  omega
theorem joinS_eq (l : List ByteArray) (h : ∀ x ∈ l, x.size ≤ 63) : joinS l = (joinL l).map smallB := by
  induction l with
  | nil => rfl
  | cons x l ih =>
    have hx := smallB_little x.size (h x (by simp))
    simp only [joinS, joinL, List.flatMap_cons, List.map_append, List.map_cons, hx] at *
    rw [ih (fun y hy => h y (by simp [hy]))]
theorem labs_join (s : ByteArray) : ∀ (f p : Nat), p ≤ s.size → ∃ e, p ≤ e ∧ e ≤ s.size ∧ (labs s f p = [] → e = p) ∧ (labs s f p ≠ [] → e = endOf (labs s f p)) ∧ joinL ((labs s f p).map (·.2)) = (s.data.toList.drop p).take (e - p) := by
  intro f
  induction f with
  | zero => intro p hp; exact ⟨p, Nat.le_refl _, hp, fun _ => rfl, fun h => absurd rfl h, by simp [labs, joinL]⟩
  | succ f ih =>
    intro p hp
    by_cases hc : p < s.size ∧ byt s p ≠ 0 ∧ (byt s p).toNat ≤ 63 ∧ p + 1 + (byt s p).toNat ≤ s.size
    · have e1 : labs s (f + 1) p = (p, s.extract (p + 1) (p + 1 + (byt s p).toNat)) :: labs s f (p + 1 + (byt s p).toNat) := by rw [labs, if_pos hc]
      obtain ⟨e, h1, h2, h3, h4, h5⟩ := ih (p + 1 + (byt s p).toNat) hc.2.2.2
      have hsz : (s.extract (p + 1) (p + 1 + (byt s p).toNat)).size = (byt s p).toNat := by rw [ByteArray.size_extract]; omega
      refine ⟨e, by omega, h2, (by rw [e1]; intro h; cases h), ?_, ?_⟩
      · intro _
        rw [e1]
        by_cases hr : labs s f (p + 1 + (byt s p).toNat) = []
        · rw [hr, h3 hr]
          show _ = p + 1 + (s.extract (p + 1) (p + 1 + (byt s p).toNat)).size
          rw [hsz]
        · rw [h4 hr]
          unfold endOf
          obtain ⟨y, ys, hy⟩ := List.exists_cons_of_ne_nil hr
          rw [hy, List.getLast?_cons_cons]
      · rw [e1]
        have hn : (s.extract (p + 1) (p + 1 + (byt s p).toNat)).data.toList = (s.data.toList.drop (p + 1)).take (byt s p).toNat := by
          rw [ByteArray.data_extract, Array.toList_extract, List.extract_eq_take_drop]
          congr 1; omega
        have h6 : joinL (((p, s.extract (p + 1) (p + 1 + (byt s p).toNat)) :: labs s f (p + 1 + (byt s p).toNat)).map (·.2)) = (UInt8.ofNat (byt s p).toNat :: (s.data.toList.drop (p + 1)).take (byt s p).toNat) ++ joinL ((labs s f (p + 1 + (byt s p).toNat)).map (·.2)) := by
          simp only [joinL, List.map_cons, List.flatMap_cons, hsz, hn]
        rw [h6, h5]
        have hd : s.data.toList.drop p = byt s p :: s.data.toList.drop (p + 1) := by
          rw [List.drop_eq_getElem_cons (by simpa using hc.1)]
          congr 1
          simp [byt, List.getD, List.getElem?_eq_getElem (show p < s.data.toList.length by simpa using hc.1)]
        rw [hd, show e - p = (e - (p + 1 + (byt s p).toNat)) + (byt s p).toNat + 1 by omega, List.take_succ_cons]
        have hof : UInt8.ofNat (byt s p).toNat = byt s p := by simp
        rw [hof, List.cons_append]
        congr 1
        rw [Nat.add_comm (e - _) (byt s p).toNat, List.take_add, List.drop_drop]
    · have e1 : labs s (f + 1) p = [] := labs_stop hc
      rw [e1]
      exact ⟨p, Nat.le_refl _, hp, fun _ => rfl, fun h => absurd rfl h, by simp [joinL]⟩
theorem joinS_len (l : List ByteArray) : l.length ≤ (joinS l).length := by
  induction l with
  | nil => simp
  | cons x l ih => simp only [joinS, List.flatMap_cons, List.length_append, List.length_cons, List.length_map] at *; omega
theorem lowT_size (l : List ByteArray) (h : ∀ x ∈ l, x.size ≤ 63) (k : Nat) (hk : k ≤ l.length) : (lowT l k).size ≤ 64 * k := by
  rw [lowT, bs_size]
  induction k with
  | zero => simp [joinS]
  | succ k ih =>
    have h1 := ih (by omega)
    have h2 := h _ (List.getElem_mem (show k < l.length by omega))
    rw [List.take_succ_eq_append_getElem (by omega)]
    simp only [joinS, List.flatMap_append, List.flatMap_cons, List.flatMap_nil, List.append_nil, List.length_append, List.length_cons, List.length_map] at *
    have e : (l[k].data.toList).length = l[k].size := by simp
    omega
theorem lowT_room {s : ByteArray} {ls : List ByteArray} (h : lowT ls ls.length ++ ⟨#[0]⟩ = lowS s) (hs : s.size ≤ 255) : ls.length ≤ 255 := by
  have h1 := congrArg ByteArray.size h
  rw [ByteArray.size_append, size_lowS, lowT, bs_size, List.take_length] at h1
  have := joinS_len ls
  omega
theorem labels_len (s : ByteArray) : ∀ x ∈ (labels s).map (·.2), x.size ≤ 63 := by
  intro x hx
  obtain ⟨y, hy, rfl⟩ := List.mem_map.1 hx
  exact (labels_le s y hy).2.2.2.1
theorem lowT_all {s : ByteArray} (h : nameRight s = true) : lowT ((labels s).map (·.2)) ((labels s).map (·.2)).length ++ ⟨#[0]⟩ = lowS s := by
  obtain ⟨e, h1, h2, h3, h4, h5⟩ := labs_join s (s.size + 1) 0 (Nat.zero_le _)
  have he : e = nameEnd s := by
    show e = endOf (labels s)
    by_cases hn : labels s = []
    · rw [h3 hn, hn]; rfl
    · exact h4 hn
  have hj : joinL ((labels s).map (·.2)) = s.data.toList.take (nameEnd s) := by
    have := h5
    rw [he, Nat.sub_zero, List.drop_zero] at this
    exact this
  simp only [nameRight, Bool.and_eq_true, decide_eq_true_eq, beq_iff_eq] at h
  obtain ⟨⟨_, hz⟩, h0⟩ := h
  have hs : s.data.toList = s.data.toList.take (nameEnd s) ++ [0] := by
    have hl : nameEnd s < s.data.toList.length := by simp; omega
    have h7 := List.take_succ_eq_append_getElem hl
    rw [List.take_of_length_le (by simp; omega)] at h7
    have h8 : s.data.toList[nameEnd s] = 0 := by simpa [byt, List.getD, List.getElem?_eq_getElem hl] using h0
    rw [h8] at h7
    exact h7
  rw [lowT, List.take_length, joinS_eq _ (labels_len s), hj]
  have e2 : (⟨#[0]⟩ : ByteArray) = bs [0] := rfl
  rw [e2, bs_append]
  show bs _ = ⟨s.data.map smallB⟩
  have e3 : s.data.map smallB = (s.data.toList.map smallB).toArray := by
    apply Array.toList_inj.1
    rw [Array.toList_map]
  rw [e3]
  show bs _ = bs _
  congr 1
  have e4 := congrArg (List.map smallB) hs
  rw [e4, List.map_append]
  rfl

theorem held_alloc {W : World} {g k : Nat} {v : Value} {o : Obj} (h : W.cell? ⟨g, k, none⟩ = some v) (hg : g < W.heap.size) : (W.alloc o).drew.cell? ⟨g, k, none⟩ = some v := by
  show (W.alloc o).cell? _ = _
  rw [World.cell?_alloc_old _ _ _ (Nat.ne_of_lt hg)]; exact h
theorem held_lt {W : World} {g : Nat} {o : Obj} (hg : g < W.heap.size) : g < (W.alloc o).drew.heap.size := by simp; omega
theorem held_call {W W' : World} {g k : Nat} {v : Value} (h : W.cell? ⟨g, k, none⟩ = some v) (hg : g < W.heap.size) (hb : Below W.heap.size W W') : W'.cell? ⟨g, k, none⟩ = some v ∧ g < W'.heap.size :=
  ⟨by rw [hb.cell (p := ⟨g, k, none⟩) hg]; exact h, Nat.lt_of_lt_of_le hg hb.size⟩
theorem held_new {W W' : World} {v : Value} {t : TypeId} (hb : Below (W.alloc (.cells #[v] t)).drew.heap.size (W.alloc (.cells #[v] t)).drew W') : W'.cell? ⟨W.heap.size, 0, none⟩ = some v := by
  have h := (Blk.new W #[v] t).drew.below hb (by simp)
  exact h.cell 0
theorem held_end1 {W0 W W' : World} {o : Obj} (h : Below W0.heap.size W0 W) (hb : Below (W.alloc o).drew.heap.size (W.alloc o).drew W') : Below W0.heap.size W0 W' := by
  have h1 := (h.alloc h.size o).drew
  exact h1.trans (hb.mono h1.size)
theorem held_end2 {W0 W W' : World} (h : Below W0.heap.size W0 W) (hb : Below W.drew.heap.size W.drew W') (o : Obj) : Below W0.heap.size W0 (W'.alloc o) := by
  have h1 := h.drew.trans (hb.mono h.drew.size)
  exact h1.alloc h1.size o
theorem conv_one (x : ByteArray) (W : World) (g : Nat) (hc : W.cell? ⟨g, 0, none⟩ = some (.int .u8 (x.size : Int))) :
    (convert 57 9 (.slice (some ⟨g, 0, none⟩) 1 1)).run Tryz.prog W = .ok (.string (bs [UInt8.ofNat x.size])) W := by
  have := run_convert_bytes_arg (P := Tryz.prog) W 57 5 Tryz.underlying57 Tryz.underlying5 g 0 1 1 [(x.size : Int)] (by simp) (by
    intro i hi
    obtain rfl : i = 0 := by omega
    rw [Nat.zero_add, hc]; rfl) 9 Tryz.underlying9
  rw [this]
  rfl

set_option maxRecDepth 100000 in
set_option maxHeartbeats 1000000 in
theorem ref_lower (s : ByteArray) (w : World) : Calls Tryz.prog 29 #[.string s] w fun e w' => e = .returned (.string (nameLower s)) ∧ Below w.heap.size w w' := by
  have hl := fun w => ref_labels s w
  have HL := Lib.hid hl
  clear hl
  cases hq : nameRight s
  · have hn : nameLower s = s := by rw [nameLower, hq]; rfl
    rw [hn]
    have HQ := Lib.hid hq
    clear hq hn
    go_enter Tryz.func29, Tryz.ntmps29
    go_wp2_with (go_at_call 51; refine (HL.out _).mono ?_; rintro e w1 ⟨hb, v, rfl, _⟩; rw [HQ.out])
    go_ret
    exact ⟨rfl, hb⟩
  · have hn : nameLower s = lowS s := by rw [nameLower, hq]; rfl
    rw [hn]
    have HQ := Lib.hid hq
    clear hq hn
    go_enter Tryz.func29, Tryz.ntmps29
    go_wp2_with (go_at_call 51; refine (HL.out _).mono ?_; rintro e w1 ⟨hb, v, rfl, hO⟩; rw [HQ.out]; replace hO := Lib.hid (hO HQ.out); replace hb := Lib.hid hb)
    have hall := lowT_all HQ.out
    have hlen := labels_len s
    generalize (labels s).map (·.2) = ls at hO hall hlen
    have hz255 : s.size ≤ 255 := by have := HQ.out; simp only [nameRight, Bool.and_eq_true, decide_eq_true_eq] at this; exact this.1.1.2
    have HZ := Lib.hid hz255
    have HA := Lib.hid hall; have LL := Lib.hid hlen
    clear hall hlen hz255
    obtain ⟨A, c, rfl⟩ := hO.out.len
    go_loopw [5, 6] (fun v i wr => ∃ (k : Nat) (t : ByteArray), i = .int .i64 k ∧ v = .string t ∧ k ≤ ls.length ∧ Hid (t = lowT ls k) ∧ Hid (Below w1.heap.size w1 wr)) (fun _ i _ => ls.length - (intOf i).toNat)
    case atStart => exact ⟨0, ⟨#[]⟩, rfl, rfl, Nat.zero_le _, Lib.hid rfl, Lib.hid (Below.refl _ _)⟩
    case round =>
      obtain ⟨k, t, rfl, rfl, hk, ht, hB⟩ := hrel
      by_cases hlt : k < ls.length
      · obtain ⟨g, c', e, hb0, hgl, hcell⟩ := hO.out.cell (by intro h; rw [h] at hlt; simp at hlt)
        cases e
        have c0 : wr.cell? ⟨g, k, none⟩ = some (.string ls[k]) := by rw [hB.out.cell (p := ⟨g, k, none⟩) hgl]; exact hcell k hlt
        have hxs : ls[k].size ≤ 63 := LL.out _ (List.getElem_mem hlt)
        have hnx := lowT_next ls k hlt
        generalize ls[k] = x at c0 hxs hnx
        have hgr : g < wr.heap.size := Nat.lt_of_lt_of_le hgl hB.out.size
        rw [← ht.out] at hnx
        have HN := Lib.hid hnx; have HS := Lib.hid hxs
        have hts := lowT_size ls LL.out k (by omega)
        rw [← ht.out] at hts
        have hrm := lowT_room HA.out HZ.out
        have hn1 : ¬ 9223372036854775807 < t.size + (bs [UInt8.ofNat x.size]).size := by rw [bs_size]; simp; omega
        have hn2 : ¬ 9223372036854775807 < t.size + (bs [UInt8.ofNat x.size]).size + (lowS x).size := by rw [bs_size, size_lowS]; simp; omega
        have hsm := fun w => ref_small x (by omega) w
        have HSM := Lib.hid hsm
        have hw8 : IntKind.u8.wrap (x.size : Int) = (x.size : Int) := IntWalk.u8_in _ (by omega)
        have hcb := conv_one x
        have hc1 := fun W : World => hcb (W.alloc (.cells #[.int .u8 (x.size : Int)] 5)) W.heap.size (Blk.cell (Blk.new W _ _) 0)
        have hc2 := fun W : World => hcb (W.alloc (.cells #[.int .u8 (x.size : Int)] 5)).drew W.heap.size (Blk.cell (Blk.new W _ _).drew 0)
        clear hnx hcell hsm
        go_wp2
        go_region_with (first
          | (go_at_call 56; refine (HSM.out _).mono ?_; rintro e W' ⟨rfl, hb'⟩; first
            | (have hS := held_call (W := wr.drew) c0 hgr hb')
            | (have hS := held_call (W := (wr.alloc (.cells #[.int .u8 (x.size : Int)] 5)).drew) (held_alloc c0 hgr) (held_lt hgr) hb'
               have hT := held_new hb')))
        all_goals
          have HN2 := Lib.hid HN.out.symm
          first
            | (have bl := Lib.hid (held_end1 hB.out hb'))
            | (have bl := Lib.hid (held_end2 hB.out hb' (.cells #[.int .u8 (x.size : Int)] 5)))
          clear hcb hc1 hc2 hb' hS
          go_wp2
          go_roundw
          case rel => exact ⟨k + 1, _, by go_num, rfl, by omega, HN2, bl⟩
          case measure => simp [intOf]; omega
      · obtain rfl : k = ls.length := by omega
        have hsz : t.size ≤ 16320 := by
          have h1 := lowT_size ls LL.out ls.length (by omega)
          have h2 := lowT_room HA.out HZ.out
          rw [← ht.out] at h1
          omega
        have hn3 : ¬ 9223372036854775807 < t.size + 1 := by omega
        have hn4 : ¬ 9223372036854775807 < t.size + ByteArray.size ⟨#[0]⟩ := hn3
        go_wp2
        go_ret
        refine ⟨?_, hb.out.trans (hB.out.mono hb.out.size)⟩
        rw [ht.out, HA.out]
        rfl
end Go.Proofs.YtmkodendjlmijaaGreatDoor

/- data.texts: what TXT has: texts, each behind its length. -/
namespace Go.Proofs.YtmkodendjlmijaaGreatDoor
open Go.RowKit

def textsG : Nat → List ByteArray → ByteArray → Option (List ByteArray)
  | 0, acc, s => if s.size = 0 then some acc else none
  | f + 1, acc, s => if s.size = 0 then some acc else
    match numT 1 s with
    | none => none
    | some (n, s1) => match bytesT n.toNat s1 with
      | none => none
      | some (x, s2) => textsG f (acc ++ [x]) s2
def textsT (s : ByteArray) : Option (List ByteArray × ByteArray) := if s.size = 0 then none else (textsG s.size [] s).map fun l => (l, ⟨#[]⟩)
def textsV (lo : Nat) (l : List ByteArray) (w : World) (v : Value) : Prop := OwnS lo v l w
theorem OwnS.block {base : Nat} {v : Value} {l : List ByteArray} {w w' : World} (h : OwnS base v l w) (hb : ∀ k, base ≤ k → k < w.heap.size → w'.heap[k]? = w.heap[k]?) : OwnS base v l w' := by
  refine ⟨h.1, ?_⟩
  rcases h.2 with h1 | ⟨g, cap, cur, h1, h2, h3, h4⟩
  · exact .inl h1
  · exact .inr ⟨g, cap, cur, h1, h2, by rw [hb g h2 (lt_of_block h3)]; exact h3, h4⟩
theorem OwnS.lift {lo lo' : Nat} {v : Value} {l : List ByteArray} {w : World} (h : OwnS lo v l w) (hl : lo' ≤ lo) : OwnS lo' v l w := by
  refine ⟨h.1, ?_⟩
  rcases h.2 with h1 | ⟨g, cap, cur, h1, h2, h3, h4⟩
  · exact .inl h1
  · exact .inr ⟨g, cap, cur, h1, Nat.le_trans hl h2, h3, h4⟩
theorem OwnS.below {lo : Nat} {v : Value} {l : List ByteArray} {w w' : World} (h : OwnS lo v l w) (hb : Below w.heap.size w w') : OwnS lo v l w' :=
  h.block fun k _ hk => hb.block k hk
theorem OwnS.only {lo b : Nat} {v : Value} {l : List ByteArray} {w w' : World} (h : OwnS lo v l w) (hb : Only b w w') (hl : b < lo) : OwnS lo v l w' :=
  h.block fun k hk1 hk => hb.block k hk (by omega)

set_option maxRecDepth 100000 in
set_option maxHeartbeats 1000000 in
theorem texts1_t (b : Nat) (s0 : ByteArray) (w : World) (hS : Src b s0 w) (hz : s0.size ≤ 2000) :
    Calls Tryz.prog 195 #[.pointer (some ⟨b, 0, none⟩)] w (Took b w (textsT s0) (textsV w.heap.size)) := by
  have HL := Lib.hid hS.lt
  have hc : w.cell? ⟨b, 0, none⟩ = some (.string s0) := hS.cell 0
  have HS := Lib.hid hS
  clear hS
  by_cases h0 : s0.size = 0
  · obtain rfl := size_empty h0
    clear h0
    go_enter Tryz.func195, Tryz.ntmps195
    go_wp2_with (go_at_call 93; refine (must_no _ _).mono ?_; rintro e w' ⟨rfl, rfl⟩)
    refine ⟨rfl, ?_⟩
    exact ⟨rfl, Only.refl _ _⟩
  have he := toList_isEmpty h0
  have hdone : ∀ l, textsG s0.size [] s0 = l → textsT s0 = l.map fun l => (l, ⟨#[]⟩) := fun l h => by rw [textsT, if_neg h0, h]
  have HD := Lib.hid hdone
  clear hdone h0
  go_enter Tryz.func195, Tryz.ntmps195
  go_wp2_with (go_at_call 93; refine (must_ok _ _).mono ?_; rintro e w' ⟨rfl, rfl⟩)
  clear hc he
  go_loopw [2] (fun v wr => ∃ (acc : List ByteArray) (s : ByteArray) (f : Nat), Hid (s.size ≤ f ∧ acc.length + s.size ≤ 2000 ∧ textsG f acc s = textsG s0.size [] s0) ∧ Hid (OwnS w.heap.size v acc wr ∧ Src b s wr ∧ Only b w wr)) (fun _ wr => match wr.cell? ⟨b, 0, none⟩ with | some (.string s) => s.size | _ => 0)
  case atStart => exact ⟨[], s0, s0.size, Lib.hid ⟨Nat.le_refl _, by simp; omega, rfl⟩, Lib.hid ⟨OwnS.nil _ _, HS.out, Only.refl _ _⟩⟩
  case round =>
    obtain ⟨acc, s, f, HG, HR⟩ := hrel
    have hc : wr.cell? ⟨b, 0, none⟩ = some (.string s) := HR.out.2.1.cell 0
    by_cases h0 : s.size = 0
    · obtain rfl := size_empty h0
      have hT : textsT s0 = some (acc, ⟨#[]⟩) := by
        have hg := HG.out.2.2
        have : textsG f acc ⟨#[]⟩ = some acc := by cases f <;> rfl
        rw [this] at hg
        exact HD.out _ hg.symm
      obtain ⟨A, c, rfl⟩ := OwnS.len HR.out.1
      have HT := Lib.hid hT
      clear hT h0 HG HS HD
      repeat (first | (fail) | go_values | go_skip | go_guarded | go_step | go_upon | go_back)
      go_ret
      rw [HT.out]
      exact ⟨_, rfl, HR.out.1, HR.out.2.1, HR.out.2.2⟩
    · obtain ⟨g, rfl⟩ : ∃ g, f = g + 1 := ⟨f - 1, by have := HG.out.1; omega⟩
      have he := toList_isEmpty h0
      have hst := HG.out.2.2
      rw [textsG, if_neg h0] at hst
      have HST := Lib.hid hst
      obtain ⟨A, c, rfl⟩ := OwnS.len HR.out.1
      clear h0 hst
      repeat (first | (fail) | go_values | go_skip | go_guarded | go_step | go_upon | go_back)
      refine (number_t b s 1 1 rfl _ HR.out.2.1 (by omega)).mono ?_
      rintro e W1 h
      rcases h1 : numT 1 s with _ | ⟨n, s1⟩
      · rw [h1] at h
        obtain ⟨rfl, hO⟩ := h
        have hT : textsT s0 = none := by
          have hg := HST.out
          rw [h1] at hg
          exact HD.out _ hg.symm
        refine ⟨rfl, ?_⟩
        rw [hT]
        exact ⟨rfl, HR.out.2.2.trans hO⟩
      rw [h1] at h
      obtain ⟨v1, rfl, hv, hS1, hO1⟩ := h
      obtain rfl : v1 = .int .i64 n := hv
      have E1 := Lib.hid h1
      have HR1 := Lib.hid (And.intro (OwnS.only HR.out.1 hO1 HL.out) (And.intro hS1 (HR.out.2.2.trans hO1)))
      clear h1 hS1 hO1 hc he
      simp only []
      repeat (first | (fail) | go_values | go_skip | go_guarded | go_step | go_upon | go_back)
      refine (bytes_t b s1 n.toNat n (by have := (num1 _ _ _ E1.out).1; omega) _ HR1.out.2.1).mono ?_
      rintro e W2 h
      rcases h2 : bytesT n.toNat s1 with _ | ⟨x, s2⟩
      · rw [h2] at h
        obtain ⟨rfl, hO⟩ := h
        have hT : textsT s0 = none := by
          have hg := HST.out
          simp only [E1.out, h2] at hg
          exact HD.out _ hg.symm
        refine ⟨rfl, ?_⟩
        rw [hT]
        exact ⟨rfl, HR1.out.2.2.trans hO⟩
      rw [h2] at h
      obtain ⟨v2, rfl, hv, hS2, hO2⟩ := h
      obtain rfl : v2 = .string x := hv
      have hst : textsG g (acc ++ [x]) s2 = textsG s0.size [] s0 := by
        have hg := HST.out
        simp only [E1.out, h2] at hg
        exact hg
      have hsz : s2.size + 1 ≤ s.size := by
        have h1 := (num1 _ _ _ E1.out).2.2
        have := bytesT_le h2
        omega
      have HR2 := Lib.hid (And.intro (OwnS.only HR1.out.1 hO2 HL.out) (And.intro hS2 (HR1.out.2.2.trans hO2)))
      have HZ := Lib.hid (show s2.size + 1 ≤ s.size ∧ s2.size ≤ g ∧ (acc ++ [x]).length + s2.size ≤ 2000 ∧ textsG g (acc ++ [x]) s2 = textsG s0.size [] s0 from ⟨hsz, by have := HG.out.1; omega, by have := HG.out.2.1; simp; omega, hst⟩)
      have hcs := Lib.hid HR.out.2.1
      clear h2 hS2 hO2 hst hsz HR1
      simp only []
      have info := info_str
      go_wp2_with (at_builtin; go_loud (refine ownS_append HR2.out.1 (Below.refl _ _) HR2.out.2.2.size x (by have := HZ.out.2.2.1; simp at this; omega) rfl _ _ rfl _ 1 1 rfl rfl rfl rfl ?_))
      intro v3 w3 a1 a2 a3
      have HA := Lib.hid (show OwnS w.heap.size v3 (acc ++ [x]) w3 ∧ Src b s2 w3 ∧ Only b w w3 from ⟨a1, HR2.out.2.1.below a2 HL.out, HR2.out.2.2.base (Nat.le_refl _) a2⟩)
      clear a1 a2 a3 HR2 info
      repeat (first | (fail) | go_values | go_skip | go_guarded | go_step | go_upon | go_back)
      go_roundw
      case rel => exact ⟨acc ++ [x], s2, g, Lib.hid HZ.out.2, HA⟩
      case measure =>
        have e1 : wr.cell? ⟨b, 0, none⟩ = some (.string s) := hcs.out.cell 0
        have e2 : w3.cell? ⟨b, 0, none⟩ = some (.string s2) := HA.out.2.1.cell 0
        rw [e1, e2]
        exact HZ.out.1
theorem loadVar_slice {P : Program} {w : World} {g : Nat} {t ty e : TypeId} {v : Value} (hg : Blk w g #[v] t) (hu : P.underlying ty = some (.slice e)) : (loadVar ty ⟨g, 0, none⟩).run P w = .ok v w := by
  have hagg : (isAgg ty).run P w = .ok false w := by
    unfold isAgg
    rw [Sem.run_bind, run_underlying hu w]
    rfl
  have hc : w.cell? ⟨g, 0, none⟩ = some v := hg.cell 0
  simp [loadVar, Sem.run_bind, hagg, go_sem, hc]
set_option maxRecDepth 100000 in
theorem texts_panic (B n m : Nat) {v0 : Value} (w : World) (h0 : Blk w n #[v0] 36) (h1 : Blk w m #[.int .i64 0] 23) (hne : n ≠ m) (hBn : B ≤ n) (hBm : B ≤ m) :
    CallsD Tryz.prog 229 #[.pointer (some ⟨n, 0, none⟩), .pointer (some ⟨m, 0, none⟩)] (.panicking [{ v := .iface 156 (.agg #[]), recovered := false }]) w fun e u' w' =>
      e = .returned (.tuple #[]) ∧ u' = .panicking [{ v := .iface 156 (.agg #[]), recovered := true }] ∧ Blk w' n #[.slice none 0 0] 36 ∧ Blk w' m #[.int .i64 6] 23 ∧ Below B w w' := by
  refine callsD_of_wpS Tryz.func229 rfl fun c₀ cs hu => ?_
  simp only [Tryz.ntmps229, List.size_toArray, List.length_cons, List.length_nil, Nat.reduceAdd, Nat.reduceSub, Array.replicate_succ, Array.replicate_zero, List.push_toArray, List.append_toArray, List.nil_append, List.cons_append]
  apply wpS_seq
  apply wpS_region
  simp [wpOpsS, go_sem, recoverD, hu, Exit.thenS]
  refine wpS_of_wp (wp_mono (Q := fun e a' w' => e = .normal ∧ a'.defers = [] ∧ Blk w' n #[.slice none 0 0] 36 ∧ Blk w' m #[.int .i64 6] 23 ∧ Below B w w') ?_ ?_)
  · have c0 : w.cell? ⟨n, 0, none⟩ = some v0 := h0.cell 0
    have e0 : w.cell? ⟨m, 0, none⟩ = some (.int .i64 0) := h1.cell 0
    have f0 := fun j => h0.free j
    have f1 := fun j => h1.free j
    have l0 := h0.lt
    have l1 := h1.lt
    have H0 := Lib.hid h0; have H1 := Lib.hid h1; clear h0 h1
    generalize hQ : (fun (e : Exit) (a' : Act) (w' : World) => e = Exit.normal ∧ a'.defers = [] ∧ Blk w' n #[.slice none 0 0] 36 ∧ Blk w' m #[.int .i64 6] 23 ∧ Below B w w') = Q
    have HQ := Lib.hid hQ; clear hQ
    have hta := assert_stop
    go_wp2
    rw [← HQ.out]
    refine ⟨rfl, rfl, ?_, ?_, ?_⟩
    · refine Blk.alloc (Blk.other ?_ hne _) _
      simpa using (H0.out.set 0 (.slice none 0 0))
    · refine Blk.alloc (Blk.set (cs := #[.int .i64 0]) ?_ 0 _) _
      iterate 1 refine Blk.other ?_ (fun h => hne h.symm) _
      exact H1.out
    · refine Below.alloc ?_ (by simp; omega) _
      refine Below.setCell ?_ (by simpa using hBm) _
      iterate 1 refine Below.setCell ?_ (by simpa using hBn) _
      exact Below.refl _ _
  · rintro e a w' ⟨rfl, hd, q⟩
    exact ⟨hd, _, rfl, _, results_none rfl _ _ _, rfl, rfl, q⟩

theorem texts_idle (n m : Nat) (w : World) :
    CallsD Tryz.prog 229 #[.pointer (some ⟨n, 0, none⟩), .pointer (some ⟨m, 0, none⟩)] .returning w fun e u' w' => e = .returned (.tuple #[]) ∧ u' = .returning ∧ w' = w := by
  refine callsD_of_wpS Tryz.func229 rfl fun c₀ cs hu => ?_
  simp only [Tryz.ntmps229, List.size_toArray, List.length_cons, List.length_nil, Nat.reduceAdd, Nat.reduceSub, Array.replicate_succ, Array.replicate_zero, List.push_toArray, List.append_toArray, List.nil_append, List.cons_append]
  apply wpS_seq
  apply wpS_region
  simp [wpOpsS, go_sem, recoverD, hu, Exit.thenS]
  refine wpS_of_wp (wp_mono (Q := fun e a' w' => e = .normal ∧ a'.defers = [] ∧ w' = w) ?_ ?_)
  · generalize hQ : (fun (e : Exit) (a' : Act) (w' : World) => e = Exit.normal ∧ a'.defers = [] ∧ w' = w) = Q
    have HQ := Lib.hid hQ; clear hQ
    go_wp2
    rw [← HQ.out]
    exact ⟨rfl, rfl, rfl⟩
  · rintro e a w' ⟨rfl, hd, rfl⟩
    cases c₀
    simp at hu
    subst hu
    exact ⟨hd, _, rfl, _, results_none rfl _ _ _, rfl, rfl, rfl⟩

/-- The world in which take calls its function. -/
def wTexts (w : World) (d : ByteArray) : World := ((w.alloc (.cells #[.slice none 0 0] 36)).alloc (.cells #[.int .i64 0] 23)).alloc (.cells #[.string d] 159)
theorem wTexts_src (w : World) (d : ByteArray) : Src (w.heap.size + 1 + 1) d (wTexts w d) := by
  have := Blk.new ((w.alloc (.cells #[.slice none 0 0] 36)).alloc (.cells #[.int .i64 0] 23)) #[.string d] 159
  simpa [wTexts, Src] using this
theorem wTexts_val (w : World) (d : ByteArray) : Blk (wTexts w d) w.heap.size #[.slice none 0 0] 36 := ((Blk.new w #[.slice none 0 0] 36).alloc _).alloc _
theorem wTexts_err (w : World) (d : ByteArray) : Blk (wTexts w d) (w.heap.size + 1) #[.int .i64 0] 23 := by
  have := (Blk.new (w.alloc (.cells #[.slice none 0 0] 36)) #[.int .i64 0] 23).alloc (.cells #[.string d] 159)
  simpa [wTexts] using this
theorem wTexts_below (w : World) (d : ByteArray) : Below w.heap.size w (wTexts w d) := (((Below.refl _ w).alloc (Nat.le_refl _) _).alloc (by simp) _).alloc (by simp; omega) _

/-- Behind the door, where something panicked. -/
theorem texts_door (p : Option (List ByteArray)) (hp : p = none) (tmps : Array Value) {v0 : Value} (w w1 : World) (hk : Blk w1 w.heap.size #[v0] 36) (he : Blk w1 (w.heap.size + 1) #[.int .i64 0] 23) (hb : Below w.heap.size w w1)
    (h4 : tmps.getD 4 undef = .pointer (some ⟨w.heap.size, 0, none⟩)) (h5 : tmps.getD 5 undef = .pointer (some ⟨w.heap.size + 1, 0, none⟩)) :
    bodyPostD Tryz.prog Tryz.f194 (TakeP (textsV (w.heap.size + 1)) (.slice none 0 0) p w) (.panic stopC)
      { tmps := tmps, defers := [{ target := .fn (.func 229) #[.pointer (some ⟨w.heap.size, 0, none⟩), .pointer (some ⟨w.heap.size + 1, 0, none⟩)], args := #[] }] } w1 := by
  subst hp
  refine leaves_cons (f := 229) (args := #[.pointer (some ⟨w.heap.size, 0, none⟩), .pointer (some ⟨w.heap.size + 1, 0, none⟩)]) (by simp) (by simp [go_sem]) ?_
  refine (texts_panic w.heap.size _ _ w1 hk he (by omega) (Nat.le_refl _) (by omega)).mono ?_
  rintro e u' w2 ⟨rfl, rfl, hk2, he2, hb2⟩
  exact ⟨_, results2 rfl ⟨_, h4, loadVar_slice hk2 Tryz.underlying36⟩ ⟨_, h5, loadVar_int he2 Tryz.underlying23⟩, hb.trans hb2, rfl⟩

set_option maxRecDepth 100000 in
set_option maxHeartbeats 1000000 in
theorem take_texts (d : ByteArray) (w : World) :
    Calls Tryz.prog 194 #[.string d, .func (.func 195) #[] #[]] w (TakeP (textsV (w.heap.size + 1)) (.slice none 0 0) (takeR textsT d) w) := by
  have hmf := makeFunc_run
  by_cases hd : d.size ≤ 2000
  · have hd' : decide ((d.size : Int) ≤ 2000) = true := by simp; omega
    have HD := Lib.hid hd; clear hd
    go_enter_defers Tryz.func194, Tryz.ntmps194
    go_wp2_with (go_at_call 93; refine (must_ok _ _).mono ?_; rintro e w' ⟨rfl, rfl⟩)
    refine (texts1_t (w.heap.size + 1 + 1) d _ (wTexts_src w d) HD.out).mono ?_
    rintro e w1 h
    rcases h1 : textsT d with _ | ⟨x, r⟩
    · rw [h1] at h
      obtain ⟨rfl, hO⟩ := h
      exact texts_door _ (takeR_none h1) _ w w1 ((wTexts_val w d).only hO (by omega)) ((wTexts_err w d).only hO (by omega)) ((wTexts_below w d).trans (hO.belowOf (by omega) (by simp [wTexts]; omega))) rfl rfl
    rw [h1] at h
    obtain ⟨v, rfl, hv, hS, hO⟩ := h
    have hu := hv
    obtain ⟨uA, uc, rfl⟩ := OwnS.len hu
    have HU : Hid (OwnS (w.heap.size + 3) (.slice uA x.length uc) x w1) := Lib.hid (OwnS.lift hu (by simp [wTexts]))
    clear hu
    have hk1 := (wTexts_val w d).only hO (by omega)
    have he1 := (wTexts_err w d).only hO (by omega)
    have hB1 := (wTexts_below w d).trans (hO.belowOf (B := w.heap.size) (by omega) (by simp [wTexts]; omega))
    have c0 : w1.cell? ⟨w.heap.size, 0, none⟩ = some (.slice none 0 0) := hk1.cell 0
    have e0 : w1.cell? ⟨w.heap.size + 1, 0, none⟩ = some (.int .i64 0) := he1.cell 0
    have e5 : w1.cell? ⟨w.heap.size + 1 + 1, 0, none⟩ = some (.string r) := hS.cell 0
    have f0 := fun j => hk1.free j
    have f1 := fun j => he1.free j
    have HK1 := Lib.hid hk1; have HE1 := Lib.hid he1; have HB1 := Lib.hid hB1; have H1 := Lib.hid h1
    clear hk1 he1 hB1 hO hS h1
    by_cases hr : r.size = 0
    · obtain rfl := size_empty hr
      clear hr
      go_wp2_with (go_at_call 93; refine (must_ok _ _).mono ?_; rintro e w' ⟨rfl, rfl⟩)
      refine leaves_cons (f := 229) (args := #[.pointer (some ⟨w.heap.size, 0, none⟩), .pointer (some ⟨w.heap.size + 1, 0, none⟩)]) (by simp) (by simp [go_sem]) ?_
      refine (texts_idle _ _ _).mono ?_
      rintro e u' w2 ⟨rfl, rfl, rfl⟩
      refine ⟨_, results2 rfl ⟨_, rfl, loadVar_slice (v := .slice uA x.length uc) (t := 36) ?_ Tryz.underlying36⟩ ⟨_, rfl, loadVar_int (t := 23) (v := .int .i64 0) ?_ Tryz.underlying23⟩, ?_, ?_⟩
      · refine Blk.other ?_ (by simp) _
        simpa using ((HK1.out.set 0 (.slice uA x.length uc)).set 0 (.slice uA x.length uc))
      · refine Blk.set (cs := #[.int .i64 0]) ?_ 0 _
        iterate 2 refine Blk.other ?_ (by simp) _
        exact HE1.out
      · refine Below.setCell ?_ (by simp) _
        iterate 2 refine Below.setCell ?_ (by exact Nat.le_refl _) _
        exact HB1.out
      · rw [takeR_some HD.out H1.out rfl]
        refine ⟨_, ?_, rfl⟩
        refine OwnS.lift (lo := w.heap.size + 3) ?_ (by omega)
        refine OwnS.only (b := w.heap.size + 1) ?_ ((Only.refl _ _).put _ _) (by omega)
        refine OwnS.only (b := w.heap.size) HU.out ?_ (by omega)
        iterate 2 refine Only.put ?_ _ _
        exact Only.refl _ _
    · have he := toList_isEmpty hr
      have hT := takeR_left H1.out hr
      have HT := Lib.hid hT; clear hT hr
      go_wp2_with (go_at_call 93; refine (must_no _ _).mono ?_; rintro e w' ⟨rfl, rfl⟩)
      refine texts_door _ HT.out _ (v0 := .slice uA x.length uc) (w := w) (w1 := _) (hk := ?_) (he := ?_) (hb := ?_) rfl rfl
      · exact (by simpa using (HK1.out.set 0 (.slice uA x.length uc)) : Blk _ w.heap.size #[.slice uA x.length uc] 36)
      · iterate 1 refine Blk.other ?_ (by simp) _
        exact HE1.out
      · iterate 1 refine Below.setCell ?_ (by exact Nat.le_refl _) _
        exact HB1.out
  · have hd' : decide ((d.size : Int) ≤ 2000) = false := by simp; omega
    have HT := Lib.hid (takeR_long (f := textsT) hd)
    clear hd
    go_enter_defers Tryz.func194, Tryz.ntmps194
    go_wp2_with (go_at_call 93; refine (must_no _ _).mono ?_; rintro e w' ⟨rfl, rfl⟩)
    exact texts_door _ HT.out _ w _ (wTexts_val w d) (wTexts_err w d) (wTexts_below w d) rfl rfl

set_option maxRecDepth 100000 in
theorem data_texts (d : ByteArray) (w : World) :
    Calls Tryz.prog 144 #[.string d] w (TakeP (textsV w.heap.size) (.slice none 0 0) (takeR textsT d) w) := by
  have hmf := makeFunc_run
  go_enter Tryz.func144, Tryz.ntmps144
  go_wp2_with fail
  refine (take_texts d _).mono ?_
  rintro e w1 ⟨hb, h⟩
  have HB := Lib.hid hb; clear hb
  rcases h1 : takeR textsT d with _ | x
  · rw [h1] at h
    obtain rfl := h
    go_wp2
    go_ret2
    refine ⟨HB.out, ?_⟩
    rw [h1]; rfl
  · rw [h1] at h
    obtain ⟨v, hv, rfl⟩ := h
    have HU : Hid (OwnS w.heap.size v x w1) := Lib.hid (OwnS.lift hv (by omega))
    clear hv
    go_wp2
    go_ret2
    refine ⟨HB.out, ?_⟩
    rw [h1]; exact ⟨_, HU.out, rfl⟩
end Go.Proofs.YtmkodendjlmijaaGreatDoor

