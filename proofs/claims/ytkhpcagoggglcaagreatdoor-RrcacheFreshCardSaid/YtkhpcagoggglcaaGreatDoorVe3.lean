import Derived.Test.YtkhpcagoggglcaaGreatDoorVe2
import Derived.Recover
import Derived.Defers
/- data.Sig: what such data have: the closure that takes them apart, data.take at this type, data.Sig itself. Lines printed by wip/tools/taker.py. -/
namespace Go.Proofs.YtkhpcagoggglcaaGreatDoor
open Go.RowKit

structure SigR where
  covered : Int
  alg : Int
  labels : Int
  ttl : Int
  fin : Int
  begin : Int
  tag : Int
  signer : ByteArray
  sign : ByteArray
def SigR.v (x : SigR) : Value := .agg #[.int .i64 x.covered, .int .i64 x.alg, .int .i64 x.labels, .int .i64 x.ttl, .int .i64 x.fin, .int .i64 x.begin, .int .i64 x.tag, .string x.signer, .string x.sign]
def sigV (_lo : Nat) (x : SigR) (_ : World) (v : Value) : Prop := v = x.v
def zSig : Array Value := #[.int .i64 0, .int .i64 0, .int .i64 0, .int .i64 0, .int .i64 0, .int .i64 0, .int .i64 0, .string ⟨#[]⟩, .string ⟨#[]⟩]
theorem info_Sig : (Tryz.prog.info? 78).map (·.size) = some 9 := by kernel_rfl
/-- What is taken, and what is left. -/
def sigT (s : ByteArray) : Option (SigR × ByteArray) :=
  match numT 2 s with
  | none => none
  | some (a1, s1) =>
    match numT 1 s1 with
    | none => none
    | some (a2, s2) =>
      match numT 1 s2 with
      | none => none
      | some (a3, s3) =>
        match numT 4 s3 with
        | none => none
        | some (a4, s4) =>
          match numT 4 s4 with
          | none => none
          | some (a5, s5) =>
            match numT 4 s5 with
            | none => none
            | some (a6, s6) =>
              match numT 2 s6 with
              | none => none
              | some (a7, s7) =>
                match nameT s7 with
                | none => none
                | some (a8, s8) =>
                  match restT s8 with
                  | none => none
                  | some (a9, s9) =>
                    some (⟨a1, a2, a3, a4, a5, a6, a7, a8, a9⟩, s9)

set_option maxRecDepth 100000 in
set_option maxHeartbeats 1000000 in
theorem sig1_t (b : Nat) (s : ByteArray) (w : World) (hS : Src b s w) (hz : s.size ≤ 2000) :
    Calls Tryz.prog 43 #[.pointer (some ⟨b, 0, none⟩)] w (Took b w (sigT s) (sigV (w.heap.size + 1))) := by
  have hne : w.heap.size ≠ b := by have := hS.lt; omega
  have n : b ≠ w.heap.size := fun h => hne h.symm
  have HL := Lib.hid hS.lt
  have HQ0 := Lib.hid hS
  have HZ0 := Lib.hid hz
  clear hS hz
  go_enter Tryz.func43, Tryz.ntmps43
  go_wp2_with fail
  refine (number_t b s 2 2 rfl _ (HQ0.out.alloc _) (by omega)).mono ?_
  rintro e W1 h
  rcases h1 : numT 2 s with _ | ⟨a1, s1⟩
  · rw [h1] at h
    obtain ⟨rfl, hO⟩ := h
    have hO2 : Only b w W1 := (Only.alloc w _).trans hO
    have hT : sigT s = none := by simp only [sigT, h1]
    first
      | (refine ⟨rfl, ?_⟩; rw [hT]; exact ⟨rfl, hO2⟩)
      | (simp only []; refine ⟨rfl, ?_⟩; rw [hT]; exact ⟨rfl, hO2⟩)
  rw [h1] at h
  obtain ⟨v1, rfl, hv, hS, hO⟩ := h
  have hO2 : Only b w W1 := (Only.alloc w _).trans hO
  obtain rfl : v1 = .int .i64 a1 := hv
  have hB2 := (Blk.new w #[.int .i64 0, .int .i64 0, .int .i64 0, .int .i64 0, .int .i64 0, .int .i64 0, .int .i64 0, .string ⟨#[]⟩, .string ⟨#[]⟩] 78).only hO hne
  have HZ1 := Lib.hid (Nat.le_trans (numT_le h1) HZ0.out)
  have HB1 := Lib.hid hB2; have HQ1 := Lib.hid hS; have HO1 := Lib.hid hO2; have E1 := Lib.hid h1
  clear hB2 hS hO hO2 h1 
  go_wp2_with fail
  refine (number_t b s1 1 1 rfl _ (HQ1.out) (by omega)).mono ?_
  rintro e W2 h
  rcases h2 : numT 1 s1 with _ | ⟨a2, s2⟩
  · rw [h2] at h
    obtain ⟨rfl, hO⟩ := h
    have hO2 : Only b w W2 := (HO1.out).trans hO
    have hT : sigT s = none := by have e1 := E1.out; simp only [sigT, e1, h2]
    first
      | (refine ⟨rfl, ?_⟩; rw [hT]; exact ⟨rfl, hO2⟩)
      | (simp only []; refine ⟨rfl, ?_⟩; rw [hT]; exact ⟨rfl, hO2⟩)
  rw [h2] at h
  obtain ⟨v2, rfl, hv, hS, hO⟩ := h
  have hO2 : Only b w W2 := (HO1.out).trans hO
  obtain rfl : v2 = .int .i64 a2 := hv
  have hB2 := HB1.out.only hO hne
  have HZ2 := Lib.hid (Nat.le_trans (numT_le h2) HZ1.out)
  have HB2 := Lib.hid hB2; have HQ2 := Lib.hid hS; have HO2 := Lib.hid hO2; have E2 := Lib.hid h2
  clear hB2 hS hO hO2 h2 
  go_wp2_with fail
  refine (number_t b s2 1 1 rfl _ (HQ2.out) (by omega)).mono ?_
  rintro e W3 h
  rcases h3 : numT 1 s2 with _ | ⟨a3, s3⟩
  · rw [h3] at h
    obtain ⟨rfl, hO⟩ := h
    have hO2 : Only b w W3 := (HO2.out).trans hO
    have hT : sigT s = none := by have e1 := E1.out; have e2 := E2.out; simp only [sigT, e1, e2, h3]
    first
      | (refine ⟨rfl, ?_⟩; rw [hT]; exact ⟨rfl, hO2⟩)
      | (simp only []; refine ⟨rfl, ?_⟩; rw [hT]; exact ⟨rfl, hO2⟩)
  rw [h3] at h
  obtain ⟨v3, rfl, hv, hS, hO⟩ := h
  have hO2 : Only b w W3 := (HO2.out).trans hO
  obtain rfl : v3 = .int .i64 a3 := hv
  have hB2 := HB2.out.only hO hne
  have HZ3 := Lib.hid (Nat.le_trans (numT_le h3) HZ2.out)
  have HB3 := Lib.hid hB2; have HQ3 := Lib.hid hS; have HO3 := Lib.hid hO2; have E3 := Lib.hid h3
  clear hB2 hS hO hO2 h3 
  have c0 : W3.cell? ⟨w.heap.size, 0, none⟩ = some (.int .i64 0) := HB3.out.cell 0
  have c1 : W3.cell? ⟨w.heap.size, 1, none⟩ = some (.int .i64 0) := HB3.out.cell 1
  have c2 : W3.cell? ⟨w.heap.size, 2, none⟩ = some (.int .i64 0) := HB3.out.cell 2
  have c3 : W3.cell? ⟨w.heap.size, 3, none⟩ = some (.int .i64 0) := HB3.out.cell 3
  have c4 : W3.cell? ⟨w.heap.size, 4, none⟩ = some (.int .i64 0) := HB3.out.cell 4
  have c5 : W3.cell? ⟨w.heap.size, 5, none⟩ = some (.int .i64 0) := HB3.out.cell 5
  have c6 : W3.cell? ⟨w.heap.size, 6, none⟩ = some (.int .i64 0) := HB3.out.cell 6
  have c7 : W3.cell? ⟨w.heap.size, 7, none⟩ = some (.string ⟨#[]⟩) := HB3.out.cell 7
  have c8 : W3.cell? ⟨w.heap.size, 8, none⟩ = some (.string ⟨#[]⟩) := HB3.out.cell 8
  have f0 := fun j => HB3.out.free j
  go_wp2_with fail
  refine (number_t b s3 4 4 rfl _ ?_ (by omega)).mono ?_
  · iterate 3 refine Blk.other ?_ n _
    exact HQ3.out
  rintro e W4 h
  rcases h4 : numT 4 s3 with _ | ⟨a4, s4⟩
  · rw [h4] at h
    obtain ⟨rfl, hO⟩ := h
    have hO2 : Only b w W4 := by
      refine Only.trans ?_ hO
      iterate 3 refine Only.setNew ?_ (Nat.le_refl _) _
      exact HO3.out
    have hT : sigT s = none := by have e1 := E1.out; have e2 := E2.out; have e3 := E3.out; simp only [sigT, e1, e2, e3, h4]
    first
      | (refine ⟨rfl, ?_⟩; rw [hT]; exact ⟨rfl, hO2⟩)
      | (simp only []; refine ⟨rfl, ?_⟩; rw [hT]; exact ⟨rfl, hO2⟩)
  rw [h4] at h
  obtain ⟨v4, rfl, hv, hS, hO⟩ := h
  have hO2 : Only b w W4 := by
    refine Only.trans ?_ hO
    iterate 3 refine Only.setNew ?_ (Nat.le_refl _) _
    exact HO3.out
  obtain rfl : v4 = .int .i64 a4 := hv
  have hB2 : Blk W4 w.heap.size #[.int .i64 a1, .int .i64 a2, .int .i64 a3, .int .i64 0, .int .i64 0, .int .i64 0, .int .i64 0, .string ⟨#[]⟩, .string ⟨#[]⟩] 78 := by
    refine Blk.only (cs := #[.int .i64 a1, .int .i64 a2, .int .i64 a3, .int .i64 0, .int .i64 0, .int .i64 0, .int .i64 0, .string ⟨#[]⟩, .string ⟨#[]⟩]) ?_ hO hne
    simpa using (((HB3.out.set 0 (.int .i64 a1)).set 1 (.int .i64 a2)).set 2 (.int .i64 a3))
  have HZ4 := Lib.hid (Nat.le_trans (numT_le h4) HZ3.out)
  have HB4 := Lib.hid hB2; have HQ4 := Lib.hid hS; have HO4 := Lib.hid hO2; have E4 := Lib.hid h4
  clear hB2 hS hO hO2 h4 
  clear c0 c1 c2 c3 c4 c5 c6 c7 c8 f0
  go_wp2_with fail
  refine (number_t b s4 4 4 rfl _ (HQ4.out) (by omega)).mono ?_
  rintro e W5 h
  rcases h5 : numT 4 s4 with _ | ⟨a5, s5⟩
  · rw [h5] at h
    obtain ⟨rfl, hO⟩ := h
    have hO2 : Only b w W5 := (HO4.out).trans hO
    have hT : sigT s = none := by have e1 := E1.out; have e2 := E2.out; have e3 := E3.out; have e4 := E4.out; simp only [sigT, e1, e2, e3, e4, h5]
    first
      | (refine ⟨rfl, ?_⟩; rw [hT]; exact ⟨rfl, hO2⟩)
      | (simp only []; refine ⟨rfl, ?_⟩; rw [hT]; exact ⟨rfl, hO2⟩)
  rw [h5] at h
  obtain ⟨v5, rfl, hv, hS, hO⟩ := h
  have hO2 : Only b w W5 := (HO4.out).trans hO
  obtain rfl : v5 = .int .i64 a5 := hv
  have hB2 := HB4.out.only hO hne
  have HZ5 := Lib.hid (Nat.le_trans (numT_le h5) HZ4.out)
  have HB5 := Lib.hid hB2; have HQ5 := Lib.hid hS; have HO5 := Lib.hid hO2; have E5 := Lib.hid h5
  clear hB2 hS hO hO2 h5 
  go_wp2_with fail
  refine (number_t b s5 4 4 rfl _ (HQ5.out) (by omega)).mono ?_
  rintro e W6 h
  rcases h6 : numT 4 s5 with _ | ⟨a6, s6⟩
  · rw [h6] at h
    obtain ⟨rfl, hO⟩ := h
    have hO2 : Only b w W6 := (HO5.out).trans hO
    have hT : sigT s = none := by have e1 := E1.out; have e2 := E2.out; have e3 := E3.out; have e4 := E4.out; have e5 := E5.out; simp only [sigT, e1, e2, e3, e4, e5, h6]
    first
      | (refine ⟨rfl, ?_⟩; rw [hT]; exact ⟨rfl, hO2⟩)
      | (simp only []; refine ⟨rfl, ?_⟩; rw [hT]; exact ⟨rfl, hO2⟩)
  rw [h6] at h
  obtain ⟨v6, rfl, hv, hS, hO⟩ := h
  have hO2 : Only b w W6 := (HO5.out).trans hO
  obtain rfl : v6 = .int .i64 a6 := hv
  have hB2 := HB5.out.only hO hne
  have HZ6 := Lib.hid (Nat.le_trans (numT_le h6) HZ5.out)
  have HB6 := Lib.hid hB2; have HQ6 := Lib.hid hS; have HO6 := Lib.hid hO2; have E6 := Lib.hid h6
  clear hB2 hS hO hO2 h6 
  go_wp2_with fail
  refine (number_t b s6 2 2 rfl _ (HQ6.out) (by omega)).mono ?_
  rintro e W7 h
  rcases h7 : numT 2 s6 with _ | ⟨a7, s7⟩
  · rw [h7] at h
    obtain ⟨rfl, hO⟩ := h
    have hO2 : Only b w W7 := (HO6.out).trans hO
    have hT : sigT s = none := by have e1 := E1.out; have e2 := E2.out; have e3 := E3.out; have e4 := E4.out; have e5 := E5.out; have e6 := E6.out; simp only [sigT, e1, e2, e3, e4, e5, e6, h7]
    first
      | (refine ⟨rfl, ?_⟩; rw [hT]; exact ⟨rfl, hO2⟩)
      | (simp only []; refine ⟨rfl, ?_⟩; rw [hT]; exact ⟨rfl, hO2⟩)
  rw [h7] at h
  obtain ⟨v7, rfl, hv, hS, hO⟩ := h
  have hO2 : Only b w W7 := (HO6.out).trans hO
  obtain rfl : v7 = .int .i64 a7 := hv
  have hB2 := HB6.out.only hO hne
  have HZ7 := Lib.hid (Nat.le_trans (numT_le h7) HZ6.out)
  have HB7 := Lib.hid hB2; have HQ7 := Lib.hid hS; have HO7 := Lib.hid hO2; have E7 := Lib.hid h7
  clear hB2 hS hO hO2 h7 
  have c0 : W7.cell? ⟨w.heap.size, 0, none⟩ = some (.int .i64 a1) := HB7.out.cell 0
  have c1 : W7.cell? ⟨w.heap.size, 1, none⟩ = some (.int .i64 a2) := HB7.out.cell 1
  have c2 : W7.cell? ⟨w.heap.size, 2, none⟩ = some (.int .i64 a3) := HB7.out.cell 2
  have c3 : W7.cell? ⟨w.heap.size, 3, none⟩ = some (.int .i64 0) := HB7.out.cell 3
  have c4 : W7.cell? ⟨w.heap.size, 4, none⟩ = some (.int .i64 0) := HB7.out.cell 4
  have c5 : W7.cell? ⟨w.heap.size, 5, none⟩ = some (.int .i64 0) := HB7.out.cell 5
  have c6 : W7.cell? ⟨w.heap.size, 6, none⟩ = some (.int .i64 0) := HB7.out.cell 6
  have c7 : W7.cell? ⟨w.heap.size, 7, none⟩ = some (.string ⟨#[]⟩) := HB7.out.cell 7
  have c8 : W7.cell? ⟨w.heap.size, 8, none⟩ = some (.string ⟨#[]⟩) := HB7.out.cell 8
  have f0 := fun j => HB7.out.free j
  go_wp2_with fail
  refine (name_t b s7 _ ?_ HZ7.out).mono ?_
  · iterate 4 refine Blk.other ?_ n _
    exact HQ7.out
  rintro e W8 h
  rcases h8 : nameT s7 with _ | ⟨a8, s8⟩
  · rw [h8] at h
    obtain ⟨rfl, hO⟩ := h
    have hO2 : Only b w W8 := by
      refine Only.trans ?_ hO
      iterate 4 refine Only.setNew ?_ (Nat.le_refl _) _
      exact HO7.out
    have hT : sigT s = none := by have e1 := E1.out; have e2 := E2.out; have e3 := E3.out; have e4 := E4.out; have e5 := E5.out; have e6 := E6.out; have e7 := E7.out; simp only [sigT, e1, e2, e3, e4, e5, e6, e7, h8]
    first
      | (refine ⟨rfl, ?_⟩; rw [hT]; exact ⟨rfl, hO2⟩)
      | (simp only []; refine ⟨rfl, ?_⟩; rw [hT]; exact ⟨rfl, hO2⟩)
  rw [h8] at h
  obtain ⟨v8, rfl, hv, hS, hO⟩ := h
  have hO2 : Only b w W8 := by
    refine Only.trans ?_ hO
    iterate 4 refine Only.setNew ?_ (Nat.le_refl _) _
    exact HO7.out
  obtain rfl : v8 = .string a8 := hv
  have hB2 : Blk W8 w.heap.size #[.int .i64 a1, .int .i64 a2, .int .i64 a3, .int .i64 a4, .int .i64 a5, .int .i64 a6, .int .i64 a7, .string ⟨#[]⟩, .string ⟨#[]⟩] 78 := by
    refine Blk.only (cs := #[.int .i64 a1, .int .i64 a2, .int .i64 a3, .int .i64 a4, .int .i64 a5, .int .i64 a6, .int .i64 a7, .string ⟨#[]⟩, .string ⟨#[]⟩]) ?_ hO hne
    simpa using ((((HB7.out.set 3 (.int .i64 a4)).set 4 (.int .i64 a5)).set 5 (.int .i64 a6)).set 6 (.int .i64 a7))
  have HZ8 := Lib.hid (Nat.le_trans (nameT_le h8) HZ7.out)
  have HB8 := Lib.hid hB2; have HQ8 := Lib.hid hS; have HO8 := Lib.hid hO2; have E8 := Lib.hid h8
  clear hB2 hS hO hO2 h8 
  clear c0 c1 c2 c3 c4 c5 c6 c7 c8 f0
  go_wp2_with fail
  refine (rest_t b s8 _ (HQ8.out)).mono ?_
  rintro e W9 h
  rcases h9 : restT s8 with _ | ⟨a9, s9⟩
  · rw [h9] at h
    obtain ⟨rfl, hO⟩ := h
    have hO2 : Only b w W9 := (HO8.out).trans hO
    have hT : sigT s = none := by have e1 := E1.out; have e2 := E2.out; have e3 := E3.out; have e4 := E4.out; have e5 := E5.out; have e6 := E6.out; have e7 := E7.out; have e8 := E8.out; simp only [sigT, e1, e2, e3, e4, e5, e6, e7, e8, h9]
    first
      | (refine ⟨rfl, ?_⟩; rw [hT]; exact ⟨rfl, hO2⟩)
      | (simp only []; refine ⟨rfl, ?_⟩; rw [hT]; exact ⟨rfl, hO2⟩)
  rw [h9] at h
  obtain ⟨v9, rfl, hv, hS, hO⟩ := h
  have hO2 : Only b w W9 := (HO8.out).trans hO
  obtain rfl : v9 = .string a9 := hv
  have hB2 := HB8.out.only hO hne
  have HZ9 := Lib.hid (Nat.le_trans (restT_le h9) HZ8.out)
  have HB9 := Lib.hid hB2; have HQ9 := Lib.hid hS; have HO9 := Lib.hid hO2; have E9 := Lib.hid h9
  clear hB2 hS hO hO2 h9 
  have c0 : W9.cell? ⟨w.heap.size, 0, none⟩ = some (.int .i64 a1) := HB9.out.cell 0
  have c1 : W9.cell? ⟨w.heap.size, 1, none⟩ = some (.int .i64 a2) := HB9.out.cell 1
  have c2 : W9.cell? ⟨w.heap.size, 2, none⟩ = some (.int .i64 a3) := HB9.out.cell 2
  have c3 : W9.cell? ⟨w.heap.size, 3, none⟩ = some (.int .i64 a4) := HB9.out.cell 3
  have c4 : W9.cell? ⟨w.heap.size, 4, none⟩ = some (.int .i64 a5) := HB9.out.cell 4
  have c5 : W9.cell? ⟨w.heap.size, 5, none⟩ = some (.int .i64 a6) := HB9.out.cell 5
  have c6 : W9.cell? ⟨w.heap.size, 6, none⟩ = some (.int .i64 a7) := HB9.out.cell 6
  have c7 : W9.cell? ⟨w.heap.size, 7, none⟩ = some (.string ⟨#[]⟩) := HB9.out.cell 7
  have c8 : W9.cell? ⟨w.heap.size, 8, none⟩ = some (.string ⟨#[]⟩) := HB9.out.cell 8
  have f0 := fun j => HB9.out.free j
  go_wp2_with fail
  have hF : Blk (((((((((((W9.setCell ⟨w.heap.size, 7, none⟩ (.string a8)).setCell ⟨w.heap.size, 8, none⟩ (.string a9)).setCell ⟨w.heap.size, 0, none⟩ (.int .i64 a1)).setCell ⟨w.heap.size, 1, none⟩ (.int .i64 a2)).setCell ⟨w.heap.size, 2, none⟩ (.int .i64 a3)).setCell ⟨w.heap.size, 3, none⟩ (.int .i64 a4)).setCell ⟨w.heap.size, 4, none⟩ (.int .i64 a5)).setCell ⟨w.heap.size, 5, none⟩ (.int .i64 a6)).setCell ⟨w.heap.size, 6, none⟩ (.int .i64 a7)).setCell ⟨w.heap.size, 7, none⟩ (.string a8)).setCell ⟨w.heap.size, 8, none⟩ (.string a9)) w.heap.size #[.int .i64 a1, .int .i64 a2, .int .i64 a3, .int .i64 a4, .int .i64 a5, .int .i64 a6, .int .i64 a7, .string a8, .string a9] 78 := by
    simpa using (((((((((((HB9.out.set 7 (.string a8)).set 8 (.string a9)).set 0 (.int .i64 a1)).set 1 (.int .i64 a2)).set 2 (.int .i64 a3)).set 3 (.int .i64 a4)).set 4 (.int .i64 a5)).set 5 (.int .i64 a6)).set 6 (.int .i64 a7)).set 7 (.string a8)).set 8 (.string a9))
  have hT : sigT s = some (⟨a1, a2, a3, a4, a5, a6, a7, a8, a9⟩, s9) := by have e1 := E1.out; have e2 := E2.out; have e3 := E3.out; have e4 := E4.out; have e5 := E5.out; have e6 := E6.out; have e7 := E7.out; have e8 := E8.out; have e9 := E9.out; simp only [sigT, e1, e2, e3, e4, e5, e6, e7, e8, e9]
  refine bodyPost_ret (results1 rfl ⟨_, rfl, loadVar_blk hF Tryz.underlying78 rfl info_Sig⟩) rfl ?_
  rw [hT]
  refine ⟨_, rfl, rfl, ?_, ?_⟩
  · iterate 11 refine Blk.other ?_ n _
    exact HQ9.out
  · iterate 11 refine Only.setNew ?_ (Nat.le_refl _) _
    exact HO9.out
set_option maxRecDepth 100000 in
theorem sig_panic (B n m : Nat) {v0 v1 v2 v3 v4 v5 v6 v7 v8 : Value} (w : World) (h0 : Blk w n #[v0, v1, v2, v3, v4, v5, v6, v7, v8] 78) (h1 : Blk w m #[.int .i64 0] 25) (hne : n ≠ m) (hBn : B ≤ n) (hBm : B ≤ m) :
    CallsD Tryz.prog 110 #[.pointer (some ⟨n, 0, none⟩), .pointer (some ⟨m, 0, none⟩)] (.panicking [{ v := .iface 162 (.agg #[]), recovered := false }]) w fun e u' w' =>
      e = .returned (.tuple #[]) ∧ u' = .panicking [{ v := .iface 162 (.agg #[]), recovered := true }] ∧ Blk w' n #[.int .i64 0, .int .i64 0, .int .i64 0, .int .i64 0, .int .i64 0, .int .i64 0, .int .i64 0, .string ⟨#[]⟩, .string ⟨#[]⟩] 78 ∧ Blk w' m #[.int .i64 6] 25 ∧ Below B w w' := by
  refine callsD_of_wpS Tryz.func110 rfl fun c₀ cs hu => ?_
  simp only [Tryz.ntmps110, List.size_toArray, List.length_cons, List.length_nil, Nat.reduceAdd, Nat.reduceSub, Array.replicate_succ, Array.replicate_zero, List.push_toArray, List.append_toArray, List.nil_append, List.cons_append]
  apply wpS_seq
  apply wpS_region
  simp [wpOpsS, go_sem, recoverD, hu, Exit.thenS]
  refine wpS_of_wp (wp_mono (Q := fun e a' w' => e = .normal ∧ a'.defers = [] ∧ Blk w' n #[.int .i64 0, .int .i64 0, .int .i64 0, .int .i64 0, .int .i64 0, .int .i64 0, .int .i64 0, .string ⟨#[]⟩, .string ⟨#[]⟩] 78 ∧ Blk w' m #[.int .i64 6] 25 ∧ Below B w w') ?_ ?_)
  · have c0 : w.cell? ⟨n, 0, none⟩ = some v0 := h0.cell 0
    have c1 : w.cell? ⟨n, 1, none⟩ = some v1 := h0.cell 1
    have c2 : w.cell? ⟨n, 2, none⟩ = some v2 := h0.cell 2
    have c3 : w.cell? ⟨n, 3, none⟩ = some v3 := h0.cell 3
    have c4 : w.cell? ⟨n, 4, none⟩ = some v4 := h0.cell 4
    have c5 : w.cell? ⟨n, 5, none⟩ = some v5 := h0.cell 5
    have c6 : w.cell? ⟨n, 6, none⟩ = some v6 := h0.cell 6
    have c7 : w.cell? ⟨n, 7, none⟩ = some v7 := h0.cell 7
    have c8 : w.cell? ⟨n, 8, none⟩ = some v8 := h0.cell 8
    have e0 : w.cell? ⟨m, 0, none⟩ = some (.int .i64 0) := h1.cell 0
    have f0 := fun j => h0.free j
    have f1 := fun j => h1.free j
    have l0 := h0.lt
    have l1 := h1.lt
    have H0 := Lib.hid h0; have H1 := Lib.hid h1; clear h0 h1
    generalize hQ : (fun (e : Exit) (a' : Act) (w' : World) => e = Exit.normal ∧ a'.defers = [] ∧ Blk w' n #[.int .i64 0, .int .i64 0, .int .i64 0, .int .i64 0, .int .i64 0, .int .i64 0, .int .i64 0, .string ⟨#[]⟩, .string ⟨#[]⟩] 78 ∧ Blk w' m #[.int .i64 6] 25 ∧ Below B w w') = Q
    have HQ := Lib.hid hQ; clear hQ
    have hta := assert_stop
    go_wp2
    rw [← HQ.out]
    refine ⟨rfl, rfl, ?_, ?_, ?_⟩
    · refine Blk.alloc (Blk.alloc (Blk.other ?_ hne _) _) _
      simpa using (((((((((H0.out.set 0 (.int .i64 0)).set 1 (.int .i64 0)).set 2 (.int .i64 0)).set 3 (.int .i64 0)).set 4 (.int .i64 0)).set 5 (.int .i64 0)).set 6 (.int .i64 0)).set 7 (.string ⟨#[]⟩)).set 8 (.string ⟨#[]⟩))
    · refine Blk.alloc (Blk.alloc (Blk.set (cs := #[.int .i64 0]) ?_ 0 _) _) _
      iterate 9 refine Blk.other ?_ (fun h => hne h.symm) _
      exact H1.out
    · refine Below.alloc (Below.alloc ?_ (by simp; omega) _) (by simp; omega) _
      refine Below.setCell ?_ (by simpa using hBm) _
      iterate 9 refine Below.setCell ?_ (by simpa using hBn) _
      exact Below.refl _ _
  · rintro e a w' ⟨rfl, hd, q⟩
    exact ⟨hd, _, rfl, _, results_none rfl _ _ _, rfl, rfl, q⟩

theorem sig_idle (n m : Nat) (w : World) :
    CallsD Tryz.prog 110 #[.pointer (some ⟨n, 0, none⟩), .pointer (some ⟨m, 0, none⟩)] .returning w fun e u' w' => e = .returned (.tuple #[]) ∧ u' = .returning ∧ w' = w := by
  refine callsD_of_wpS Tryz.func110 rfl fun c₀ cs hu => ?_
  simp only [Tryz.ntmps110, List.size_toArray, List.length_cons, List.length_nil, Nat.reduceAdd, Nat.reduceSub, Array.replicate_succ, Array.replicate_zero, List.push_toArray, List.append_toArray, List.nil_append, List.cons_append]
  apply wpS_seq
  apply wpS_region
  simp [wpOpsS, go_sem, recoverD, hu, Exit.thenS]
  refine wpS_of_wp (wp_mono (Q := fun e a' w' => e = .normal ∧ a'.defers = [] ∧ w' = w) ?_ ?_)
  · generalize hQ : (fun (e : Exit) (a' : Act) (w' : World) => e = Exit.normal ∧ a'.defers = [] ∧ w' = w) = Q
    have HQ := Lib.hid hQ; clear hQ
    go_wp2
    rw [← HQ.out]
    exact ⟨rfl, rfl, rfl⟩
  · rintro e a w' ⟨rfl, hd, rfl⟩
    cases c₀
    simp at hu
    subst hu
    exact ⟨hd, _, rfl, _, results_none rfl _ _ _, rfl, rfl, rfl⟩

/-- The world in which take calls its function. -/
def wSig (w : World) (d : ByteArray) : World := ((w.alloc (.cells #[.int .i64 0, .int .i64 0, .int .i64 0, .int .i64 0, .int .i64 0, .int .i64 0, .int .i64 0, .string ⟨#[]⟩, .string ⟨#[]⟩] 78)).alloc (.cells #[.int .i64 0] 25)).alloc (.cells #[.string d] 165)
theorem wSig_src (w : World) (d : ByteArray) : Src (w.heap.size + 1 + 1) d (wSig w d) := by
  have := Blk.new ((w.alloc (.cells #[.int .i64 0, .int .i64 0, .int .i64 0, .int .i64 0, .int .i64 0, .int .i64 0, .int .i64 0, .string ⟨#[]⟩, .string ⟨#[]⟩] 78)).alloc (.cells #[.int .i64 0] 25)) #[.string d] 165
  simpa [wSig, Src] using this
theorem wSig_val (w : World) (d : ByteArray) : Blk (wSig w d) w.heap.size #[.int .i64 0, .int .i64 0, .int .i64 0, .int .i64 0, .int .i64 0, .int .i64 0, .int .i64 0, .string ⟨#[]⟩, .string ⟨#[]⟩] 78 := ((Blk.new w #[.int .i64 0, .int .i64 0, .int .i64 0, .int .i64 0, .int .i64 0, .int .i64 0, .int .i64 0, .string ⟨#[]⟩, .string ⟨#[]⟩] 78).alloc _).alloc _
theorem wSig_err (w : World) (d : ByteArray) : Blk (wSig w d) (w.heap.size + 1) #[.int .i64 0] 25 := by
  have := (Blk.new (w.alloc (.cells #[.int .i64 0, .int .i64 0, .int .i64 0, .int .i64 0, .int .i64 0, .int .i64 0, .int .i64 0, .string ⟨#[]⟩, .string ⟨#[]⟩] 78)) #[.int .i64 0] 25).alloc (.cells #[.string d] 165)
  simpa [wSig] using this
theorem wSig_below (w : World) (d : ByteArray) : Below w.heap.size w (wSig w d) := (((Below.refl _ w).alloc (Nat.le_refl _) _).alloc (by simp) _).alloc (by simp; omega) _

/-- Behind the door, where something panicked. -/
theorem sig_door (p : Option SigR) (hp : p = none) (tmps : Array Value) {v0 v1 v2 v3 v4 v5 v6 v7 v8 : Value} (w w1 : World) (hk : Blk w1 w.heap.size #[v0, v1, v2, v3, v4, v5, v6, v7, v8] 78) (he : Blk w1 (w.heap.size + 1) #[.int .i64 0] 25) (hb : Below w.heap.size w w1)
    (h4 : tmps.getD 4 undef = .pointer (some ⟨w.heap.size, 0, none⟩)) (h5 : tmps.getD 5 undef = .pointer (some ⟨w.heap.size + 1, 0, none⟩)) :
    bodyPostD Tryz.prog Tryz.f42 (TakeP (sigV (w.heap.size + 1)) (.agg #[.int .i64 0, .int .i64 0, .int .i64 0, .int .i64 0, .int .i64 0, .int .i64 0, .int .i64 0, .string ⟨#[]⟩, .string ⟨#[]⟩]) p w) (.panic stopC)
      { tmps := tmps, defers := [{ target := .fn (.func 110) #[.pointer (some ⟨w.heap.size, 0, none⟩), .pointer (some ⟨w.heap.size + 1, 0, none⟩)], args := #[] }] } w1 := by
  subst hp
  refine leaves_cons (f := 110) (args := #[.pointer (some ⟨w.heap.size, 0, none⟩), .pointer (some ⟨w.heap.size + 1, 0, none⟩)]) (by simp) (by simp [go_sem]) ?_
  refine (sig_panic w.heap.size _ _ w1 hk he (by omega) (Nat.le_refl _) (by omega)).mono ?_
  rintro e u' w2 ⟨rfl, rfl, hk2, he2, hb2⟩
  exact ⟨_, results2 rfl ⟨_, h4, loadVar_blk hk2 Tryz.underlying78 rfl info_Sig⟩ ⟨_, h5, loadVar_int he2 Tryz.underlying25⟩, hb.trans hb2, rfl⟩

set_option maxRecDepth 100000 in
set_option maxHeartbeats 1000000 in
theorem take_sig (d : ByteArray) (w : World) :
    Calls Tryz.prog 42 #[.string d, .func (.func 43) #[] #[]] w (TakeP (sigV (w.heap.size + 1)) (.agg #[.int .i64 0, .int .i64 0, .int .i64 0, .int .i64 0, .int .i64 0, .int .i64 0, .int .i64 0, .string ⟨#[]⟩, .string ⟨#[]⟩]) (takeR sigT d) w) := by
  have hmf := makeFunc_run
  by_cases hd : d.size ≤ 2000
  · have hd' : decide ((d.size : Int) ≤ 2000) = true := by simp; omega
    have HD := Lib.hid hd; clear hd
    go_enter_defers Tryz.func42, Tryz.ntmps42
    go_wp2_with (go_at_call 111; refine (must_ok _ _).mono ?_; rintro e w' ⟨rfl, rfl⟩)
    refine (sig1_t (w.heap.size + 1 + 1) d _ (wSig_src w d) HD.out).mono ?_
    rintro e w1 h
    rcases h1 : sigT d with _ | ⟨x, r⟩
    · rw [h1] at h
      obtain ⟨rfl, hO⟩ := h
      exact sig_door _ (takeR_none h1) _ w w1 ((wSig_val w d).only hO (by omega)) ((wSig_err w d).only hO (by omega)) ((wSig_below w d).trans (hO.belowOf (by omega) (by simp [wSig]; omega))) rfl rfl
    rw [h1] at h
    obtain ⟨v, rfl, hv, hS, hO⟩ := h
    obtain rfl : v = x.v := hv
    have hk1 := (wSig_val w d).only hO (by omega)
    have he1 := (wSig_err w d).only hO (by omega)
    have hB1 := (wSig_below w d).trans (hO.belowOf (B := w.heap.size) (by omega) (by simp [wSig]; omega))
    have c0 : w1.cell? ⟨w.heap.size, 0, none⟩ = some (.int .i64 0) := hk1.cell 0
    have c1 : w1.cell? ⟨w.heap.size, 1, none⟩ = some (.int .i64 0) := hk1.cell 1
    have c2 : w1.cell? ⟨w.heap.size, 2, none⟩ = some (.int .i64 0) := hk1.cell 2
    have c3 : w1.cell? ⟨w.heap.size, 3, none⟩ = some (.int .i64 0) := hk1.cell 3
    have c4 : w1.cell? ⟨w.heap.size, 4, none⟩ = some (.int .i64 0) := hk1.cell 4
    have c5 : w1.cell? ⟨w.heap.size, 5, none⟩ = some (.int .i64 0) := hk1.cell 5
    have c6 : w1.cell? ⟨w.heap.size, 6, none⟩ = some (.int .i64 0) := hk1.cell 6
    have c7 : w1.cell? ⟨w.heap.size, 7, none⟩ = some (.string ⟨#[]⟩) := hk1.cell 7
    have c8 : w1.cell? ⟨w.heap.size, 8, none⟩ = some (.string ⟨#[]⟩) := hk1.cell 8
    have e0 : w1.cell? ⟨w.heap.size + 1, 0, none⟩ = some (.int .i64 0) := he1.cell 0
    have e5 : w1.cell? ⟨w.heap.size + 1 + 1, 0, none⟩ = some (.string r) := hS.cell 0
    have f0 := fun j => hk1.free j
    have f1 := fun j => he1.free j
    have HK1 := Lib.hid hk1; have HE1 := Lib.hid he1; have HB1 := Lib.hid hB1; have H1 := Lib.hid h1
    clear hk1 he1 hB1 hO hS h1
    simp only [SigR.v]
    by_cases hr : r.size = 0
    · obtain rfl := size_empty hr
      clear hr
      go_wp2_with (go_at_call 111; refine (must_ok _ _).mono ?_; rintro e w' ⟨rfl, rfl⟩)
      refine leaves_cons (f := 110) (args := #[.pointer (some ⟨w.heap.size, 0, none⟩), .pointer (some ⟨w.heap.size + 1, 0, none⟩)]) (by simp) (by simp [go_sem]) ?_
      refine (sig_idle _ _ _).mono ?_
      rintro e u' w2 ⟨rfl, rfl, rfl⟩
      refine ⟨_, results2 rfl ⟨_, rfl, loadVar_blk (cs := #[.int .i64 x.covered, .int .i64 x.alg, .int .i64 x.labels, .int .i64 x.ttl, .int .i64 x.fin, .int .i64 x.begin, .int .i64 x.tag, .string x.signer, .string x.sign]) (t := 78) ?_ Tryz.underlying78 rfl info_Sig⟩ ⟨_, rfl, loadVar_int (t := 25) (v := .int .i64 0) ?_ Tryz.underlying25⟩, ?_, ?_⟩
      · refine Blk.other ?_ (by simp) _
        simpa using ((((((((((((((((((HK1.out.set 0 (.int .i64 x.covered)).set 1 (.int .i64 x.alg)).set 2 (.int .i64 x.labels)).set 3 (.int .i64 x.ttl)).set 4 (.int .i64 x.fin)).set 5 (.int .i64 x.begin)).set 6 (.int .i64 x.tag)).set 7 (.string x.signer)).set 8 (.string x.sign)).set 0 (.int .i64 x.covered)).set 1 (.int .i64 x.alg)).set 2 (.int .i64 x.labels)).set 3 (.int .i64 x.ttl)).set 4 (.int .i64 x.fin)).set 5 (.int .i64 x.begin)).set 6 (.int .i64 x.tag)).set 7 (.string x.signer)).set 8 (.string x.sign))
      · refine Blk.set (cs := #[.int .i64 0]) ?_ 0 _
        iterate 18 refine Blk.other ?_ (by simp) _
        exact HE1.out
      · refine Below.setCell ?_ (by simp) _
        iterate 18 refine Below.setCell ?_ (by exact Nat.le_refl _) _
        exact HB1.out
      · rw [takeR_some HD.out H1.out rfl]
        exact ⟨_, rfl, rfl⟩
    · have he := toList_isEmpty hr
      have hT := takeR_left H1.out hr
      have HT := Lib.hid hT; clear hT hr
      go_wp2_with (go_at_call 111; refine (must_no _ _).mono ?_; rintro e w' ⟨rfl, rfl⟩)
      refine sig_door _ HT.out _ (v0 := .int .i64 x.covered) (v1 := .int .i64 x.alg) (v2 := .int .i64 x.labels) (v3 := .int .i64 x.ttl) (v4 := .int .i64 x.fin) (v5 := .int .i64 x.begin) (v6 := .int .i64 x.tag) (v7 := .string x.signer) (v8 := .string x.sign) (w := w) (w1 := _) (hk := ?_) (he := ?_) (hb := ?_) rfl rfl
      · exact (by simpa using (((((((((HK1.out.set 0 (.int .i64 x.covered)).set 1 (.int .i64 x.alg)).set 2 (.int .i64 x.labels)).set 3 (.int .i64 x.ttl)).set 4 (.int .i64 x.fin)).set 5 (.int .i64 x.begin)).set 6 (.int .i64 x.tag)).set 7 (.string x.signer)).set 8 (.string x.sign)) : Blk _ w.heap.size #[.int .i64 x.covered, .int .i64 x.alg, .int .i64 x.labels, .int .i64 x.ttl, .int .i64 x.fin, .int .i64 x.begin, .int .i64 x.tag, .string x.signer, .string x.sign] 78)
      · iterate 9 refine Blk.other ?_ (by simp) _
        exact HE1.out
      · iterate 9 refine Below.setCell ?_ (by exact Nat.le_refl _) _
        exact HB1.out
  · have hd' : decide ((d.size : Int) ≤ 2000) = false := by simp; omega
    have HT := Lib.hid (takeR_long (f := sigT) hd)
    clear hd
    go_enter_defers Tryz.func42, Tryz.ntmps42
    go_wp2_with (go_at_call 111; refine (must_no _ _).mono ?_; rintro e w' ⟨rfl, rfl⟩)
    exact sig_door _ HT.out _ w _ (wSig_val w d) (wSig_err w d) (wSig_below w d) rfl rfl

set_option maxRecDepth 100000 in
theorem data_sig (d : ByteArray) (w : World) :
    Calls Tryz.prog 30 #[.string d] w (TakeP (sigV w.heap.size) (.agg #[.int .i64 0, .int .i64 0, .int .i64 0, .int .i64 0, .int .i64 0, .int .i64 0, .int .i64 0, .string ⟨#[]⟩, .string ⟨#[]⟩]) (takeR sigT d) w) := by
  have hmf := makeFunc_run
  go_enter Tryz.func30, Tryz.ntmps30
  go_wp2_with fail
  refine (take_sig d _).mono ?_
  rintro e w1 ⟨hb, h⟩
  have hk1 : Blk w1 w.heap.size #[.int .i64 0, .int .i64 0, .int .i64 0, .int .i64 0, .int .i64 0, .int .i64 0, .int .i64 0, .string ⟨#[]⟩, .string ⟨#[]⟩] 78 := (Blk.new w #[.int .i64 0, .int .i64 0, .int .i64 0, .int .i64 0, .int .i64 0, .int .i64 0, .int .i64 0, .string ⟨#[]⟩, .string ⟨#[]⟩] 78).below hb (by simp)
  have hB : Below w.heap.size w w1 := ((Below.refl _ w).alloc (Nat.le_refl _) _).trans (hb.mono (by simp))
  have c0 : w1.cell? ⟨w.heap.size, 0, none⟩ = some (.int .i64 0) := hk1.cell 0
  have c1 : w1.cell? ⟨w.heap.size, 1, none⟩ = some (.int .i64 0) := hk1.cell 1
  have c2 : w1.cell? ⟨w.heap.size, 2, none⟩ = some (.int .i64 0) := hk1.cell 2
  have c3 : w1.cell? ⟨w.heap.size, 3, none⟩ = some (.int .i64 0) := hk1.cell 3
  have c4 : w1.cell? ⟨w.heap.size, 4, none⟩ = some (.int .i64 0) := hk1.cell 4
  have c5 : w1.cell? ⟨w.heap.size, 5, none⟩ = some (.int .i64 0) := hk1.cell 5
  have c6 : w1.cell? ⟨w.heap.size, 6, none⟩ = some (.int .i64 0) := hk1.cell 6
  have c7 : w1.cell? ⟨w.heap.size, 7, none⟩ = some (.string ⟨#[]⟩) := hk1.cell 7
  have c8 : w1.cell? ⟨w.heap.size, 8, none⟩ = some (.string ⟨#[]⟩) := hk1.cell 8
  have f0 := fun j => hk1.free j
  have HK1 := Lib.hid hk1; have HB := Lib.hid hB; clear hk1 hb hB
  rcases h1 : takeR sigT d with _ | x
  · rw [h1] at h
    obtain rfl := h
    go_wp2
    refine bodyPost_ret (results2 rfl ⟨_, rfl, loadVar_blk (cs := #[.int .i64 0, .int .i64 0, .int .i64 0, .int .i64 0, .int .i64 0, .int .i64 0, .int .i64 0, .string ⟨#[]⟩, .string ⟨#[]⟩]) (t := 78) ?_ Tryz.underlying78 rfl info_Sig⟩ rfl) rfl ⟨?_, ?_⟩
    · simpa using (((((((((HK1.out.set 0 (.int .i64 0)).set 1 (.int .i64 0)).set 2 (.int .i64 0)).set 3 (.int .i64 0)).set 4 (.int .i64 0)).set 5 (.int .i64 0)).set 6 (.int .i64 0)).set 7 (.string ⟨#[]⟩)).set 8 (.string ⟨#[]⟩))
    · iterate 9 refine Below.setCell ?_ (by exact Nat.le_refl _) _
      exact HB.out
    · rw [h1]; rfl
  · rw [h1] at h
    obtain ⟨v, hv, rfl⟩ := h
    obtain rfl : v = x.v := hv
    simp only [SigR.v]
    go_wp2
    refine bodyPost_ret (results2 rfl ⟨_, rfl, loadVar_blk (cs := #[.int .i64 x.covered, .int .i64 x.alg, .int .i64 x.labels, .int .i64 x.ttl, .int .i64 x.fin, .int .i64 x.begin, .int .i64 x.tag, .string x.signer, .string x.sign]) (t := 78) ?_ Tryz.underlying78 rfl info_Sig⟩ rfl) rfl ⟨?_, ?_⟩
    · simpa using (((((((((HK1.out.set 0 (.int .i64 x.covered)).set 1 (.int .i64 x.alg)).set 2 (.int .i64 x.labels)).set 3 (.int .i64 x.ttl)).set 4 (.int .i64 x.fin)).set 5 (.int .i64 x.begin)).set 6 (.int .i64 x.tag)).set 7 (.string x.signer)).set 8 (.string x.sign))
    · iterate 9 refine Below.setCell ?_ (by exact Nat.le_refl _) _
      exact HB.out
    · rw [h1]; exact ⟨_, rfl, rfl⟩
end Go.Proofs.YtkhpcagoggglcaaGreatDoor

/- data.Soa: what such data have: the closure that takes them apart, data.take at this type, data.Soa itself. Lines printed by wip/tools/taker.py. -/
namespace Go.Proofs.YtkhpcagoggglcaaGreatDoor
open Go.RowKit

structure SoaR where
  primary : ByteArray
  mail : ByteArray
  serial : Int
  refresh : Int
  retry : Int
  expire : Int
  minimum : Int
def SoaR.v (x : SoaR) : Value := .agg #[.string x.primary, .string x.mail, .int .i64 x.serial, .int .i64 x.refresh, .int .i64 x.retry, .int .i64 x.expire, .int .i64 x.minimum]
def soaV (_lo : Nat) (x : SoaR) (_ : World) (v : Value) : Prop := v = x.v
def zSoa : Array Value := #[.string ⟨#[]⟩, .string ⟨#[]⟩, .int .i64 0, .int .i64 0, .int .i64 0, .int .i64 0, .int .i64 0]
theorem info_Soa : (Tryz.prog.info? 113).map (·.size) = some 7 := by kernel_rfl
/-- What is taken, and what is left. -/
def soaT (s : ByteArray) : Option (SoaR × ByteArray) :=
  match nameT s with
  | none => none
  | some (a1, s1) =>
    match nameT s1 with
    | none => none
    | some (a2, s2) =>
      match numT 4 s2 with
      | none => none
      | some (a3, s3) =>
        match numT 4 s3 with
        | none => none
        | some (a4, s4) =>
          match numT 4 s4 with
          | none => none
          | some (a5, s5) =>
            match numT 4 s5 with
            | none => none
            | some (a6, s6) =>
              match numT 4 s6 with
              | none => none
              | some (a7, s7) =>
                some (⟨a1, a2, a3, a4, a5, a6, a7⟩, s7)

set_option maxRecDepth 100000 in
set_option maxHeartbeats 1000000 in
theorem soa1_t (b : Nat) (s : ByteArray) (w : World) (hS : Src b s w) (hz : s.size ≤ 2000) :
    Calls Tryz.prog 133 #[.pointer (some ⟨b, 0, none⟩)] w (Took b w (soaT s) (soaV (w.heap.size + 1))) := by
  have hne : w.heap.size ≠ b := by have := hS.lt; omega
  have n : b ≠ w.heap.size := fun h => hne h.symm
  have HL := Lib.hid hS.lt
  have HQ0 := Lib.hid hS
  have HZ0 := Lib.hid hz
  clear hS hz
  go_enter Tryz.func133, Tryz.ntmps133
  go_wp2_with fail
  refine (name_t b s _ (HQ0.out.alloc _) HZ0.out).mono ?_
  rintro e W1 h
  rcases h1 : nameT s with _ | ⟨a1, s1⟩
  · rw [h1] at h
    obtain ⟨rfl, hO⟩ := h
    have hO2 : Only b w W1 := (Only.alloc w _).trans hO
    have hT : soaT s = none := by simp only [soaT, h1]
    first
      | (refine ⟨rfl, ?_⟩; rw [hT]; exact ⟨rfl, hO2⟩)
      | (simp only []; refine ⟨rfl, ?_⟩; rw [hT]; exact ⟨rfl, hO2⟩)
  rw [h1] at h
  obtain ⟨v1, rfl, hv, hS, hO⟩ := h
  have hO2 : Only b w W1 := (Only.alloc w _).trans hO
  obtain rfl : v1 = .string a1 := hv
  have hB2 := (Blk.new w #[.string ⟨#[]⟩, .string ⟨#[]⟩, .int .i64 0, .int .i64 0, .int .i64 0, .int .i64 0, .int .i64 0] 113).only hO hne
  have HZ1 := Lib.hid (Nat.le_trans (nameT_le h1) HZ0.out)
  have HB1 := Lib.hid hB2; have HQ1 := Lib.hid hS; have HO1 := Lib.hid hO2; have E1 := Lib.hid h1
  clear hB2 hS hO hO2 h1 
  go_wp2_with fail
  refine (name_t b s1 _ (HQ1.out) HZ1.out).mono ?_
  rintro e W2 h
  rcases h2 : nameT s1 with _ | ⟨a2, s2⟩
  · rw [h2] at h
    obtain ⟨rfl, hO⟩ := h
    have hO2 : Only b w W2 := (HO1.out).trans hO
    have hT : soaT s = none := by have e1 := E1.out; simp only [soaT, e1, h2]
    first
      | (refine ⟨rfl, ?_⟩; rw [hT]; exact ⟨rfl, hO2⟩)
      | (simp only []; refine ⟨rfl, ?_⟩; rw [hT]; exact ⟨rfl, hO2⟩)
  rw [h2] at h
  obtain ⟨v2, rfl, hv, hS, hO⟩ := h
  have hO2 : Only b w W2 := (HO1.out).trans hO
  obtain rfl : v2 = .string a2 := hv
  have hB2 := HB1.out.only hO hne
  have HZ2 := Lib.hid (Nat.le_trans (nameT_le h2) HZ1.out)
  have HB2 := Lib.hid hB2; have HQ2 := Lib.hid hS; have HO2 := Lib.hid hO2; have E2 := Lib.hid h2
  clear hB2 hS hO hO2 h2 
  have c0 : W2.cell? ⟨w.heap.size, 0, none⟩ = some (.string ⟨#[]⟩) := HB2.out.cell 0
  have c1 : W2.cell? ⟨w.heap.size, 1, none⟩ = some (.string ⟨#[]⟩) := HB2.out.cell 1
  have c2 : W2.cell? ⟨w.heap.size, 2, none⟩ = some (.int .i64 0) := HB2.out.cell 2
  have c3 : W2.cell? ⟨w.heap.size, 3, none⟩ = some (.int .i64 0) := HB2.out.cell 3
  have c4 : W2.cell? ⟨w.heap.size, 4, none⟩ = some (.int .i64 0) := HB2.out.cell 4
  have c5 : W2.cell? ⟨w.heap.size, 5, none⟩ = some (.int .i64 0) := HB2.out.cell 5
  have c6 : W2.cell? ⟨w.heap.size, 6, none⟩ = some (.int .i64 0) := HB2.out.cell 6
  have f0 := fun j => HB2.out.free j
  go_wp2_with fail
  refine wp_loop_rounds 6 ?_
  have hgn : W2.heap.size ≠ w.heap.size := by have := HB2.out.lt; omega
  have hgn2 : w.heap.size ≠ W2.heap.size := fun h => hgn h.symm
  have hgb : W2.heap.size ≠ b := by have := HL.out; have := HO2.out.size; omega
  rw [rounds_succ]
  go_wp2_with fail
  refine (number_t b s2 4 4 rfl _ ?_ (by omega)).mono ?_
  · skip
    refine Blk.alloc ?_ _
    iterate 2 refine Blk.other ?_ n _
    exact HQ2.out
  rintro e W3 h
  rcases h3 : numT 4 s2 with _ | ⟨a3, s3⟩
  · rw [h3] at h
    obtain ⟨rfl, hO⟩ := h
    have hO2 : Only b w W3 := by
      refine Only.trans ?_ hO
      refine Only.allocNew ?_ _
      iterate 2 refine Only.setNew ?_ (Nat.le_refl _) _
      exact HO2.out
    have hT : soaT s = none := by have e1 := E1.out; have e2 := E2.out; simp only [soaT, e1, e2, h3]
    first
      | (refine ⟨rfl, ?_⟩; rw [hT]; exact ⟨rfl, hO2⟩)
      | (simp only []; refine ⟨rfl, ?_⟩; rw [hT]; exact ⟨rfl, hO2⟩)
  rw [h3] at h
  obtain ⟨v3, rfl, hv, hS, hO⟩ := h
  have hO2 : Only b w W3 := by
    refine Only.trans ?_ hO
    refine Only.allocNew ?_ _
    iterate 2 refine Only.setNew ?_ (Nat.le_refl _) _
    exact HO2.out
  obtain rfl : v3 = .int .i64 a3 := hv
  have hB2 : Blk W3 w.heap.size #[.string a1, .string a2, .int .i64 0, .int .i64 0, .int .i64 0, .int .i64 0, .int .i64 0] 113 := by
    refine Blk.only (cs := #[.string a1, .string a2, .int .i64 0, .int .i64 0, .int .i64 0, .int .i64 0, .int .i64 0]) ?_ hO hne
    refine Blk.alloc ?_ _
    simpa using ((HB2.out.set 0 (.string a1)).set 1 (.string a2))
  have hG : Blk W3 W2.heap.size #[.pointer (some ⟨w.heap.size, 2, none⟩), .pointer (some ⟨w.heap.size, 3, none⟩), .pointer (some ⟨w.heap.size, 4, none⟩), .pointer (some ⟨w.heap.size, 5, none⟩), .pointer (some ⟨w.heap.size, 6, none⟩)] 188 := by
    have hN := Blk.new ((W2.setCell ⟨w.heap.size, 0, none⟩ (.string a1)).setCell ⟨w.heap.size, 1, none⟩ (.string a2)) #[.pointer (some ⟨w.heap.size, 2, none⟩), .pointer (some ⟨w.heap.size, 3, none⟩), .pointer (some ⟨w.heap.size, 4, none⟩), .pointer (some ⟨w.heap.size, 5, none⟩), .pointer (some ⟨w.heap.size, 6, none⟩)] 188
    refine Blk.only (cs := #[.pointer (some ⟨w.heap.size, 2, none⟩), .pointer (some ⟨w.heap.size, 3, none⟩), .pointer (some ⟨w.heap.size, 4, none⟩), .pointer (some ⟨w.heap.size, 5, none⟩), .pointer (some ⟨w.heap.size, 6, none⟩)]) ?_ hO hgb
    simpa using hN
  have HG3 := Lib.hid hG; clear hG
  have HZ3 := Lib.hid (Nat.le_trans (numT_le h3) HZ2.out)
  have HB3 := Lib.hid hB2; have HQ3 := Lib.hid hS; have HO3 := Lib.hid hO2; have E3 := Lib.hid h3
  clear hB2 hS hO hO2 h3 
  clear c0 c1 c2 c3 c4 c5 c6 f0
  have c0 : W3.cell? ⟨w.heap.size, 0, none⟩ = some (.string a1) := HB3.out.cell 0
  have c1 : W3.cell? ⟨w.heap.size, 1, none⟩ = some (.string a2) := HB3.out.cell 1
  have c2 : W3.cell? ⟨w.heap.size, 2, none⟩ = some (.int .i64 0) := HB3.out.cell 2
  have c3 : W3.cell? ⟨w.heap.size, 3, none⟩ = some (.int .i64 0) := HB3.out.cell 3
  have c4 : W3.cell? ⟨w.heap.size, 4, none⟩ = some (.int .i64 0) := HB3.out.cell 4
  have c5 : W3.cell? ⟨w.heap.size, 5, none⟩ = some (.int .i64 0) := HB3.out.cell 5
  have c6 : W3.cell? ⟨w.heap.size, 6, none⟩ = some (.int .i64 0) := HB3.out.cell 6
  have f0 := fun j => HB3.out.free j
  have cG : W3.cell? ⟨W2.heap.size, 1, none⟩ = some (.pointer (some ⟨w.heap.size, 3, none⟩)) := HG3.out.cell 1
  go_wp2_with fail
  rw [rounds_succ]
  go_wp2_with fail
  refine (number_t b s3 4 4 rfl _ ?_ (by omega)).mono ?_
  · skip
    iterate 1 refine Blk.other ?_ n _
    exact HQ3.out
  rintro e W4 h
  rcases h4 : numT 4 s3 with _ | ⟨a4, s4⟩
  · rw [h4] at h
    obtain ⟨rfl, hO⟩ := h
    have hO2 : Only b w W4 := by
      refine Only.trans ?_ hO
      iterate 1 refine Only.setNew ?_ (Nat.le_refl _) _
      exact HO3.out
    have hT : soaT s = none := by have e1 := E1.out; have e2 := E2.out; have e3 := E3.out; simp only [soaT, e1, e2, e3, h4]
    first
      | (refine ⟨rfl, ?_⟩; rw [hT]; exact ⟨rfl, hO2⟩)
      | (simp only []; refine ⟨rfl, ?_⟩; rw [hT]; exact ⟨rfl, hO2⟩)
  rw [h4] at h
  obtain ⟨v4, rfl, hv, hS, hO⟩ := h
  have hO2 : Only b w W4 := by
    refine Only.trans ?_ hO
    iterate 1 refine Only.setNew ?_ (Nat.le_refl _) _
    exact HO3.out
  obtain rfl : v4 = .int .i64 a4 := hv
  have hB2 : Blk W4 w.heap.size #[.string a1, .string a2, .int .i64 a3, .int .i64 0, .int .i64 0, .int .i64 0, .int .i64 0] 113 := by
    refine Blk.only (cs := #[.string a1, .string a2, .int .i64 a3, .int .i64 0, .int .i64 0, .int .i64 0, .int .i64 0]) ?_ hO hne
    simpa using (HB3.out.set 2 (.int .i64 a3))
  have HG4 : Hid (Blk W4 W2.heap.size #[.pointer (some ⟨w.heap.size, 2, none⟩), .pointer (some ⟨w.heap.size, 3, none⟩), .pointer (some ⟨w.heap.size, 4, none⟩), .pointer (some ⟨w.heap.size, 5, none⟩), .pointer (some ⟨w.heap.size, 6, none⟩)] 188) := Lib.hid ((HG3.out.other (p := ⟨w.heap.size, 2, none⟩) hgn _).only hO hgb)
  clear cG HG3
  have HZ4 := Lib.hid (Nat.le_trans (numT_le h4) HZ3.out)
  have HB4 := Lib.hid hB2; have HQ4 := Lib.hid hS; have HO4 := Lib.hid hO2; have E4 := Lib.hid h4
  clear hB2 hS hO hO2 h4 
  clear c0 c1 c2 c3 c4 c5 c6 f0
  have c0 : W4.cell? ⟨w.heap.size, 0, none⟩ = some (.string a1) := HB4.out.cell 0
  have c1 : W4.cell? ⟨w.heap.size, 1, none⟩ = some (.string a2) := HB4.out.cell 1
  have c2 : W4.cell? ⟨w.heap.size, 2, none⟩ = some (.int .i64 a3) := HB4.out.cell 2
  have c3 : W4.cell? ⟨w.heap.size, 3, none⟩ = some (.int .i64 0) := HB4.out.cell 3
  have c4 : W4.cell? ⟨w.heap.size, 4, none⟩ = some (.int .i64 0) := HB4.out.cell 4
  have c5 : W4.cell? ⟨w.heap.size, 5, none⟩ = some (.int .i64 0) := HB4.out.cell 5
  have c6 : W4.cell? ⟨w.heap.size, 6, none⟩ = some (.int .i64 0) := HB4.out.cell 6
  have f0 := fun j => HB4.out.free j
  have cG : W4.cell? ⟨W2.heap.size, 2, none⟩ = some (.pointer (some ⟨w.heap.size, 4, none⟩)) := HG4.out.cell 2
  go_wp2_with fail
  rw [rounds_succ]
  go_wp2_with fail
  refine (number_t b s4 4 4 rfl _ ?_ (by omega)).mono ?_
  · skip
    iterate 1 refine Blk.other ?_ n _
    exact HQ4.out
  rintro e W5 h
  rcases h5 : numT 4 s4 with _ | ⟨a5, s5⟩
  · rw [h5] at h
    obtain ⟨rfl, hO⟩ := h
    have hO2 : Only b w W5 := by
      refine Only.trans ?_ hO
      iterate 1 refine Only.setNew ?_ (Nat.le_refl _) _
      exact HO4.out
    have hT : soaT s = none := by have e1 := E1.out; have e2 := E2.out; have e3 := E3.out; have e4 := E4.out; simp only [soaT, e1, e2, e3, e4, h5]
    first
      | (refine ⟨rfl, ?_⟩; rw [hT]; exact ⟨rfl, hO2⟩)
      | (simp only []; refine ⟨rfl, ?_⟩; rw [hT]; exact ⟨rfl, hO2⟩)
  rw [h5] at h
  obtain ⟨v5, rfl, hv, hS, hO⟩ := h
  have hO2 : Only b w W5 := by
    refine Only.trans ?_ hO
    iterate 1 refine Only.setNew ?_ (Nat.le_refl _) _
    exact HO4.out
  obtain rfl : v5 = .int .i64 a5 := hv
  have hB2 : Blk W5 w.heap.size #[.string a1, .string a2, .int .i64 a3, .int .i64 a4, .int .i64 0, .int .i64 0, .int .i64 0] 113 := by
    refine Blk.only (cs := #[.string a1, .string a2, .int .i64 a3, .int .i64 a4, .int .i64 0, .int .i64 0, .int .i64 0]) ?_ hO hne
    simpa using (HB4.out.set 3 (.int .i64 a4))
  have HG5 : Hid (Blk W5 W2.heap.size #[.pointer (some ⟨w.heap.size, 2, none⟩), .pointer (some ⟨w.heap.size, 3, none⟩), .pointer (some ⟨w.heap.size, 4, none⟩), .pointer (some ⟨w.heap.size, 5, none⟩), .pointer (some ⟨w.heap.size, 6, none⟩)] 188) := Lib.hid ((HG4.out.other (p := ⟨w.heap.size, 3, none⟩) hgn _).only hO hgb)
  clear cG HG4
  have HZ5 := Lib.hid (Nat.le_trans (numT_le h5) HZ4.out)
  have HB5 := Lib.hid hB2; have HQ5 := Lib.hid hS; have HO5 := Lib.hid hO2; have E5 := Lib.hid h5
  clear hB2 hS hO hO2 h5 
  clear c0 c1 c2 c3 c4 c5 c6 f0
  have c0 : W5.cell? ⟨w.heap.size, 0, none⟩ = some (.string a1) := HB5.out.cell 0
  have c1 : W5.cell? ⟨w.heap.size, 1, none⟩ = some (.string a2) := HB5.out.cell 1
  have c2 : W5.cell? ⟨w.heap.size, 2, none⟩ = some (.int .i64 a3) := HB5.out.cell 2
  have c3 : W5.cell? ⟨w.heap.size, 3, none⟩ = some (.int .i64 a4) := HB5.out.cell 3
  have c4 : W5.cell? ⟨w.heap.size, 4, none⟩ = some (.int .i64 0) := HB5.out.cell 4
  have c5 : W5.cell? ⟨w.heap.size, 5, none⟩ = some (.int .i64 0) := HB5.out.cell 5
  have c6 : W5.cell? ⟨w.heap.size, 6, none⟩ = some (.int .i64 0) := HB5.out.cell 6
  have f0 := fun j => HB5.out.free j
  have cG : W5.cell? ⟨W2.heap.size, 3, none⟩ = some (.pointer (some ⟨w.heap.size, 5, none⟩)) := HG5.out.cell 3
  go_wp2_with fail
  rw [rounds_succ]
  go_wp2_with fail
  refine (number_t b s5 4 4 rfl _ ?_ (by omega)).mono ?_
  · skip
    iterate 1 refine Blk.other ?_ n _
    exact HQ5.out
  rintro e W6 h
  rcases h6 : numT 4 s5 with _ | ⟨a6, s6⟩
  · rw [h6] at h
    obtain ⟨rfl, hO⟩ := h
    have hO2 : Only b w W6 := by
      refine Only.trans ?_ hO
      iterate 1 refine Only.setNew ?_ (Nat.le_refl _) _
      exact HO5.out
    have hT : soaT s = none := by have e1 := E1.out; have e2 := E2.out; have e3 := E3.out; have e4 := E4.out; have e5 := E5.out; simp only [soaT, e1, e2, e3, e4, e5, h6]
    first
      | (refine ⟨rfl, ?_⟩; rw [hT]; exact ⟨rfl, hO2⟩)
      | (simp only []; refine ⟨rfl, ?_⟩; rw [hT]; exact ⟨rfl, hO2⟩)
  rw [h6] at h
  obtain ⟨v6, rfl, hv, hS, hO⟩ := h
  have hO2 : Only b w W6 := by
    refine Only.trans ?_ hO
    iterate 1 refine Only.setNew ?_ (Nat.le_refl _) _
    exact HO5.out
  obtain rfl : v6 = .int .i64 a6 := hv
  have hB2 : Blk W6 w.heap.size #[.string a1, .string a2, .int .i64 a3, .int .i64 a4, .int .i64 a5, .int .i64 0, .int .i64 0] 113 := by
    refine Blk.only (cs := #[.string a1, .string a2, .int .i64 a3, .int .i64 a4, .int .i64 a5, .int .i64 0, .int .i64 0]) ?_ hO hne
    simpa using (HB5.out.set 4 (.int .i64 a5))
  have HG6 : Hid (Blk W6 W2.heap.size #[.pointer (some ⟨w.heap.size, 2, none⟩), .pointer (some ⟨w.heap.size, 3, none⟩), .pointer (some ⟨w.heap.size, 4, none⟩), .pointer (some ⟨w.heap.size, 5, none⟩), .pointer (some ⟨w.heap.size, 6, none⟩)] 188) := Lib.hid ((HG5.out.other (p := ⟨w.heap.size, 4, none⟩) hgn _).only hO hgb)
  clear cG HG5
  have HZ6 := Lib.hid (Nat.le_trans (numT_le h6) HZ5.out)
  have HB6 := Lib.hid hB2; have HQ6 := Lib.hid hS; have HO6 := Lib.hid hO2; have E6 := Lib.hid h6
  clear hB2 hS hO hO2 h6 
  clear c0 c1 c2 c3 c4 c5 c6 f0
  have c0 : W6.cell? ⟨w.heap.size, 0, none⟩ = some (.string a1) := HB6.out.cell 0
  have c1 : W6.cell? ⟨w.heap.size, 1, none⟩ = some (.string a2) := HB6.out.cell 1
  have c2 : W6.cell? ⟨w.heap.size, 2, none⟩ = some (.int .i64 a3) := HB6.out.cell 2
  have c3 : W6.cell? ⟨w.heap.size, 3, none⟩ = some (.int .i64 a4) := HB6.out.cell 3
  have c4 : W6.cell? ⟨w.heap.size, 4, none⟩ = some (.int .i64 a5) := HB6.out.cell 4
  have c5 : W6.cell? ⟨w.heap.size, 5, none⟩ = some (.int .i64 0) := HB6.out.cell 5
  have c6 : W6.cell? ⟨w.heap.size, 6, none⟩ = some (.int .i64 0) := HB6.out.cell 6
  have f0 := fun j => HB6.out.free j
  have cG : W6.cell? ⟨W2.heap.size, 4, none⟩ = some (.pointer (some ⟨w.heap.size, 6, none⟩)) := HG6.out.cell 4
  go_wp2_with fail
  rw [rounds_succ]
  go_wp2_with fail
  refine (number_t b s6 4 4 rfl _ ?_ (by omega)).mono ?_
  · skip
    iterate 1 refine Blk.other ?_ n _
    exact HQ6.out
  rintro e W7 h
  rcases h7 : numT 4 s6 with _ | ⟨a7, s7⟩
  · rw [h7] at h
    obtain ⟨rfl, hO⟩ := h
    have hO2 : Only b w W7 := by
      refine Only.trans ?_ hO
      iterate 1 refine Only.setNew ?_ (Nat.le_refl _) _
      exact HO6.out
    have hT : soaT s = none := by have e1 := E1.out; have e2 := E2.out; have e3 := E3.out; have e4 := E4.out; have e5 := E5.out; have e6 := E6.out; simp only [soaT, e1, e2, e3, e4, e5, e6, h7]
    first
      | (refine ⟨rfl, ?_⟩; rw [hT]; exact ⟨rfl, hO2⟩)
      | (simp only []; refine ⟨rfl, ?_⟩; rw [hT]; exact ⟨rfl, hO2⟩)
  rw [h7] at h
  obtain ⟨v7, rfl, hv, hS, hO⟩ := h
  have hO2 : Only b w W7 := by
    refine Only.trans ?_ hO
    iterate 1 refine Only.setNew ?_ (Nat.le_refl _) _
    exact HO6.out
  obtain rfl : v7 = .int .i64 a7 := hv
  have hB2 : Blk W7 w.heap.size #[.string a1, .string a2, .int .i64 a3, .int .i64 a4, .int .i64 a5, .int .i64 a6, .int .i64 0] 113 := by
    refine Blk.only (cs := #[.string a1, .string a2, .int .i64 a3, .int .i64 a4, .int .i64 a5, .int .i64 a6, .int .i64 0]) ?_ hO hne
    simpa using (HB6.out.set 5 (.int .i64 a6))
  have HG7 : Hid (Blk W7 W2.heap.size #[.pointer (some ⟨w.heap.size, 2, none⟩), .pointer (some ⟨w.heap.size, 3, none⟩), .pointer (some ⟨w.heap.size, 4, none⟩), .pointer (some ⟨w.heap.size, 5, none⟩), .pointer (some ⟨w.heap.size, 6, none⟩)] 188) := Lib.hid ((HG6.out.other (p := ⟨w.heap.size, 5, none⟩) hgn _).only hO hgb)
  clear cG HG6
  have HZ7 := Lib.hid (Nat.le_trans (numT_le h7) HZ6.out)
  have HB7 := Lib.hid hB2; have HQ7 := Lib.hid hS; have HO7 := Lib.hid hO2; have E7 := Lib.hid h7
  clear hB2 hS hO hO2 h7 
  clear c0 c1 c2 c3 c4 c5 c6 f0
  have c0 : W7.cell? ⟨w.heap.size, 0, none⟩ = some (.string a1) := HB7.out.cell 0
  have c1 : W7.cell? ⟨w.heap.size, 1, none⟩ = some (.string a2) := HB7.out.cell 1
  have c2 : W7.cell? ⟨w.heap.size, 2, none⟩ = some (.int .i64 a3) := HB7.out.cell 2
  have c3 : W7.cell? ⟨w.heap.size, 3, none⟩ = some (.int .i64 a4) := HB7.out.cell 3
  have c4 : W7.cell? ⟨w.heap.size, 4, none⟩ = some (.int .i64 a5) := HB7.out.cell 4
  have c5 : W7.cell? ⟨w.heap.size, 5, none⟩ = some (.int .i64 a6) := HB7.out.cell 5
  have c6 : W7.cell? ⟨w.heap.size, 6, none⟩ = some (.int .i64 0) := HB7.out.cell 6
  have f0 := fun j => HB7.out.free j
  go_wp2_with fail
  rw [rounds_succ]
  go_wp2_with fail
  have hF : Blk ((((((((W7.setCell ⟨w.heap.size, 6, none⟩ (.int .i64 a7)).setCell ⟨w.heap.size, 0, none⟩ (.string a1)).setCell ⟨w.heap.size, 1, none⟩ (.string a2)).setCell ⟨w.heap.size, 2, none⟩ (.int .i64 a3)).setCell ⟨w.heap.size, 3, none⟩ (.int .i64 a4)).setCell ⟨w.heap.size, 4, none⟩ (.int .i64 a5)).setCell ⟨w.heap.size, 5, none⟩ (.int .i64 a6)).setCell ⟨w.heap.size, 6, none⟩ (.int .i64 a7)) w.heap.size #[.string a1, .string a2, .int .i64 a3, .int .i64 a4, .int .i64 a5, .int .i64 a6, .int .i64 a7] 113 := by
    simpa using ((((((((HB7.out.set 6 (.int .i64 a7)).set 0 (.string a1)).set 1 (.string a2)).set 2 (.int .i64 a3)).set 3 (.int .i64 a4)).set 4 (.int .i64 a5)).set 5 (.int .i64 a6)).set 6 (.int .i64 a7))
  have hT : soaT s = some (⟨a1, a2, a3, a4, a5, a6, a7⟩, s7) := by have e1 := E1.out; have e2 := E2.out; have e3 := E3.out; have e4 := E4.out; have e5 := E5.out; have e6 := E6.out; have e7 := E7.out; simp only [soaT, e1, e2, e3, e4, e5, e6, e7]
  refine bodyPost_ret (results1 rfl ⟨_, rfl, loadVar_blk hF Tryz.underlying113 rfl info_Soa⟩) rfl ?_
  rw [hT]
  refine ⟨_, rfl, rfl, ?_, ?_⟩
  · iterate 8 refine Blk.other ?_ n _
    exact HQ7.out
  · iterate 8 refine Only.setNew ?_ (Nat.le_refl _) _
    exact HO7.out
set_option maxRecDepth 100000 in
theorem soa_panic (B n m : Nat) {v0 v1 v2 v3 v4 v5 v6 : Value} (w : World) (h0 : Blk w n #[v0, v1, v2, v3, v4, v5, v6] 113) (h1 : Blk w m #[.int .i64 0] 25) (hne : n ≠ m) (hBn : B ≤ n) (hBm : B ≤ m) :
    CallsD Tryz.prog 186 #[.pointer (some ⟨n, 0, none⟩), .pointer (some ⟨m, 0, none⟩)] (.panicking [{ v := .iface 162 (.agg #[]), recovered := false }]) w fun e u' w' =>
      e = .returned (.tuple #[]) ∧ u' = .panicking [{ v := .iface 162 (.agg #[]), recovered := true }] ∧ Blk w' n #[.string ⟨#[]⟩, .string ⟨#[]⟩, .int .i64 0, .int .i64 0, .int .i64 0, .int .i64 0, .int .i64 0] 113 ∧ Blk w' m #[.int .i64 6] 25 ∧ Below B w w' := by
  refine callsD_of_wpS Tryz.func186 rfl fun c₀ cs hu => ?_
  simp only [Tryz.ntmps186, List.size_toArray, List.length_cons, List.length_nil, Nat.reduceAdd, Nat.reduceSub, Array.replicate_succ, Array.replicate_zero, List.push_toArray, List.append_toArray, List.nil_append, List.cons_append]
  apply wpS_seq
  apply wpS_region
  simp [wpOpsS, go_sem, recoverD, hu, Exit.thenS]
  refine wpS_of_wp (wp_mono (Q := fun e a' w' => e = .normal ∧ a'.defers = [] ∧ Blk w' n #[.string ⟨#[]⟩, .string ⟨#[]⟩, .int .i64 0, .int .i64 0, .int .i64 0, .int .i64 0, .int .i64 0] 113 ∧ Blk w' m #[.int .i64 6] 25 ∧ Below B w w') ?_ ?_)
  · have c0 : w.cell? ⟨n, 0, none⟩ = some v0 := h0.cell 0
    have c1 : w.cell? ⟨n, 1, none⟩ = some v1 := h0.cell 1
    have c2 : w.cell? ⟨n, 2, none⟩ = some v2 := h0.cell 2
    have c3 : w.cell? ⟨n, 3, none⟩ = some v3 := h0.cell 3
    have c4 : w.cell? ⟨n, 4, none⟩ = some v4 := h0.cell 4
    have c5 : w.cell? ⟨n, 5, none⟩ = some v5 := h0.cell 5
    have c6 : w.cell? ⟨n, 6, none⟩ = some v6 := h0.cell 6
    have e0 : w.cell? ⟨m, 0, none⟩ = some (.int .i64 0) := h1.cell 0
    have f0 := fun j => h0.free j
    have f1 := fun j => h1.free j
    have l0 := h0.lt
    have l1 := h1.lt
    have H0 := Lib.hid h0; have H1 := Lib.hid h1; clear h0 h1
    generalize hQ : (fun (e : Exit) (a' : Act) (w' : World) => e = Exit.normal ∧ a'.defers = [] ∧ Blk w' n #[.string ⟨#[]⟩, .string ⟨#[]⟩, .int .i64 0, .int .i64 0, .int .i64 0, .int .i64 0, .int .i64 0] 113 ∧ Blk w' m #[.int .i64 6] 25 ∧ Below B w w') = Q
    have HQ := Lib.hid hQ; clear hQ
    have hta := assert_stop
    go_wp2
    rw [← HQ.out]
    refine ⟨rfl, rfl, ?_, ?_, ?_⟩
    · refine Blk.alloc (Blk.alloc (Blk.other ?_ hne _) _) _
      simpa using (((((((H0.out.set 0 (.string ⟨#[]⟩)).set 1 (.string ⟨#[]⟩)).set 2 (.int .i64 0)).set 3 (.int .i64 0)).set 4 (.int .i64 0)).set 5 (.int .i64 0)).set 6 (.int .i64 0))
    · refine Blk.alloc (Blk.alloc (Blk.set (cs := #[.int .i64 0]) ?_ 0 _) _) _
      iterate 7 refine Blk.other ?_ (fun h => hne h.symm) _
      exact H1.out
    · refine Below.alloc (Below.alloc ?_ (by simp; omega) _) (by simp; omega) _
      refine Below.setCell ?_ (by simpa using hBm) _
      iterate 7 refine Below.setCell ?_ (by simpa using hBn) _
      exact Below.refl _ _
  · rintro e a w' ⟨rfl, hd, q⟩
    exact ⟨hd, _, rfl, _, results_none rfl _ _ _, rfl, rfl, q⟩

theorem soa_idle (n m : Nat) (w : World) :
    CallsD Tryz.prog 186 #[.pointer (some ⟨n, 0, none⟩), .pointer (some ⟨m, 0, none⟩)] .returning w fun e u' w' => e = .returned (.tuple #[]) ∧ u' = .returning ∧ w' = w := by
  refine callsD_of_wpS Tryz.func186 rfl fun c₀ cs hu => ?_
  simp only [Tryz.ntmps186, List.size_toArray, List.length_cons, List.length_nil, Nat.reduceAdd, Nat.reduceSub, Array.replicate_succ, Array.replicate_zero, List.push_toArray, List.append_toArray, List.nil_append, List.cons_append]
  apply wpS_seq
  apply wpS_region
  simp [wpOpsS, go_sem, recoverD, hu, Exit.thenS]
  refine wpS_of_wp (wp_mono (Q := fun e a' w' => e = .normal ∧ a'.defers = [] ∧ w' = w) ?_ ?_)
  · generalize hQ : (fun (e : Exit) (a' : Act) (w' : World) => e = Exit.normal ∧ a'.defers = [] ∧ w' = w) = Q
    have HQ := Lib.hid hQ; clear hQ
    go_wp2
    rw [← HQ.out]
    exact ⟨rfl, rfl, rfl⟩
  · rintro e a w' ⟨rfl, hd, rfl⟩
    cases c₀
    simp at hu
    subst hu
    exact ⟨hd, _, rfl, _, results_none rfl _ _ _, rfl, rfl, rfl⟩

/-- The world in which take calls its function. -/
def wSoa (w : World) (d : ByteArray) : World := ((w.alloc (.cells #[.string ⟨#[]⟩, .string ⟨#[]⟩, .int .i64 0, .int .i64 0, .int .i64 0, .int .i64 0, .int .i64 0] 113)).alloc (.cells #[.int .i64 0] 25)).alloc (.cells #[.string d] 165)
theorem wSoa_src (w : World) (d : ByteArray) : Src (w.heap.size + 1 + 1) d (wSoa w d) := by
  have := Blk.new ((w.alloc (.cells #[.string ⟨#[]⟩, .string ⟨#[]⟩, .int .i64 0, .int .i64 0, .int .i64 0, .int .i64 0, .int .i64 0] 113)).alloc (.cells #[.int .i64 0] 25)) #[.string d] 165
  simpa [wSoa, Src] using this
theorem wSoa_val (w : World) (d : ByteArray) : Blk (wSoa w d) w.heap.size #[.string ⟨#[]⟩, .string ⟨#[]⟩, .int .i64 0, .int .i64 0, .int .i64 0, .int .i64 0, .int .i64 0] 113 := ((Blk.new w #[.string ⟨#[]⟩, .string ⟨#[]⟩, .int .i64 0, .int .i64 0, .int .i64 0, .int .i64 0, .int .i64 0] 113).alloc _).alloc _
theorem wSoa_err (w : World) (d : ByteArray) : Blk (wSoa w d) (w.heap.size + 1) #[.int .i64 0] 25 := by
  have := (Blk.new (w.alloc (.cells #[.string ⟨#[]⟩, .string ⟨#[]⟩, .int .i64 0, .int .i64 0, .int .i64 0, .int .i64 0, .int .i64 0] 113)) #[.int .i64 0] 25).alloc (.cells #[.string d] 165)
  simpa [wSoa] using this
theorem wSoa_below (w : World) (d : ByteArray) : Below w.heap.size w (wSoa w d) := (((Below.refl _ w).alloc (Nat.le_refl _) _).alloc (by simp) _).alloc (by simp; omega) _

/-- Behind the door, where something panicked. -/
theorem soa_door (p : Option SoaR) (hp : p = none) (tmps : Array Value) {v0 v1 v2 v3 v4 v5 v6 : Value} (w w1 : World) (hk : Blk w1 w.heap.size #[v0, v1, v2, v3, v4, v5, v6] 113) (he : Blk w1 (w.heap.size + 1) #[.int .i64 0] 25) (hb : Below w.heap.size w w1)
    (h4 : tmps.getD 4 undef = .pointer (some ⟨w.heap.size, 0, none⟩)) (h5 : tmps.getD 5 undef = .pointer (some ⟨w.heap.size + 1, 0, none⟩)) :
    bodyPostD Tryz.prog Tryz.f132 (TakeP (soaV (w.heap.size + 1)) (.agg #[.string ⟨#[]⟩, .string ⟨#[]⟩, .int .i64 0, .int .i64 0, .int .i64 0, .int .i64 0, .int .i64 0]) p w) (.panic stopC)
      { tmps := tmps, defers := [{ target := .fn (.func 186) #[.pointer (some ⟨w.heap.size, 0, none⟩), .pointer (some ⟨w.heap.size + 1, 0, none⟩)], args := #[] }] } w1 := by
  subst hp
  refine leaves_cons (f := 186) (args := #[.pointer (some ⟨w.heap.size, 0, none⟩), .pointer (some ⟨w.heap.size + 1, 0, none⟩)]) (by simp) (by simp [go_sem]) ?_
  refine (soa_panic w.heap.size _ _ w1 hk he (by omega) (Nat.le_refl _) (by omega)).mono ?_
  rintro e u' w2 ⟨rfl, rfl, hk2, he2, hb2⟩
  exact ⟨_, results2 rfl ⟨_, h4, loadVar_blk hk2 Tryz.underlying113 rfl info_Soa⟩ ⟨_, h5, loadVar_int he2 Tryz.underlying25⟩, hb.trans hb2, rfl⟩

set_option maxRecDepth 100000 in
set_option maxHeartbeats 1000000 in
theorem take_soa (d : ByteArray) (w : World) :
    Calls Tryz.prog 132 #[.string d, .func (.func 133) #[] #[]] w (TakeP (soaV (w.heap.size + 1)) (.agg #[.string ⟨#[]⟩, .string ⟨#[]⟩, .int .i64 0, .int .i64 0, .int .i64 0, .int .i64 0, .int .i64 0]) (takeR soaT d) w) := by
  have hmf := makeFunc_run
  by_cases hd : d.size ≤ 2000
  · have hd' : decide ((d.size : Int) ≤ 2000) = true := by simp; omega
    have HD := Lib.hid hd; clear hd
    go_enter_defers Tryz.func132, Tryz.ntmps132
    go_wp2_with (go_at_call 111; refine (must_ok _ _).mono ?_; rintro e w' ⟨rfl, rfl⟩)
    refine (soa1_t (w.heap.size + 1 + 1) d _ (wSoa_src w d) HD.out).mono ?_
    rintro e w1 h
    rcases h1 : soaT d with _ | ⟨x, r⟩
    · rw [h1] at h
      obtain ⟨rfl, hO⟩ := h
      exact soa_door _ (takeR_none h1) _ w w1 ((wSoa_val w d).only hO (by omega)) ((wSoa_err w d).only hO (by omega)) ((wSoa_below w d).trans (hO.belowOf (by omega) (by simp [wSoa]; omega))) rfl rfl
    rw [h1] at h
    obtain ⟨v, rfl, hv, hS, hO⟩ := h
    obtain rfl : v = x.v := hv
    have hk1 := (wSoa_val w d).only hO (by omega)
    have he1 := (wSoa_err w d).only hO (by omega)
    have hB1 := (wSoa_below w d).trans (hO.belowOf (B := w.heap.size) (by omega) (by simp [wSoa]; omega))
    have c0 : w1.cell? ⟨w.heap.size, 0, none⟩ = some (.string ⟨#[]⟩) := hk1.cell 0
    have c1 : w1.cell? ⟨w.heap.size, 1, none⟩ = some (.string ⟨#[]⟩) := hk1.cell 1
    have c2 : w1.cell? ⟨w.heap.size, 2, none⟩ = some (.int .i64 0) := hk1.cell 2
    have c3 : w1.cell? ⟨w.heap.size, 3, none⟩ = some (.int .i64 0) := hk1.cell 3
    have c4 : w1.cell? ⟨w.heap.size, 4, none⟩ = some (.int .i64 0) := hk1.cell 4
    have c5 : w1.cell? ⟨w.heap.size, 5, none⟩ = some (.int .i64 0) := hk1.cell 5
    have c6 : w1.cell? ⟨w.heap.size, 6, none⟩ = some (.int .i64 0) := hk1.cell 6
    have e0 : w1.cell? ⟨w.heap.size + 1, 0, none⟩ = some (.int .i64 0) := he1.cell 0
    have e5 : w1.cell? ⟨w.heap.size + 1 + 1, 0, none⟩ = some (.string r) := hS.cell 0
    have f0 := fun j => hk1.free j
    have f1 := fun j => he1.free j
    have HK1 := Lib.hid hk1; have HE1 := Lib.hid he1; have HB1 := Lib.hid hB1; have H1 := Lib.hid h1
    clear hk1 he1 hB1 hO hS h1
    simp only [SoaR.v]
    by_cases hr : r.size = 0
    · obtain rfl := size_empty hr
      clear hr
      go_wp2_with (go_at_call 111; refine (must_ok _ _).mono ?_; rintro e w' ⟨rfl, rfl⟩)
      refine leaves_cons (f := 186) (args := #[.pointer (some ⟨w.heap.size, 0, none⟩), .pointer (some ⟨w.heap.size + 1, 0, none⟩)]) (by simp) (by simp [go_sem]) ?_
      refine (soa_idle _ _ _).mono ?_
      rintro e u' w2 ⟨rfl, rfl, rfl⟩
      refine ⟨_, results2 rfl ⟨_, rfl, loadVar_blk (cs := #[.string x.primary, .string x.mail, .int .i64 x.serial, .int .i64 x.refresh, .int .i64 x.retry, .int .i64 x.expire, .int .i64 x.minimum]) (t := 113) ?_ Tryz.underlying113 rfl info_Soa⟩ ⟨_, rfl, loadVar_int (t := 25) (v := .int .i64 0) ?_ Tryz.underlying25⟩, ?_, ?_⟩
      · refine Blk.other ?_ (by simp) _
        simpa using ((((((((((((((HK1.out.set 0 (.string x.primary)).set 1 (.string x.mail)).set 2 (.int .i64 x.serial)).set 3 (.int .i64 x.refresh)).set 4 (.int .i64 x.retry)).set 5 (.int .i64 x.expire)).set 6 (.int .i64 x.minimum)).set 0 (.string x.primary)).set 1 (.string x.mail)).set 2 (.int .i64 x.serial)).set 3 (.int .i64 x.refresh)).set 4 (.int .i64 x.retry)).set 5 (.int .i64 x.expire)).set 6 (.int .i64 x.minimum))
      · refine Blk.set (cs := #[.int .i64 0]) ?_ 0 _
        iterate 14 refine Blk.other ?_ (by simp) _
        exact HE1.out
      · refine Below.setCell ?_ (by simp) _
        iterate 14 refine Below.setCell ?_ (by exact Nat.le_refl _) _
        exact HB1.out
      · rw [takeR_some HD.out H1.out rfl]
        exact ⟨_, rfl, rfl⟩
    · have he := toList_isEmpty hr
      have hT := takeR_left H1.out hr
      have HT := Lib.hid hT; clear hT hr
      go_wp2_with (go_at_call 111; refine (must_no _ _).mono ?_; rintro e w' ⟨rfl, rfl⟩)
      refine soa_door _ HT.out _ (v0 := .string x.primary) (v1 := .string x.mail) (v2 := .int .i64 x.serial) (v3 := .int .i64 x.refresh) (v4 := .int .i64 x.retry) (v5 := .int .i64 x.expire) (v6 := .int .i64 x.minimum) (w := w) (w1 := _) (hk := ?_) (he := ?_) (hb := ?_) rfl rfl
      · exact (by simpa using (((((((HK1.out.set 0 (.string x.primary)).set 1 (.string x.mail)).set 2 (.int .i64 x.serial)).set 3 (.int .i64 x.refresh)).set 4 (.int .i64 x.retry)).set 5 (.int .i64 x.expire)).set 6 (.int .i64 x.minimum)) : Blk _ w.heap.size #[.string x.primary, .string x.mail, .int .i64 x.serial, .int .i64 x.refresh, .int .i64 x.retry, .int .i64 x.expire, .int .i64 x.minimum] 113)
      · iterate 7 refine Blk.other ?_ (by simp) _
        exact HE1.out
      · iterate 7 refine Below.setCell ?_ (by exact Nat.le_refl _) _
        exact HB1.out
  · have hd' : decide ((d.size : Int) ≤ 2000) = false := by simp; omega
    have HT := Lib.hid (takeR_long (f := soaT) hd)
    clear hd
    go_enter_defers Tryz.func132, Tryz.ntmps132
    go_wp2_with (go_at_call 111; refine (must_no _ _).mono ?_; rintro e w' ⟨rfl, rfl⟩)
    exact soa_door _ HT.out _ w _ (wSoa_val w d) (wSoa_err w d) (wSoa_below w d) rfl rfl

set_option maxRecDepth 100000 in
theorem data_soa (d : ByteArray) (w : World) :
    Calls Tryz.prog 63 #[.string d] w (TakeP (soaV w.heap.size) (.agg #[.string ⟨#[]⟩, .string ⟨#[]⟩, .int .i64 0, .int .i64 0, .int .i64 0, .int .i64 0, .int .i64 0]) (takeR soaT d) w) := by
  have hmf := makeFunc_run
  go_enter Tryz.func63, Tryz.ntmps63
  go_wp2_with fail
  refine (take_soa d _).mono ?_
  rintro e w1 ⟨hb, h⟩
  have hk1 : Blk w1 w.heap.size #[.string ⟨#[]⟩, .string ⟨#[]⟩, .int .i64 0, .int .i64 0, .int .i64 0, .int .i64 0, .int .i64 0] 113 := (Blk.new w #[.string ⟨#[]⟩, .string ⟨#[]⟩, .int .i64 0, .int .i64 0, .int .i64 0, .int .i64 0, .int .i64 0] 113).below hb (by simp)
  have hB : Below w.heap.size w w1 := ((Below.refl _ w).alloc (Nat.le_refl _) _).trans (hb.mono (by simp))
  have c0 : w1.cell? ⟨w.heap.size, 0, none⟩ = some (.string ⟨#[]⟩) := hk1.cell 0
  have c1 : w1.cell? ⟨w.heap.size, 1, none⟩ = some (.string ⟨#[]⟩) := hk1.cell 1
  have c2 : w1.cell? ⟨w.heap.size, 2, none⟩ = some (.int .i64 0) := hk1.cell 2
  have c3 : w1.cell? ⟨w.heap.size, 3, none⟩ = some (.int .i64 0) := hk1.cell 3
  have c4 : w1.cell? ⟨w.heap.size, 4, none⟩ = some (.int .i64 0) := hk1.cell 4
  have c5 : w1.cell? ⟨w.heap.size, 5, none⟩ = some (.int .i64 0) := hk1.cell 5
  have c6 : w1.cell? ⟨w.heap.size, 6, none⟩ = some (.int .i64 0) := hk1.cell 6
  have f0 := fun j => hk1.free j
  have HK1 := Lib.hid hk1; have HB := Lib.hid hB; clear hk1 hb hB
  rcases h1 : takeR soaT d with _ | x
  · rw [h1] at h
    obtain rfl := h
    go_wp2
    refine bodyPost_ret (results2 rfl ⟨_, rfl, loadVar_blk (cs := #[.string ⟨#[]⟩, .string ⟨#[]⟩, .int .i64 0, .int .i64 0, .int .i64 0, .int .i64 0, .int .i64 0]) (t := 113) ?_ Tryz.underlying113 rfl info_Soa⟩ rfl) rfl ⟨?_, ?_⟩
    · simpa using (((((((HK1.out.set 0 (.string ⟨#[]⟩)).set 1 (.string ⟨#[]⟩)).set 2 (.int .i64 0)).set 3 (.int .i64 0)).set 4 (.int .i64 0)).set 5 (.int .i64 0)).set 6 (.int .i64 0))
    · iterate 7 refine Below.setCell ?_ (by exact Nat.le_refl _) _
      exact HB.out
    · rw [h1]; rfl
  · rw [h1] at h
    obtain ⟨v, hv, rfl⟩ := h
    obtain rfl : v = x.v := hv
    simp only [SoaR.v]
    go_wp2
    refine bodyPost_ret (results2 rfl ⟨_, rfl, loadVar_blk (cs := #[.string x.primary, .string x.mail, .int .i64 x.serial, .int .i64 x.refresh, .int .i64 x.retry, .int .i64 x.expire, .int .i64 x.minimum]) (t := 113) ?_ Tryz.underlying113 rfl info_Soa⟩ rfl) rfl ⟨?_, ?_⟩
    · simpa using (((((((HK1.out.set 0 (.string x.primary)).set 1 (.string x.mail)).set 2 (.int .i64 x.serial)).set 3 (.int .i64 x.refresh)).set 4 (.int .i64 x.retry)).set 5 (.int .i64 x.expire)).set 6 (.int .i64 x.minimum))
    · iterate 7 refine Below.setCell ?_ (by exact Nat.le_refl _) _
      exact HB.out
    · rw [h1]; exact ⟨_, rfl, rfl⟩
end Go.Proofs.YtkhpcagoggglcaaGreatDoor

/- data.mail: what such data have: the closure that takes them apart, data.take at this type, data.mail itself. Lines printed by wip/tools/taker.py. -/
namespace Go.Proofs.YtkhpcagoggglcaaGreatDoor
open Go.RowKit

structure mailR where
  n : Int
  name : ByteArray
def mailR.v (x : mailR) : Value := .agg #[.int .i64 x.n, .string x.name]
def mailV (_lo : Nat) (x : mailR) (_ : World) (v : Value) : Prop := v = x.v
def zmail : Array Value := #[.int .i64 0, .string ⟨#[]⟩]
theorem info_mail : (Tryz.prog.info? 118).map (·.size) = some 2 := by kernel_rfl
/-- What is taken, and what is left. -/
def mailT (s : ByteArray) : Option (mailR × ByteArray) :=
  match numT 2 s with
  | none => none
  | some (a1, s1) =>
    match nameT s1 with
    | none => none
    | some (a2, s2) =>
      some (⟨a1, a2⟩, s2)

set_option maxRecDepth 100000 in
set_option maxHeartbeats 1000000 in
theorem mail1_t (b : Nat) (s : ByteArray) (w : World) (hS : Src b s w) (hz : s.size ≤ 2000) :
    Calls Tryz.prog 138 #[.pointer (some ⟨b, 0, none⟩)] w (Took b w (mailT s) (mailV (w.heap.size + 1))) := by
  have hne : w.heap.size ≠ b := by have := hS.lt; omega
  have n : b ≠ w.heap.size := fun h => hne h.symm
  have HL := Lib.hid hS.lt
  have HQ0 := Lib.hid hS
  have HZ0 := Lib.hid hz
  clear hS hz
  go_enter Tryz.func138, Tryz.ntmps138
  go_wp2_with fail
  refine (number_t b s 2 2 rfl _ (HQ0.out.alloc _) (by omega)).mono ?_
  rintro e W1 h
  rcases h1 : numT 2 s with _ | ⟨a1, s1⟩
  · rw [h1] at h
    obtain ⟨rfl, hO⟩ := h
    have hO2 : Only b w W1 := (Only.alloc w _).trans hO
    have hT : mailT s = none := by simp only [mailT, h1]
    first
      | (refine ⟨rfl, ?_⟩; rw [hT]; exact ⟨rfl, hO2⟩)
      | (simp only []; refine ⟨rfl, ?_⟩; rw [hT]; exact ⟨rfl, hO2⟩)
  rw [h1] at h
  obtain ⟨v1, rfl, hv, hS, hO⟩ := h
  have hO2 : Only b w W1 := (Only.alloc w _).trans hO
  obtain rfl : v1 = .int .i64 a1 := hv
  have hB2 := (Blk.new w #[.int .i64 0, .string ⟨#[]⟩] 118).only hO hne
  have HZ1 := Lib.hid (Nat.le_trans (numT_le h1) HZ0.out)
  have HB1 := Lib.hid hB2; have HQ1 := Lib.hid hS; have HO1 := Lib.hid hO2; have E1 := Lib.hid h1
  clear hB2 hS hO hO2 h1 
  go_wp2_with fail
  refine (name_t b s1 _ (HQ1.out) HZ1.out).mono ?_
  rintro e W2 h
  rcases h2 : nameT s1 with _ | ⟨a2, s2⟩
  · rw [h2] at h
    obtain ⟨rfl, hO⟩ := h
    have hO2 : Only b w W2 := (HO1.out).trans hO
    have hT : mailT s = none := by have e1 := E1.out; simp only [mailT, e1, h2]
    first
      | (refine ⟨rfl, ?_⟩; rw [hT]; exact ⟨rfl, hO2⟩)
      | (simp only []; refine ⟨rfl, ?_⟩; rw [hT]; exact ⟨rfl, hO2⟩)
  rw [h2] at h
  obtain ⟨v2, rfl, hv, hS, hO⟩ := h
  have hO2 : Only b w W2 := (HO1.out).trans hO
  obtain rfl : v2 = .string a2 := hv
  have hB2 := HB1.out.only hO hne
  have HZ2 := Lib.hid (Nat.le_trans (nameT_le h2) HZ1.out)
  have HB2 := Lib.hid hB2; have HQ2 := Lib.hid hS; have HO2 := Lib.hid hO2; have E2 := Lib.hid h2
  clear hB2 hS hO hO2 h2 
  have c0 : W2.cell? ⟨w.heap.size, 0, none⟩ = some (.int .i64 0) := HB2.out.cell 0
  have c1 : W2.cell? ⟨w.heap.size, 1, none⟩ = some (.string ⟨#[]⟩) := HB2.out.cell 1
  have f0 := fun j => HB2.out.free j
  go_wp2_with fail
  have hF : Blk ((W2.setCell ⟨w.heap.size, 0, none⟩ (.int .i64 a1)).setCell ⟨w.heap.size, 1, none⟩ (.string a2)) w.heap.size #[.int .i64 a1, .string a2] 118 := by
    simpa using ((HB2.out.set 0 (.int .i64 a1)).set 1 (.string a2))
  have hT : mailT s = some (⟨a1, a2⟩, s2) := by have e1 := E1.out; have e2 := E2.out; simp only [mailT, e1, e2]
  refine bodyPost_ret (results1 rfl ⟨_, rfl, loadVar_blk hF Tryz.underlying118 rfl info_mail⟩) rfl ?_
  rw [hT]
  refine ⟨_, rfl, rfl, ?_, ?_⟩
  · iterate 2 refine Blk.other ?_ n _
    exact HQ2.out
  · iterate 2 refine Only.setNew ?_ (Nat.le_refl _) _
    exact HO2.out
set_option maxRecDepth 100000 in
theorem mail_panic (B n m : Nat) {v0 v1 : Value} (w : World) (h0 : Blk w n #[v0, v1] 118) (h1 : Blk w m #[.int .i64 0] 25) (hne : n ≠ m) (hBn : B ≤ n) (hBm : B ≤ m) :
    CallsD Tryz.prog 188 #[.pointer (some ⟨n, 0, none⟩), .pointer (some ⟨m, 0, none⟩)] (.panicking [{ v := .iface 162 (.agg #[]), recovered := false }]) w fun e u' w' =>
      e = .returned (.tuple #[]) ∧ u' = .panicking [{ v := .iface 162 (.agg #[]), recovered := true }] ∧ Blk w' n #[.int .i64 0, .string ⟨#[]⟩] 118 ∧ Blk w' m #[.int .i64 6] 25 ∧ Below B w w' := by
  refine callsD_of_wpS Tryz.func188 rfl fun c₀ cs hu => ?_
  simp only [Tryz.ntmps188, List.size_toArray, List.length_cons, List.length_nil, Nat.reduceAdd, Nat.reduceSub, Array.replicate_succ, Array.replicate_zero, List.push_toArray, List.append_toArray, List.nil_append, List.cons_append]
  apply wpS_seq
  apply wpS_region
  simp [wpOpsS, go_sem, recoverD, hu, Exit.thenS]
  refine wpS_of_wp (wp_mono (Q := fun e a' w' => e = .normal ∧ a'.defers = [] ∧ Blk w' n #[.int .i64 0, .string ⟨#[]⟩] 118 ∧ Blk w' m #[.int .i64 6] 25 ∧ Below B w w') ?_ ?_)
  · have c0 : w.cell? ⟨n, 0, none⟩ = some v0 := h0.cell 0
    have c1 : w.cell? ⟨n, 1, none⟩ = some v1 := h0.cell 1
    have e0 : w.cell? ⟨m, 0, none⟩ = some (.int .i64 0) := h1.cell 0
    have f0 := fun j => h0.free j
    have f1 := fun j => h1.free j
    have l0 := h0.lt
    have l1 := h1.lt
    have H0 := Lib.hid h0; have H1 := Lib.hid h1; clear h0 h1
    generalize hQ : (fun (e : Exit) (a' : Act) (w' : World) => e = Exit.normal ∧ a'.defers = [] ∧ Blk w' n #[.int .i64 0, .string ⟨#[]⟩] 118 ∧ Blk w' m #[.int .i64 6] 25 ∧ Below B w w') = Q
    have HQ := Lib.hid hQ; clear hQ
    have hta := assert_stop
    go_wp2
    rw [← HQ.out]
    refine ⟨rfl, rfl, ?_, ?_, ?_⟩
    · refine Blk.alloc (Blk.alloc (Blk.other ?_ hne _) _) _
      simpa using ((H0.out.set 0 (.int .i64 0)).set 1 (.string ⟨#[]⟩))
    · refine Blk.alloc (Blk.alloc (Blk.set (cs := #[.int .i64 0]) ?_ 0 _) _) _
      iterate 2 refine Blk.other ?_ (fun h => hne h.symm) _
      exact H1.out
    · refine Below.alloc (Below.alloc ?_ (by simp; omega) _) (by simp; omega) _
      refine Below.setCell ?_ (by simpa using hBm) _
      iterate 2 refine Below.setCell ?_ (by simpa using hBn) _
      exact Below.refl _ _
  · rintro e a w' ⟨rfl, hd, q⟩
    exact ⟨hd, _, rfl, _, results_none rfl _ _ _, rfl, rfl, q⟩

theorem mail_idle (n m : Nat) (w : World) :
    CallsD Tryz.prog 188 #[.pointer (some ⟨n, 0, none⟩), .pointer (some ⟨m, 0, none⟩)] .returning w fun e u' w' => e = .returned (.tuple #[]) ∧ u' = .returning ∧ w' = w := by
  refine callsD_of_wpS Tryz.func188 rfl fun c₀ cs hu => ?_
  simp only [Tryz.ntmps188, List.size_toArray, List.length_cons, List.length_nil, Nat.reduceAdd, Nat.reduceSub, Array.replicate_succ, Array.replicate_zero, List.push_toArray, List.append_toArray, List.nil_append, List.cons_append]
  apply wpS_seq
  apply wpS_region
  simp [wpOpsS, go_sem, recoverD, hu, Exit.thenS]
  refine wpS_of_wp (wp_mono (Q := fun e a' w' => e = .normal ∧ a'.defers = [] ∧ w' = w) ?_ ?_)
  · generalize hQ : (fun (e : Exit) (a' : Act) (w' : World) => e = Exit.normal ∧ a'.defers = [] ∧ w' = w) = Q
    have HQ := Lib.hid hQ; clear hQ
    go_wp2
    rw [← HQ.out]
    exact ⟨rfl, rfl, rfl⟩
  · rintro e a w' ⟨rfl, hd, rfl⟩
    cases c₀
    simp at hu
    subst hu
    exact ⟨hd, _, rfl, _, results_none rfl _ _ _, rfl, rfl, rfl⟩

/-- The world in which take calls its function. -/
def wmail (w : World) (d : ByteArray) : World := ((w.alloc (.cells #[.int .i64 0, .string ⟨#[]⟩] 118)).alloc (.cells #[.int .i64 0] 25)).alloc (.cells #[.string d] 165)
theorem wmail_src (w : World) (d : ByteArray) : Src (w.heap.size + 1 + 1) d (wmail w d) := by
  have := Blk.new ((w.alloc (.cells #[.int .i64 0, .string ⟨#[]⟩] 118)).alloc (.cells #[.int .i64 0] 25)) #[.string d] 165
  simpa [wmail, Src] using this
theorem wmail_val (w : World) (d : ByteArray) : Blk (wmail w d) w.heap.size #[.int .i64 0, .string ⟨#[]⟩] 118 := ((Blk.new w #[.int .i64 0, .string ⟨#[]⟩] 118).alloc _).alloc _
theorem wmail_err (w : World) (d : ByteArray) : Blk (wmail w d) (w.heap.size + 1) #[.int .i64 0] 25 := by
  have := (Blk.new (w.alloc (.cells #[.int .i64 0, .string ⟨#[]⟩] 118)) #[.int .i64 0] 25).alloc (.cells #[.string d] 165)
  simpa [wmail] using this
theorem wmail_below (w : World) (d : ByteArray) : Below w.heap.size w (wmail w d) := (((Below.refl _ w).alloc (Nat.le_refl _) _).alloc (by simp) _).alloc (by simp; omega) _

/-- Behind the door, where something panicked. -/
theorem mail_door (p : Option mailR) (hp : p = none) (tmps : Array Value) {v0 v1 : Value} (w w1 : World) (hk : Blk w1 w.heap.size #[v0, v1] 118) (he : Blk w1 (w.heap.size + 1) #[.int .i64 0] 25) (hb : Below w.heap.size w w1)
    (h4 : tmps.getD 4 undef = .pointer (some ⟨w.heap.size, 0, none⟩)) (h5 : tmps.getD 5 undef = .pointer (some ⟨w.heap.size + 1, 0, none⟩)) :
    bodyPostD Tryz.prog Tryz.f137 (TakeP (mailV (w.heap.size + 1)) (.agg #[.int .i64 0, .string ⟨#[]⟩]) p w) (.panic stopC)
      { tmps := tmps, defers := [{ target := .fn (.func 188) #[.pointer (some ⟨w.heap.size, 0, none⟩), .pointer (some ⟨w.heap.size + 1, 0, none⟩)], args := #[] }] } w1 := by
  subst hp
  refine leaves_cons (f := 188) (args := #[.pointer (some ⟨w.heap.size, 0, none⟩), .pointer (some ⟨w.heap.size + 1, 0, none⟩)]) (by simp) (by simp [go_sem]) ?_
  refine (mail_panic w.heap.size _ _ w1 hk he (by omega) (Nat.le_refl _) (by omega)).mono ?_
  rintro e u' w2 ⟨rfl, rfl, hk2, he2, hb2⟩
  exact ⟨_, results2 rfl ⟨_, h4, loadVar_blk hk2 Tryz.underlying118 rfl info_mail⟩ ⟨_, h5, loadVar_int he2 Tryz.underlying25⟩, hb.trans hb2, rfl⟩

set_option maxRecDepth 100000 in
set_option maxHeartbeats 1000000 in
theorem take_mail (d : ByteArray) (w : World) :
    Calls Tryz.prog 137 #[.string d, .func (.func 138) #[] #[]] w (TakeP (mailV (w.heap.size + 1)) (.agg #[.int .i64 0, .string ⟨#[]⟩]) (takeR mailT d) w) := by
  have hmf := makeFunc_run
  by_cases hd : d.size ≤ 2000
  · have hd' : decide ((d.size : Int) ≤ 2000) = true := by simp; omega
    have HD := Lib.hid hd; clear hd
    go_enter_defers Tryz.func137, Tryz.ntmps137
    go_wp2_with (go_at_call 111; refine (must_ok _ _).mono ?_; rintro e w' ⟨rfl, rfl⟩)
    refine (mail1_t (w.heap.size + 1 + 1) d _ (wmail_src w d) HD.out).mono ?_
    rintro e w1 h
    rcases h1 : mailT d with _ | ⟨x, r⟩
    · rw [h1] at h
      obtain ⟨rfl, hO⟩ := h
      exact mail_door _ (takeR_none h1) _ w w1 ((wmail_val w d).only hO (by omega)) ((wmail_err w d).only hO (by omega)) ((wmail_below w d).trans (hO.belowOf (by omega) (by simp [wmail]; omega))) rfl rfl
    rw [h1] at h
    obtain ⟨v, rfl, hv, hS, hO⟩ := h
    obtain rfl : v = x.v := hv
    have hk1 := (wmail_val w d).only hO (by omega)
    have he1 := (wmail_err w d).only hO (by omega)
    have hB1 := (wmail_below w d).trans (hO.belowOf (B := w.heap.size) (by omega) (by simp [wmail]; omega))
    have c0 : w1.cell? ⟨w.heap.size, 0, none⟩ = some (.int .i64 0) := hk1.cell 0
    have c1 : w1.cell? ⟨w.heap.size, 1, none⟩ = some (.string ⟨#[]⟩) := hk1.cell 1
    have e0 : w1.cell? ⟨w.heap.size + 1, 0, none⟩ = some (.int .i64 0) := he1.cell 0
    have e5 : w1.cell? ⟨w.heap.size + 1 + 1, 0, none⟩ = some (.string r) := hS.cell 0
    have f0 := fun j => hk1.free j
    have f1 := fun j => he1.free j
    have HK1 := Lib.hid hk1; have HE1 := Lib.hid he1; have HB1 := Lib.hid hB1; have H1 := Lib.hid h1
    clear hk1 he1 hB1 hO hS h1
    simp only [mailR.v]
    by_cases hr : r.size = 0
    · obtain rfl := size_empty hr
      clear hr
      go_wp2_with (go_at_call 111; refine (must_ok _ _).mono ?_; rintro e w' ⟨rfl, rfl⟩)
      refine leaves_cons (f := 188) (args := #[.pointer (some ⟨w.heap.size, 0, none⟩), .pointer (some ⟨w.heap.size + 1, 0, none⟩)]) (by simp) (by simp [go_sem]) ?_
      refine (mail_idle _ _ _).mono ?_
      rintro e u' w2 ⟨rfl, rfl, rfl⟩
      refine ⟨_, results2 rfl ⟨_, rfl, loadVar_blk (cs := #[.int .i64 x.n, .string x.name]) (t := 118) ?_ Tryz.underlying118 rfl info_mail⟩ ⟨_, rfl, loadVar_int (t := 25) (v := .int .i64 0) ?_ Tryz.underlying25⟩, ?_, ?_⟩
      · refine Blk.other ?_ (by simp) _
        simpa using ((((HK1.out.set 0 (.int .i64 x.n)).set 1 (.string x.name)).set 0 (.int .i64 x.n)).set 1 (.string x.name))
      · refine Blk.set (cs := #[.int .i64 0]) ?_ 0 _
        iterate 4 refine Blk.other ?_ (by simp) _
        exact HE1.out
      · refine Below.setCell ?_ (by simp) _
        iterate 4 refine Below.setCell ?_ (by exact Nat.le_refl _) _
        exact HB1.out
      · rw [takeR_some HD.out H1.out rfl]
        exact ⟨_, rfl, rfl⟩
    · have he := toList_isEmpty hr
      have hT := takeR_left H1.out hr
      have HT := Lib.hid hT; clear hT hr
      go_wp2_with (go_at_call 111; refine (must_no _ _).mono ?_; rintro e w' ⟨rfl, rfl⟩)
      refine mail_door _ HT.out _ (v0 := .int .i64 x.n) (v1 := .string x.name) (w := w) (w1 := _) (hk := ?_) (he := ?_) (hb := ?_) rfl rfl
      · exact (by simpa using ((HK1.out.set 0 (.int .i64 x.n)).set 1 (.string x.name)) : Blk _ w.heap.size #[.int .i64 x.n, .string x.name] 118)
      · iterate 2 refine Blk.other ?_ (by simp) _
        exact HE1.out
      · iterate 2 refine Below.setCell ?_ (by exact Nat.le_refl _) _
        exact HB1.out
  · have hd' : decide ((d.size : Int) ≤ 2000) = false := by simp; omega
    have HT := Lib.hid (takeR_long (f := mailT) hd)
    clear hd
    go_enter_defers Tryz.func137, Tryz.ntmps137
    go_wp2_with (go_at_call 111; refine (must_no _ _).mono ?_; rintro e w' ⟨rfl, rfl⟩)
    exact mail_door _ HT.out _ w _ (wmail_val w d) (wmail_err w d) (wmail_below w d) rfl rfl

set_option maxRecDepth 100000 in
theorem data_mail (d : ByteArray) (w : World) :
    Calls Tryz.prog 68 #[.string d] w (TakeP (mailV w.heap.size) (.agg #[.int .i64 0, .string ⟨#[]⟩]) (takeR mailT d) w) := by
  have hmf := makeFunc_run
  go_enter Tryz.func68, Tryz.ntmps68
  go_wp2_with fail
  refine (take_mail d _).mono ?_
  rintro e w1 ⟨hb, h⟩
  have hk1 : Blk w1 w.heap.size #[.int .i64 0, .string ⟨#[]⟩] 118 := (Blk.new w #[.int .i64 0, .string ⟨#[]⟩] 118).below hb (by simp)
  have hB : Below w.heap.size w w1 := ((Below.refl _ w).alloc (Nat.le_refl _) _).trans (hb.mono (by simp))
  have c0 : w1.cell? ⟨w.heap.size, 0, none⟩ = some (.int .i64 0) := hk1.cell 0
  have c1 : w1.cell? ⟨w.heap.size, 1, none⟩ = some (.string ⟨#[]⟩) := hk1.cell 1
  have f0 := fun j => hk1.free j
  have HK1 := Lib.hid hk1; have HB := Lib.hid hB; clear hk1 hb hB
  rcases h1 : takeR mailT d with _ | x
  · rw [h1] at h
    obtain rfl := h
    go_wp2
    refine bodyPost_ret (results2 rfl ⟨_, rfl, loadVar_blk (cs := #[.int .i64 0, .string ⟨#[]⟩]) (t := 118) ?_ Tryz.underlying118 rfl info_mail⟩ rfl) rfl ⟨?_, ?_⟩
    · simpa using ((HK1.out.set 0 (.int .i64 0)).set 1 (.string ⟨#[]⟩))
    · iterate 2 refine Below.setCell ?_ (by exact Nat.le_refl _) _
      exact HB.out
    · rw [h1]; rfl
  · rw [h1] at h
    obtain ⟨v, hv, rfl⟩ := h
    obtain rfl : v = x.v := hv
    simp only [mailR.v]
    go_wp2
    refine bodyPost_ret (results2 rfl ⟨_, rfl, loadVar_blk (cs := #[.int .i64 x.n, .string x.name]) (t := 118) ?_ Tryz.underlying118 rfl info_mail⟩ rfl) rfl ⟨?_, ?_⟩
    · simpa using ((HK1.out.set 0 (.int .i64 x.n)).set 1 (.string x.name))
    · iterate 2 refine Below.setCell ?_ (by exact Nat.le_refl _) _
      exact HB.out
    · rw [h1]; exact ⟨_, rfl, rfl⟩
end Go.Proofs.YtkhpcagoggglcaaGreatDoor

