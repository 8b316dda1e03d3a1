/- data.Key: a key's parts out of its data. -/
import Derived.Test.YtdmfbcfhfopipaaGreatDoorSrc
namespace Go.Proofs.YtdmfbcfhfopipaaGreatDoor
open Go.RowKit

/-- What a key has. -/
structure KeyD where
  flags : Int
  protocol : Int
  alg : Int
  pub : ByteArray
def KeyD.v (k : KeyD) : Value := .agg #[.int .i64 k.flags, .int .i64 k.protocol, .int .i64 k.alg, .string k.pub]
def KeyD.none : KeyD := ⟨0, 0, 0, ⟨#[]⟩⟩

/-- The key that data tell (at least five bytes, at most 2000). -/
def keyOf (d : ByteArray) : KeyD := ⟨numOf (d.extract 0 2), numOf (d.extract 2 3), numOf (d.extract 3 4), d.extract 4 d.size⟩
def keyRight (d : ByteArray) : Bool := decide (5 ≤ d.size) && decide (d.size ≤ 2000)

theorem key1_any (b : Nat) (s : ByteArray) (w : World) (hS : Src b s w) :
    Calls Tryz.prog 73 #[.pointer (some ⟨b, 0, none⟩)] w (Taken b w (5 ≤ s.size) (keyOf s).v ⟨#[]⟩) := by
  have h1 := fun w h => number_any b s 2 w h (by omega) (by omega)
  have h2 := fun w h => number_any b (s.extract 2 s.size) 1 w h (by omega) (by omega)
  have h3 := fun w h => number_any b (s.extract 3 s.size) 1 w h (by omega) (by omega)
  have h4 := fun w h => rest_any b (s.extract 4 s.size) w h
  have z2 : (s.extract 2 s.size).size = s.size - 2 := by simp
  have z3 : (s.extract 3 s.size).size = s.size - 3 := by simp
  have z4 : (s.extract 4 s.size).size = s.size - 4 := by simp
  have e1 : (s.extract 2 s.size).extract 1 (s.extract 2 s.size).size = s.extract 3 s.size := by simp [ByteArray.extract_extract]; congr 1; omega
  have e2 : (s.extract 3 s.size).extract 1 (s.extract 3 s.size).size = s.extract 4 s.size := by simp [ByteArray.extract_extract]; congr 1; omega
  have e3 : 3 ≤ s.size → (s.extract 2 s.size).extract 0 1 = s.extract 2 3 := by intro h; simp [ByteArray.extract_extract]; congr 1; omega
  have e4 : 4 ≤ s.size → (s.extract 3 s.size).extract 0 1 = s.extract 3 4 := by intro h; simp [ByteArray.extract_extract]; congr 1; omega
  simp only [Int.reduceToNat, e1, e2] at h1 h2 h3
  have hv : (keyOf s).v = .agg #[.int .i64 (numOf (s.extract 0 2)), .int .i64 (numOf (s.extract 2 3)), .int .i64 (numOf (s.extract 3 4)), .string (s.extract 4 s.size)] := rfl
  have hv' : 5 ≤ s.size → (keyOf s).v = .agg #[.int .i64 (numOf (s.extract 0 2)), .int .i64 (numOf ((s.extract 2 s.size).extract 0 1)), .int .i64 (numOf ((s.extract 3 s.size).extract 0 1)), .string (s.extract 4 s.size)] := by
    intro h; rw [hv, e3 (by omega), e4 (by omega)]
  clear e1 e2 e3 e4 hv
  generalize (keyOf s).v = V at *
  have hne : w.heap.size ≠ b := by have := hS.lt; omega
  generalize numOf (s.extract 0 2) = f at *
  generalize numOf ((s.extract 2 s.size).extract 0 1) = p at *
  generalize numOf ((s.extract 3 s.size).extract 0 1) = a at *
  generalize s.extract 4 s.size = q at *
  generalize s.extract 3 s.size = s3 at *
  generalize s.extract 2 s.size = s2 at *
  have H1 := Lib.hid h1; have H2 := Lib.hid h2; have H3 := Lib.hid h3; have H4 := Lib.hid h4
  have HS := Lib.hid hS; have HV := Lib.hid hv'; have Z2 := Lib.hid z2; have Z3 := Lib.hid z3; have Z4 := Lib.hid z4
  clear h1 h2 h3 h4 hS hv' z2 z3 z4
  go_enter Tryz.func73, Tryz.ntmps73
  go_wp2_with fail
  refine (H1.out _ (HS.out.alloc _)).mono ?_
  rintro e w1 (⟨hn1, rfl, hS1, hO1⟩ | ⟨hn1, rfl, hO1⟩)
  case inr => exact ⟨rfl, .inr ⟨by omega, rfl, (Only.alloc w _).trans hO1⟩⟩
  have hB1 := (Blk.new w #[.int .i64 0, .int .i64 0, .int .i64 0, .string ⟨#[]⟩] 67).only hO1 hne
  have HQ1 := Lib.hid hS1; have HB1 := Lib.hid hB1; clear hS1 hB1
  go_wp2_with fail
  refine (H2.out _ HQ1.out).mono ?_
  rintro e w2 (⟨hn2, rfl, hS2, hO2⟩ | ⟨hn2, rfl, hO2⟩)
  case inr => exact ⟨rfl, .inr ⟨by have := Z2.out; omega, rfl, ((Only.alloc w _).trans hO1).trans hO2⟩⟩
  have HQ2 := Lib.hid hS2; have HB2 := Lib.hid (HB1.out.only hO2 hne); clear hS2 HB1
  go_wp2_with fail
  refine (H3.out _ HQ2.out).mono ?_
  rintro e w3 (⟨hn3, rfl, hS3, hO3⟩ | ⟨hn3, rfl, hO3⟩)
  case inr => exact ⟨rfl, .inr ⟨by have := Z3.out; omega, rfl, ((Only.alloc w _).trans hO1).trans (hO2.trans hO3)⟩⟩
  have HQ3 := Lib.hid hS3; have HB3 := Lib.hid (HB2.out.only hO3 hne); clear hS3 HB2
  go_wp2_with fail
  refine (H4.out _ HQ3.out).mono ?_
  rintro e w4 (⟨hn4, rfl, hS4, hO4⟩ | ⟨hn4, rfl, hO4⟩)
  case inr => exact ⟨rfl, .inr ⟨by have := Z4.out; omega, rfl, ((Only.alloc w _).trans hO1).trans (hO2.trans (hO3.trans hO4))⟩⟩
  have h5 : 5 ≤ s.size := by have := Z4.out; omega
  have HQ4 := Lib.hid hS4; have hB4 := (HB3.out.only hO4 hne); clear hS4 HB3
  have c0 : w4.cell? ⟨w.heap.size, 0, none⟩ = some (.int .i64 0) := hB4.cell 0
  have c1 : w4.cell? ⟨w.heap.size, 1, none⟩ = some (.int .i64 0) := hB4.cell 1
  have c2 : w4.cell? ⟨w.heap.size, 2, none⟩ = some (.int .i64 0) := hB4.cell 2
  have c3 : w4.cell? ⟨w.heap.size, 3, none⟩ = some (.string ⟨#[]⟩) := hB4.cell 3
  have f0 := fun j => hB4.free j
  clear H1 H2 H3 H4 HS HQ1 HQ2 HQ3
  go_wp2_with fail
  have hF : Blk ((((((((w4.setCell ⟨w.heap.size, 0, none⟩ (.int .i64 f)).setCell ⟨w.heap.size, 1, none⟩ (.int .i64 p)).setCell ⟨w.heap.size, 2, none⟩ (.int .i64 a)).setCell ⟨w.heap.size, 3, none⟩ (.string q)).setCell ⟨w.heap.size, 0, none⟩ (.int .i64 f)).setCell ⟨w.heap.size, 1, none⟩ (.int .i64 p)).setCell ⟨w.heap.size, 2, none⟩ (.int .i64 a)).setCell ⟨w.heap.size, 3, none⟩ (.string q)) w.heap.size #[.int .i64 f, .int .i64 p, .int .i64 a, .string q] 67 := by
    simpa using (((((((hB4.set 0 (.int .i64 f)).set 1 (.int .i64 p)).set 2 (.int .i64 a)).set 3 (.string q)).set 0 (.int .i64 f)).set 1 (.int .i64 p)).set 2 (.int .i64 a)).set 3 (.string q)
  refine bodyPost_ret (v := .agg #[.int .i64 f, .int .i64 p, .int .i64 a, .string q]) (results_cell_row rfl _ _ w.heap.size _ _ (0, 0) _ rfl hF Tryz.underlying67 rfl info_Key) rfl (.inl ⟨h5, by rw [HV.out h5], ?_, ?_⟩)
  · have n : b ≠ w.heap.size := fun h => hne h.symm
    iterate 8 refine Blk.other ?_ n _
    exact HQ4.out
  · iterate 8 refine Only.setNew ?_ (Nat.le_refl _) _
    exact ((Only.alloc w _).trans hO1).trans (hO2.trans (hO3.trans hO4))
end Go.Proofs.YtdmfbcfhfopipaaGreatDoor
