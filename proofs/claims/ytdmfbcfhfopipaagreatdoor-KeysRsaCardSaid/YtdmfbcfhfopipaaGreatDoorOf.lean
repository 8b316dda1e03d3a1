/- keys.Of, walked. -/
import Derived.Test.YtdmfbcfhfopipaaGreatDoorDigest
import Derived.Test.YtdmfbcfhfopipaaGreatDoorTake
namespace Go.Proofs.YtdmfbcfhfopipaaGreatDoor
open Go.RowKit

structure DsD where
  tag : Int
  alg : Int
  kind : Int
  dig : ByteArray
  deriving DecidableEq
def DsD.cells (x : DsD) : Array Value := #[.int .i64 x.tag, .int .i64 x.alg, .int .i64 x.kind, .string x.dig]
def DsD.v (x : DsD) : Value := .agg x.cells
def DsD.none : DsD := ⟨0, 0, 0, ⟨#[]⟩⟩
def keysOf (owner d : ByteArray) (kind : Int) : DsD × Int :=
  if (keysDigest kind owner d).2 = 0 then (⟨tagOf d, (keyOf d).alg, kind, (keysDigest kind owner d).1⟩, 0) else (DsD.none, (keysDigest kind owner d).2)
theorem keysDigest_ok {kind : Int} {owner d : ByteArray} (h : (keysDigest kind owner d).2 = 0) : keyRight d = true ∧ nameRight owner = true ∧ (kind = 1 ∨ kind = 2) := by
  unfold keysDigest at h
  split at h
  · simp at h
  · split at h
    · simp at h
    · split at h
      · simp at h
      · rename_i h1 h2 h3
        exact ⟨by simpa using h3, by simpa using h2, by omega⟩
theorem info_Ds : (Tryz.prog.info? 23).map (·.size) = some 4 := by kernel_rfl

theorem ds_put {w : World} {b : Nat} {x : DsD} {t : TypeId} (h : Blk w b x.cells t) (y : DsD) :
    Blk ((((w.setCell ⟨b, 0, none⟩ (.int .i64 y.tag)).setCell ⟨b, 1, none⟩ (.int .i64 y.alg)).setCell ⟨b, 2, none⟩ (.int .i64 y.kind)).setCell ⟨b, 3, none⟩ (.string y.dig)) b y.cells t := by
  have := (((h.set 0 (.int .i64 y.tag)).set 1 (.int .i64 y.alg)).set 2 (.int .i64 y.kind)).set 3 (.string y.dig)
  simpa [DsD.cells] using this
theorem below_put4 {w0 w : World} {B b : Nat} (h : Below B w0 w) (hb : B ≤ b) (v0 v1 v2 v3 : Value) : Below B w0 ((((w.setCell ⟨b, 0, none⟩ v0).setCell ⟨b, 1, none⟩ v1).setCell ⟨b, 2, none⟩ v2).setCell ⟨b, 3, none⟩ v3) :=
  (((h.setCell (p := ⟨b, 0, none⟩) hb _).setCell (p := ⟨b, 1, none⟩) hb _).setCell (p := ⟨b, 2, none⟩) hb _).setCell (p := ⟨b, 3, none⟩) hb _
theorem ds_load {w : World} {b : Nat} {x : DsD} {t : TypeId} (h : Blk w b x.cells t) : (loadVar 23 ⟨b, 0, none⟩).run Tryz.prog w = .ok x.v w :=
  loadVar_blk h Tryz.underlying23 rfl info_Ds

set_option maxRecDepth 100000 in
set_option maxHeartbeats 1000000 in
theorem keys_of_no (owner d : ByteArray) (kind : Int) (w : World) (h : (keysDigest kind owner d).2 ≠ 0) :
    Calls Tryz.prog 14 #[.string owner, .string d, .int .i64 kind] w fun e w' => e = .returned (.tuple #[(keysOf owner d kind).1.v, .int .i64 (keysOf owner d kind).2]) ∧ Below w.heap.size w w' := by
  have hdg := keys_digest kind owner d
  have hof : keysOf owner d kind = (DsD.none, (keysDigest kind owner d).2) := by rw [keysOf, if_neg h]
  rw [hof]
  generalize (keysDigest kind owner d).2 = err at hdg h ⊢
  generalize (keysDigest kind owner d).1 = dig at hdg
  have HD := Lib.hid hdg
  clear hdg hof
  have q1 : (err != 0) = true := by simpa using h
  clear h
  go_enter Tryz.func14, Tryz.ntmps14
  go_wp2_with (go_at_call 12; refine (HD.out _).mono ?_; rintro e w1 ⟨rfl, hB⟩; have hg := (Blk.new w #[.int .i64 0, .int .i64 0, .int .i64 0, .string ⟨#[]⟩] 23).below hB (by simp); replace hB := Lib.hid hB; have c0 : w1.cell? ⟨w.heap.size, 0, none⟩ = some (.int .i64 0) := hg.cell 0; have c1 : w1.cell? ⟨w.heap.size, 1, none⟩ = some (.int .i64 0) := hg.cell 1; have c2 : w1.cell? ⟨w.heap.size, 2, none⟩ = some (.int .i64 0) := hg.cell 2; have c3 : w1.cell? ⟨w.heap.size, 3, none⟩ = some (.string ⟨#[]⟩) := hg.cell 3; have fg := hg.free; replace hg := Lib.hid hg)
  have h1 : Blk w1 w.heap.size DsD.none.cells 23 := hg.out
  refine bodyPost_ret (results2 rfl ⟨_, rfl, ds_load (ds_put h1 DsD.none)⟩ rfl) rfl ⟨rfl, ?_⟩
  exact below_put4 (((Below.refl w.heap.size w).alloc (Nat.le_refl _) _).trans (hB.out.mono (by simp))) (Nat.le_refl _) _ _ _ _

set_option maxRecDepth 100000 in
set_option maxHeartbeats 1000000 in
theorem keys_of_yes (owner d : ByteArray) (kind : Int) (w : World) (h : (keysDigest kind owner d).2 = 0) :
    Calls Tryz.prog 14 #[.string owner, .string d, .int .i64 kind] w fun e w' => e = .returned (.tuple #[(keysOf owner d kind).1.v, .int .i64 (keysOf owner d kind).2]) ∧ Below w.heap.size w w' := by
  have hdg := keys_digest kind owner d
  have hof : keysOf owner d kind = (⟨tagOf d, (keyOf d).alg, kind, (keysDigest kind owner d).1⟩, 0) := by rw [keysOf, if_pos h]
  have hr := (keysDigest_ok h).1
  have hkey := data_key d
  have htag := key_tag d
  rw [hr] at hkey htag
  simp only [if_true] at hkey htag
  rw [h] at hdg
  rw [hof]
  clear h hof hr
  generalize (keysDigest kind owner d).1 = dig at hdg ⊢
  generalize tagOf d = tag at htag ⊢
  obtain ⟨fl, pr, al, pu, hkv, hka⟩ : ∃ f p a q, (keyOf d).v = .agg #[.int .i64 f, .int .i64 p, .int .i64 a, .string q] ∧ (keyOf d).alg = a := ⟨_, _, _, _, rfl, rfl⟩
  rw [hkv] at hkey
  rw [hka]
  have HD := Lib.hid hdg; have HT := Lib.hid htag; have HKY := Lib.hid hkey
  clear hdg hkv hka htag hkey
  go_enter Tryz.func14, Tryz.ntmps14
  go_wp2_with (first
    | (go_at_call 12; refine (HD.out _).mono ?_; rintro e w1 ⟨rfl, hB⟩; have hg : Blk w1 w.heap.size DsD.none.cells 23 := (Blk.new w #[.int .i64 0, .int .i64 0, .int .i64 0, .string ⟨#[]⟩] 23).below hB (by simp); have hB1 : Below w.heap.size w w1 := ((Below.refl w.heap.size w).alloc (Nat.le_refl _) _).trans (hB.mono (by simp)); replace hB := Lib.hid hB; replace hB1 := Lib.hid hB1; replace hg := Lib.hid hg)
    | (go_at_call 38; refine (HKY.out _).mono ?_; rintro e w2 ⟨rfl, hB2⟩; replace hg := Lib.hid (hg.out.below hB2 hg.out.lt); replace hB1 := Lib.hid (hB1.out.trans (hB2.mono hB1.out.size)); clear hB2)
    | (go_at_call 10; refine (HT.out _).mono ?_; rintro e w3 ⟨rfl, hB3⟩; have hk3 : Blk w3 w2.heap.size #[.int .i64 fl, .int .i64 pr, .int .i64 al, .string pu] 67 := (Blk.new w2 #[.int .i64 fl, .int .i64 pr, .int .i64 al, .string pu] 67).below hB3 (by simp); have ck : w3.cell? ⟨w2.heap.size, 2, none⟩ = some (.int .i64 al) := hk3.cell 2; clear hk3; have hg3 : Blk w3 w.heap.size DsD.none.cells 23 := (hg.out.alloc _).below hB3 (by have := hg.out.lt; simp; omega); replace hB1 := Lib.hid ((hB1.out.alloc hB1.out.size (.cells #[.int .i64 fl, .int .i64 pr, .int .i64 al, .string pu] 67)).trans (hB3.mono (by have := hB1.out.size; simp; omega))); clear hB3 hg; have c0 : w3.cell? ⟨w.heap.size, 0, none⟩ = some (.int .i64 0) := hg3.cell 0; have c1 : w3.cell? ⟨w.heap.size, 1, none⟩ = some (.int .i64 0) := hg3.cell 1; have c2 : w3.cell? ⟨w.heap.size, 2, none⟩ = some (.int .i64 0) := hg3.cell 2; have c3 : w3.cell? ⟨w.heap.size, 3, none⟩ = some (.string ⟨#[]⟩) := hg3.cell 3; have fg := hg3.free; replace hg3 := Lib.hid hg3))
  refine bodyPost_ret (results2 rfl ⟨_, rfl, ds_load (ds_put hg3.out ⟨tag, al, kind, dig⟩)⟩ rfl) rfl ⟨rfl, ?_⟩
  exact below_put4 hB1.out (Nat.le_refl _) _ _ _ _

theorem keys_of (owner d : ByteArray) (kind : Int) (w : World) :
    Calls Tryz.prog 14 #[.string owner, .string d, .int .i64 kind] w fun e w' => e = .returned (.tuple #[(keysOf owner d kind).1.v, .int .i64 (keysOf owner d kind).2]) ∧ Below w.heap.size w w' := by
  by_cases h : (keysDigest kind owner d).2 = 0
  · exact keys_of_yes owner d kind w h
  · exact keys_of_no owner d kind w h
end Go.Proofs.YtdmfbcfhfopipaaGreatDoor
