/- A key's Ds by the document's chapter 6, and whether a Ds fits: they are the program's. -/
import Derived.Test.YtdmfbcfhfopipaaGreatDoorRefDigest
namespace Go.Proofs.YtdmfbcfhfopipaaGreatDoor
open Go.RowKit

set_option maxRecDepth 100000 in
set_option maxHeartbeats 1000000 in
theorem ref_of_no (owner d : ByteArray) (kind : Int) (w : World) (h : (keysDigest kind owner d).2 ≠ 0) :
    Calls Tryz.prog 15 #[.string owner, .string d, .int .i64 kind] w fun e w' => e = .returned (.tuple #[(keysOf owner d kind).1.v, .int .i64 (keysOf owner d kind).2]) ∧ Below w.heap.size w w' := by
  have hdg := ref_digest kind owner d
  have hof : keysOf owner d kind = (DsD.none, (keysDigest kind owner d).2) := by rw [keysOf, if_neg h]
  rw [hof]
  generalize (keysDigest kind owner d).2 = err at hdg h ⊢
  generalize (keysDigest kind owner d).1 = dig at hdg
  have HD := Lib.hid hdg
  clear hdg hof
  have q1 : (err != 0) = true := by simpa using h
  clear h
  go_enter Tryz.func15, Tryz.ntmps15
  go_wp2_with (go_at_call 13; refine (Hid.out (p := _) ?_))
  refine Lib.hid ?_
  refine (HD.out _).mono ?_
  rintro e w1 ⟨rfl, hB⟩
  have hg : Blk w1 w.heap.size DsD.none.cells 23 := (Blk.new w #[.int .i64 0, .int .i64 0, .int .i64 0, .string ⟨#[]⟩] 23).below hB (by simp)
  have c0 : w1.cell? ⟨w.heap.size, 0, none⟩ = some (.int .i64 0) := hg.cell 0
  have c1 : w1.cell? ⟨w.heap.size, 1, none⟩ = some (.int .i64 0) := hg.cell 1
  have c2 : w1.cell? ⟨w.heap.size, 2, none⟩ = some (.int .i64 0) := hg.cell 2
  have c3 : w1.cell? ⟨w.heap.size, 3, none⟩ = some (.string ⟨#[]⟩) := hg.cell 3
  have fr := hg.free
  have HG := Lib.hid hg
  have HB := Lib.hid (((Below.refl w.heap.size w).alloc (Nat.le_refl _) (.cells #[.int .i64 0, .int .i64 0, .int .i64 0, .string ⟨#[]⟩] 23)).trans (hB.mono (by simp)))
  clear hg hB
  simp only []
  go_wp2_with fail
  refine bodyPost_ret (results2 rfl ⟨_, rfl, ds_load (ds_put HG.out DsD.none)⟩ rfl) rfl ⟨rfl, ?_⟩
  exact below_put4 HB.out (Nat.le_refl _) _ _ _ _

set_option maxRecDepth 100000 in
set_option maxHeartbeats 1000000 in
theorem ref_of_yes (owner d : ByteArray) (kind : Int) (w : World) (h : (keysDigest kind owner d).2 = 0) :
    Calls Tryz.prog 15 #[.string owner, .string d, .int .i64 kind] w fun e w' => e = .returned (.tuple #[(keysOf owner d kind).1.v, .int .i64 (keysOf owner d kind).2]) ∧ Below w.heap.size w w' := by
  have hdg := ref_digest kind owner d
  have hof : keysOf owner d kind = (⟨tagOf d, (keyOf d).alg, kind, (keysDigest kind owner d).1⟩, 0) := by rw [keysOf, if_pos h]
  have hr := (keysDigest_ok h).1
  have hkey := fun w => ref_key d w
  have htag := fun w => ref_tag d w
  rw [hr] at hkey htag
  simp only [if_true] at hkey htag
  rw [h] at hdg
  rw [hof]
  clear h hof hr
  generalize (keysDigest kind owner d).1 = dig at hdg ⊢
  generalize tagOf d = tag at htag ⊢
  obtain ⟨fl, pr, al, pu, hkv, hka⟩ : ∃ f p a q, (keyOf d).v = .agg #[.int .i64 f, .int .i64 p, .int .i64 a, .string q] ∧ (keyOf d).alg = a := ⟨_, _, _, _, rfl, rfl⟩
  rw [hkv] at hkey
  rw [hka]
  have HD := Lib.hid hdg; have HT := Lib.hid htag; have HKY := Lib.hid hkey
  clear hdg hkv hka htag hkey
  go_enter Tryz.func15, Tryz.ntmps15
  go_wp2_with (go_at_call 13; refine (Hid.out (p := _) ?_))
  refine Lib.hid ?_
  refine (HD.out _).mono ?_
  rintro e w1 ⟨rfl, hB⟩
  have hg : Blk w1 w.heap.size DsD.none.cells 23 := (Blk.new w #[.int .i64 0, .int .i64 0, .int .i64 0, .string ⟨#[]⟩] 23).below hB (by simp)
  have HG1 := Lib.hid (And.intro hg (((Below.refl w.heap.size w).alloc (Nat.le_refl _) (.cells #[.int .i64 0, .int .i64 0, .int .i64 0, .string ⟨#[]⟩] 23)).trans (hB.mono (by simp))))
  clear hg hB
  simp only []
  go_wp2_with (go_at_call 30; refine (Hid.out (p := _) ?_))
  refine Lib.hid ?_
  refine (HKY.out _).mono ?_
  rintro e w2 ⟨rfl, hB⟩
  have HG2 := Lib.hid (And.intro (HG1.out.1.below hB HG1.out.1.lt) (HG1.out.2.trans (hB.mono HG1.out.2.size)))
  clear hB HG1
  simp only []
  go_wp2_with (go_at_call 11; refine (Hid.out (p := _) ?_))
  refine Lib.hid ?_
  refine (HT.out _).mono ?_
  rintro e w3 ⟨rfl, hB⟩
  have hk3 : Blk w3 w2.heap.size #[.int .i64 fl, .int .i64 pr, .int .i64 al, .string pu] 67 := (Blk.new w2 _ _).below hB (by simp)
  have ck : w3.cell? ⟨w2.heap.size, 2, none⟩ = some (.int .i64 al) := hk3.cell 2
  have ha := HG2.out.2.alloc HG2.out.2.size (.cells #[.int .i64 fl, .int .i64 pr, .int .i64 al, .string pu] 67)
  have hb2 := HG2.out.1.alloc (.cells #[.int .i64 fl, .int .i64 pr, .int .i64 al, .string pu] 67)
  have hg3 : Blk w3 w.heap.size DsD.none.cells 23 := hb2.below hB hb2.lt
  have HB3 := Lib.hid (ha.trans (hB.mono ha.size))
  have c0 : w3.cell? ⟨w.heap.size, 0, none⟩ = some (.int .i64 0) := hg3.cell 0
  have c1 : w3.cell? ⟨w.heap.size, 1, none⟩ = some (.int .i64 0) := hg3.cell 1
  have c2 : w3.cell? ⟨w.heap.size, 2, none⟩ = some (.int .i64 0) := hg3.cell 2
  have c3 : w3.cell? ⟨w.heap.size, 3, none⟩ = some (.string ⟨#[]⟩) := hg3.cell 3
  have fr := hg3.free
  have HG := Lib.hid hg3
  clear hg3 hb2 ha hB HG2 hk3
  simp only []
  go_wp2_with fail
  refine bodyPost_ret (results2 rfl ⟨_, rfl, ds_load (ds_put HG.out ⟨tag, al, kind, dig⟩)⟩ rfl) rfl ⟨rfl, ?_⟩
  exact below_put4 HB3.out (Nat.le_refl _) _ _ _ _

theorem ref_of (owner d : ByteArray) (kind : Int) (w : World) :
    Calls Tryz.prog 15 #[.string owner, .string d, .int .i64 kind] w fun e w' => e = .returned (.tuple #[(keysOf owner d kind).1.v, .int .i64 (keysOf owner d kind).2]) ∧ Below w.heap.size w w' := by
  by_cases h : (keysDigest kind owner d).2 = 0
  · exact ref_of_yes owner d kind w h
  · exact ref_of_no owner d kind w h

set_option maxRecDepth 100000 in
set_option maxHeartbeats 1000000 in
theorem ref_fits (owner d : ByteArray) (x : DsD) (w : World) :
    Calls Tryz.prog 16 #[.string owner, .string d, x.v] w fun e w' => e = .returned (.bool (fitsB owner d x)) ∧ Below w.heap.size w w' := by
  have hof := ref_of owner d x.kind
  have hfi : fitsB owner d x = (decide ((keysOf owner d x.kind).2 = 0) && decide ((keysOf owner d x.kind).1 = x)) := rfl
  rw [hfi]
  clear hfi
  generalize (keysOf owner d x.kind).2 = err at hof ⊢
  generalize (keysOf owner d x.kind).1 = y at hof ⊢
  obtain ⟨xt, xa, xk, xd⟩ := x
  obtain ⟨yt, ya, yk, yd⟩ := y
  simp only [DsD.v, DsD.cells, DsD.mk.injEq] at hof ⊢
  have HO := Lib.hid hof
  clear hof
  go_enter Tryz.func16, Tryz.ntmps16
  go_wp2_with (go_at_call 15; refine (Hid.out (p := _) ?_))
  refine Lib.hid ?_
  refine (HO.out _).mono ?_
  rintro e w1 ⟨rfl, hB⟩
  have hx : Blk w1 w.heap.size #[.int .i64 xt, .int .i64 xa, .int .i64 xk, .string xd] 23 := (Blk.new w _ _).below hB (by simp)
  have hy := Blk.new w1 #[.int .i64 yt, .int .i64 ya, .int .i64 yk, .string yd] 23
  have hx2 := hx.alloc (.cells #[.int .i64 yt, .int .i64 ya, .int .i64 yk, .string yd] 23)
  have c0 := hx2.cell 0
  have c1 := hx2.cell 1
  have c2 := hx2.cell 2
  have c3 := hx2.cell 3
  have e0 := hy.cell 0
  have e1 := hy.cell 1
  have e2 := hy.cell 2
  have e3 := hy.cell 3
  have hB1 := Lib.hid (((Below.refl w.heap.size w).alloc (Nat.le_refl _) (.cells #[.int .i64 xt, .int .i64 xa, .int .i64 xk, .string xd] 23)).trans (hB.mono (by simp)))
  clear hx hy hx2 hB
  simp only []
  go_wp2_with fail
  all_goals (go_ret; exact ⟨by have htl := toList_iff yd xd; have htl2 := toList_iff xd yd; simp_all <;> (intro h; simp_all), hB1.out.alloc hB1.out.size _⟩)
end Go.Proofs.YtdmfbcfhfopipaaGreatDoor
