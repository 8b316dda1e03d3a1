import Derived.Test.YtdflhnbpcnmpfaaGreatDoorSo8
import Derived.Deep.MidRow
import Derived.Test.YtdflhnbpcnmpfaaGreatDoorSo5
import Derived.Test.YtdflhnbpcnmpfaaGreatDoorSo1
import Derived.Test.YtdflhnbpcnmpfaaGreatDoorSo7
import Derived.Maps.OwnIn
/- name.Common. -/
namespace Go.Proofs.YtdflhnbpcnmpfaaGreatDoor
open Go.RowKit Go.Shelf
attribute [local go_sem] Oper.semAt_some

/-- The first of these ends of a under which b is. -/
def commonL (a b : ByteArray) : List (Nat × ByteArray) → Option ByteArray
  | [] => none
  | x :: l => if underB b (a.extract x.1 a.size) then some (a.extract x.1 a.size) else commonL a b l
theorem commonL_snoc (a b : ByteArray) (l : List (Nat × ByteArray)) (x : Nat × ByteArray) (h : commonL a b l = none) : commonL a b (l ++ [x]) = if underB b (a.extract x.1 a.size) then some (a.extract x.1 a.size) else none := by
  induction l with
  | nil => rfl
  | cons y l ih =>
    rw [commonL] at h
    split at h
    · cases h
    · rename_i h1
      rw [List.cons_append, commonL, if_neg h1]
      exact ih h
theorem commonL_pre {a b : ByteArray} {l m : List (Nat × ByteArray)} {x : ByteArray} (h : l <+: m) (hl : commonL a b l = some x) : commonL a b m = some x := by
  obtain ⟨r, rfl⟩ := h
  induction l with
  | nil => cases hl
  | cons y l ih =>
    rw [commonL] at hl
    rw [List.cons_append, commonL]
    split at hl
    · rename_i h1; rw [if_pos h1]; exact hl
    · rename_i h1; rw [if_neg h1]; exact ih hl
def commonR (a b : ByteArray) : ByteArray × Int := if nameRight a = true ∧ nameRight b = true then ((commonL a b (labels a)).getD ⟨#[0]⟩, 0) else (⟨#[]⟩, 2)

theorem keeps_of_below {W W' : World} (h : Below W.heap.size W W') : KeepsOthers W W' := ⟨h.size, fun k _ hk _ => (h.block k (Array.getElem?_eq_some_iff.1 hk).1).trans hk⟩
/-- What the loop of Common keeps. -/
structure CmSt (a b : ByteArray) (w w2 W : World) : Prop where
  k0 : Blk W w.heap.size #[.string a] 9
  k1 : Blk W (w.heap.size + 1) #[.string b] 9
  k2 : Blk W (w.heap.size + 1 + 1) #[.string ⟨#[]⟩] 9
  k3 : Blk W (w.heap.size + 1 + 1 + 1) #[.int .i64 0] 35
  bl : Below w.heap.size w W
  sz : w2.heap.size ≤ W.heap.size
theorem CmSt.below {a b : ByteArray} {w w2 W W' : World} (h : CmSt a b w w2 W) (hb : Below W.heap.size W W') : CmSt a b w w2 W' :=
  ⟨h.k0.below hb h.k0.lt, h.k1.below hb h.k1.lt, h.k2.below hb h.k2.lt, h.k3.below hb h.k3.lt, h.bl.trans (hb.mono h.bl.size), Nat.le_trans h.sz hb.size⟩
theorem CmSt.drew {a b : ByteArray} {w w2 W : World} (h : CmSt a b w w2 W) : CmSt a b w w2 W.drew := ⟨h.k0, h.k1, h.k2, h.k3, h.bl.drew, h.sz⟩
theorem CmSt.grown {a b : ByteArray} {w w2 W W' : World} {row : Option Nat} {B : Nat} (h : CmSt a b w w2 W) (hg : W.grownBy W' row) (hr : ∀ r, row = some r → B ≤ r ∧ ∃ o : Obj, W.heap[r]? = some o ∧ o.isCells = false) (hB : w.heap.size ≤ B) : CmSt a b w w2 W' := by
  have hr2 : ∀ r, row = some r → ∃ o : Obj, W.heap[r]? = some o ∧ o.isCells = false := fun r e => (hr r e).2
  exact ⟨h.k0.kept hg hr2, h.k1.kept hg hr2, h.k2.kept hg hr2, h.k3.kept hg hr2, h.bl.grown hg h.bl.size (fun k e => Nat.le_trans hB (hr k e).1), Nat.le_trans h.sz hg.size⟩

set_option maxRecDepth 100000 in
theorem common_in (a b : ByteArray) (w : World) (h1 : ∀ w, Calls Tryz.prog 19 #[.string a] w fun e w' => e = .returned (.bool true) ∧ Below w.heap.size w w') (h2 : ∀ w, Calls Tryz.prog 19 #[.string b] w fun e w' => e = .returned (.bool true) ∧ Below w.heap.size w w') (h255 : a.size ≤ 255) :
    CallsIn Fence.wide 4 Tryz.prog 53 #[.string a, .string b] w (PairP ((commonL a b (labels a)).getD ⟨#[0]⟩, 0) w) := by
  have H1 := Lib.hid h1; have H2 := Lib.hid h2
  clear h1 h2
  have hro : Fence.wide.round = none := rfl
  have hn1 : 1 ≤ 4 := by omega
  refine callsIn_of_wp_marks Tryz.func53 rfl trivial ?_ hro
  simp only [Tryz.ntmps53, List.size_toArray, List.length_cons, List.length_nil, Nat.reduceAdd, Nat.reduceSub, Array.replicate_succ, Array.replicate_zero, List.push_toArray, List.append_toArray, List.nil_append, List.cons_append]
  gi_wp2_with (refine ⟨trivial, ?_⟩; gi_at_call 19; refine (Hid.out (p := _) ?_))
  refine Lib.hid ?_
  refine (callsIn_wide.2 (H1.out _)).mono ?_
  rintro e w1 ⟨rfl, hb1⟩
  simp only []
  obtain ⟨W0, hW0⟩ : ∃ W0, W0 = (((w.alloc (.cells #[.string a] 9)).alloc (.cells #[.string b] 9)).alloc (.cells #[.string ⟨#[]⟩] 9)).alloc (.cells #[.int .i64 0] 35) := ⟨_, rfl⟩
  have hz0 : W0.heap.size = w.heap.size + 1 + 1 + 1 + 1 := by rw [hW0]; simp
  have k0 : Blk W0 w.heap.size #[.string a] 9 := by rw [hW0]; exact (((Blk.new w _ _).alloc _).alloc _).alloc _
  have k1 : Blk W0 (w.heap.size + 1) #[.string b] 9 := by
    rw [hW0]
    have := ((Blk.new (w.alloc (.cells #[.string a] 9)) #[.string b] 9).alloc (.cells #[.string ⟨#[]⟩] 9)).alloc (.cells #[.int .i64 0] 35)
    simpa using this
  have k2 : Blk W0 (w.heap.size + 1 + 1) #[.string ⟨#[]⟩] 9 := by
    rw [hW0]
    have := (Blk.new ((w.alloc (.cells #[.string a] 9)).alloc (.cells #[.string b] 9)) #[.string ⟨#[]⟩] 9).alloc (.cells #[.int .i64 0] 35)
    simpa using this
  have k3 : Blk W0 (w.heap.size + 1 + 1 + 1) #[.int .i64 0] 35 := by
    rw [hW0]
    have := (Blk.new (((w.alloc (.cells #[.string a] 9)).alloc (.cells #[.string b] 9)).alloc (.cells #[.string ⟨#[]⟩] 9)) #[.int .i64 0] 35)
    simpa using this
  have hbl : Below w.heap.size w W0 := by
    rw [hW0]
    exact (((((Below.refl _ w).alloc (Nat.le_refl _) _).alloc (by simp) _).alloc (by simp; omega) _).alloc (by simp; omega) _)
  rw [← hW0] at hb1
  clear hW0
  have d0 := (k0.below hb1 k0.lt).cell 0
  have d1 := (k1.below hb1 k1.lt).cell 0
  have K := Lib.hid (show Blk w1 w.heap.size #[.string a] 9 ∧ Blk w1 (w.heap.size + 1) #[.string b] 9 ∧ Blk w1 (w.heap.size + 1 + 1) #[.string ⟨#[]⟩] 9 ∧ Blk w1 (w.heap.size + 1 + 1 + 1) #[.int .i64 0] 35 ∧ Below w.heap.size w w1 from
    ⟨k0.below hb1 k0.lt, k1.below hb1 k1.lt, k2.below hb1 k2.lt, k3.below hb1 k3.lt, hbl.trans (hb1.mono hbl.size)⟩)
  clear k0 k1 k2 k3 hb1 hbl hz0
  gi_wp2_with (refine ⟨trivial, ?_⟩; gi_at_call 19; refine (Hid.out (p := _) ?_))
  refine Lib.hid ?_
  refine (callsIn_wide.2 (H2.out _)).mono ?_
  rintro e w2 ⟨rfl, hb2⟩
  simp only []
  have K2 := Lib.hid (show Blk w2 w.heap.size #[.string a] 9 ∧ Blk w2 (w.heap.size + 1) #[.string b] 9 ∧ Blk w2 (w.heap.size + 1 + 1) #[.string ⟨#[]⟩] 9 ∧ Blk w2 (w.heap.size + 1 + 1 + 1) #[.int .i64 0] 35 ∧ Below w.heap.size w w2 from
    by obtain ⟨k0, k1, k2, k3, hbl⟩ := K.out; exact ⟨k0.below hb2 k0.lt, k1.below hb2 k1.lt, k2.below hb2 k2.lt, k3.below hb2 k3.lt, hbl.trans (hb2.mono hbl.size)⟩)
  clear d0 d1 K hb2
  have d0 := K2.out.1.cell 0
  have d1 := K2.out.2.1.cell 0
  gi_wp2_with (refine ⟨trivial, ?_⟩; gi_at_call 39; refine (callsIn_wide.2 (labels_any _ _)).mono ?_; rintro e w' ⟨rfl, rfl⟩)
  have hsz : w.heap.size + 1 + 1 + 1 < w2.heap.size := K2.out.2.2.2.1.lt
  have e3 : Blk (w2.alloc (.cells #[.string a] 9)) w2.heap.size #[.string a] 9 := Blk.new w2 _ _
  have hfr : ∀ W W' : World, Below W.heap.size W W' → CmSt a b w w2 W → CmSt a b w w2 W' := fun W W' h k => k.below h
  have hst : CmSt a b w w2 (w2.alloc (.cells #[.string a] 9)) := by
    obtain ⟨k0, k1, k2, k3, hbl⟩ := K2.out
    exact ⟨k0.alloc _, k1.alloc _, k2.alloc _, k3.alloc _, hbl.alloc hbl.size _, by simp⟩
  clear d0 d1 K2 H1 H2
  refine wpIn_rangeFunc_ownF (α := Lab a) (ps := #[17, 18]) hro hn1 (gf := 62) (lb := #[.pointer (some ⟨w2.heap.size, 0, none⟩)]) rfl trivial (enters_of Tryz.func62 (by kernel_rfl) rfl)
    (labels1_stops Fence.wide 3 trivial hro (by omega) w2.heap.size a _ (by omega) e3) keepsBlk_t keepsBlk_b (Below.refl _ _) (fun _ => rfl)
    (fun pre W => commonL a b (labPre pre) = none ∧ CmSt a b w w2 W)
    (fun c pre W => (∃ x, c = .ret ∧ commonL a b (labPre pre) = some x ∧ Blk W (w.heap.size + 1 + 1) #[.string x] 9 ∧ Blk W (w.heap.size + 1 + 1 + 1) #[.int .i64 0] 35) ∧ Below w.heap.size w W)
    (OwnFrom.and (fun _ _ _ _ h _ _ => h) (fun s A B row hs hg hr => hs.grown hg (fun r e => hr r e) (by simp; omega)))
    (fun c => OwnFrom.and (Own.from (fun s A B row hs hg hr => by obtain ⟨x, h1, h2, h3, h4⟩ := hs; exact ⟨x, h1, h2, h3.kept hg hr, h4.kept hg hr⟩) _) (ownFrom_below (Nat.le_refl _) (by simp; omega)))
    ⟨rfl, hst⟩
    (fun x => { tmps := #[.string a, .string b, .pointer (some ⟨w.heap.size, 0, none⟩), .pointer (some ⟨w.heap.size + 1, 0, none⟩), .pointer (some ⟨w.heap.size + 1 + 1, 0, none⟩), .pointer (some ⟨w.heap.size + 1 + 1 + 1, 0, none⟩), .int .i64 (x.1.1 : Int), .string a, .bool true, .bool false, .bool false, .string b, .bool true, .bool false, .bool false, .string a, .func (.func 62) #[] #[.pointer (some ⟨w2.heap.size, 0, none⟩)], .int .i64 (x.1.1 : Int), .string x.1.2, undef, undef, undef, undef, undef, undef, undef, undef], defers := [] }) ?assign ?body ?done ?stop
  case assign =>
    intro l x W K hK
    simp only [encLab]
    gi_wp2
    exact hK
  case body =>
    rintro l pre x W ⟨hf, hst⟩ _
    have hx := (labels_le a x.1 x.2).1
    have hu := fun w => name_under b (a.extract x.1.1 a.size) w
    have hmix : Tryz.prog.follows .mixedOrders = true := by kernel_rfl
    have q1 : (x.1.1 : Int) ≤ (a.size : Int) := by omega
    have hti : ((x.1.1 : Int)).toNat = x.1.1 := by omega
    have hn2 : 1 ≤ 4 - 1 - 1 := by omega
    have hsn := commonL_snoc a b (labPre pre) x.1 hf
    rw [← labPre_snoc] at hsn
    generalize underB b (a.extract x.1.1 a.size) = q at hu hsn
    have d0 := hst.k0.cell 0
    have d1 := hst.k1.cell 0
    have HS := Lib.hid hsn; have HU := Lib.hid hu; have ST := Lib.hid hst
    clear hx hf hsn hu hst
    cases q with
    | false =>
      gi_wp2
      gi_region_with_o (refine ⟨trivial, ?_⟩; gi_at_call 22; refine (CallsIn.inRound l (callsIn_wide.2 (HU.out _))).mono ?_; rintro e w3 ⟨rfl, hb3⟩)
      all_goals
        gi_wp2
        have hk := keeps_of_below hb3
        exact ⟨(KeepsOthers.drew W).trans hk, fun cs t h => Blk.below (w := W.drew) h hb3 h.lt, HS.out, ST.out.drew.below hb3⟩
    | true =>
      gi_wp2
      gi_region_with_o (refine ⟨trivial, ?_⟩; gi_at_call 22; refine (CallsIn.inRound l (callsIn_wide.2 (HU.out _))).mono ?_; rintro e w3 ⟨rfl, hb3⟩)
      all_goals
        have st3 := ST.out.drew.below hb3
        have d2 := st3.k0.cell 0
        have e2 := st3.k2.cell 0
        have e3 := st3.k3.cell 0
        have f2 := st3.k2.free 0
        have f3 := st3.k3.free 0
        have S3 := Lib.hid st3
        clear st3
        gi_wp2
        have hk := keeps_of_below hb3
        refine ⟨((KeepsOthers.drew W).trans hk).trans ((KeepsOthers.setCell _ _ _).trans (KeepsOthers.setCell _ _ _)), ⟨_, rfl, HS.out, (S3.out.k2.set 0 _).other (by simp) _, (S3.out.k3.other (by simp) _).set 0 _⟩, ?_⟩
        exact (S3.out.bl.setCell (p := ⟨w.heap.size + 1 + 1, 0, none⟩) (by simp; omega) _).setCell (p := ⟨w.heap.size + 1 + 1 + 1, 0, none⟩) (by simp; omega) _
  case done =>
    rintro D ys W hD hS ⟨hf, hst⟩ hK
    rw [hS] at hf
    have c2 := hst.k2.cell 0; have c3 := hst.k3.cell 0; have f2 := hst.k2.free 0; have f3 := hst.k3.free 0
    have ST := Lib.hid hst; have HF := Lib.hid hf
    clear hS hf hst
    gi_wp2
    have hD' : w.heap.size + 1 + 1 + 1 < D := by simp at hD; omega
    have g2 := (ST.out.k2.set 0 (.string ⟨#[0]⟩)).other (p := ⟨w.heap.size + 1 + 1 + 1, 0, none⟩) (by simp) (.int .i64 0)
    have g3 := (ST.out.k3.other (p := ⟨w.heap.size + 1 + 1, 0, none⟩) (by simp) (.string ⟨#[0]⟩)).set 0 (.int .i64 0)
    have hK2 : ((W.setCell ⟨w.heap.size + 1 + 1, 0, none⟩ (.string ⟨#[0]⟩)).setCell ⟨w.heap.size + 1 + 1 + 1, 0, none⟩ (.int .i64 0)).heap[D]? = some (.deferred (some [])) :=
      (heap_setCell_other _ _ _ _ (by simp; omega)).trans ((heap_setCell_other _ _ _ _ (by simp; omega)).trans hK)
    have r2 := g2.kept (grownBy_putObj' _ D (.deferred none)) (fun r e => by cases e; exact ⟨_, hK2, rfl⟩)
    have r3 := g3.kept (grownBy_putObj' _ D (.deferred none)) (fun r e => by cases e; exact ⟨_, hK2, rfl⟩)
    refine ⟨by simp, .inl ⟨_, _, rfl, run_takeDeferred hK2, ?_⟩⟩
    refine ⟨_, results2 rfl ⟨_, rfl, loadVar_one r2 Tryz.underlying9 rfl⟩ ⟨_, rfl, loadVar_one r3 Tryz.underlying35 rfl⟩, by rw [HF.out]; rfl, ?_⟩
    exact (((ST.out.bl.setCell (p := ⟨w.heap.size + 1 + 1, 0, none⟩) (by simp; omega) _).setCell (p := ⟨w.heap.size + 1 + 1 + 1, 0, none⟩) (by simp; omega) _)).trans (belowK_b (w := w) (Nat.le_refl _) _ D _ _ (by omega) hK2 rfl rfl)
  case stop =>
    rintro D c pre W hD hp ⟨⟨x, rfl, ht, b0, b1⟩, hB⟩ hK
    have HT := Lib.hid (commonL_pre hp ht)
    clear hp ht
    gi_wp2
    have hD' : w.heap.size + 1 + 1 + 1 < D := by simp at hD; omega
    have r2 := b0.kept (grownBy_putObj' _ D (.deferred none)) (fun r e => by cases e; exact ⟨_, hK, rfl⟩)
    have r3 := b1.kept (grownBy_putObj' _ D (.deferred none)) (fun r e => by cases e; exact ⟨_, hK, rfl⟩)
    refine ⟨by simp, .inl ⟨_, _, rfl, run_takeDeferred hK, ?_⟩⟩
    refine ⟨_, results2 rfl ⟨_, rfl, loadVar_one r2 Tryz.underlying9 rfl⟩ ⟨_, rfl, loadVar_one r3 Tryz.underlying35 rfl⟩, by rw [HT.out]; rfl, ?_⟩
    exact hB.trans (belowK_b (w := w) (Nat.le_refl _) _ D _ _ (by omega) hK rfl rfl)
theorem name_common (a b : ByteArray) (w : World) : Calls Tryz.prog 53 #[.string a, .string b] w (PairP (commonR a b) w) := by
  have h1 := fun w => name_right a w
  have h2 := fun w => name_right b w
  cases ha : nameRight a with
  | false =>
    rw [show commonR a b = (⟨#[]⟩, 2) from if_neg (by rw [ha]; simp)]
    rw [ha] at h1
    clear ha
    have H1 := Lib.hid h1; have H2 := Lib.hid h2
    clear h1 h2
    go_enter Tryz.func53, Tryz.ntmps53
    go_wp2_with (go_at_call 19; refine (Hid.out (p := _) ?_))
    refine Lib.hid ?_
    refine (H1.out _).mono ?_
    rintro e w1 ⟨rfl, hb1⟩
    simp only []
    obtain ⟨W0, hW0⟩ : ∃ W0, W0 = (((w.alloc (.cells #[.string a] 9)).alloc (.cells #[.string b] 9)).alloc (.cells #[.string ⟨#[]⟩] 9)).alloc (.cells #[.int .i64 0] 35) := ⟨_, rfl⟩
    have k1 : Blk W0 (w.heap.size + 1) #[.string b] 9 := by
      rw [hW0]
      have := ((Blk.new (w.alloc (.cells #[.string a] 9)) #[.string b] 9).alloc (.cells #[.string ⟨#[]⟩] 9)).alloc (.cells #[.int .i64 0] 35)
      simpa using this
    have k2 : Blk W0 (w.heap.size + 1 + 1) #[.string ⟨#[]⟩] 9 := by
      rw [hW0]
      have := (Blk.new ((w.alloc (.cells #[.string a] 9)).alloc (.cells #[.string b] 9)) #[.string ⟨#[]⟩] 9).alloc (.cells #[.int .i64 0] 35)
      simpa using this
    have k3 : Blk W0 (w.heap.size + 1 + 1 + 1) #[.int .i64 0] 35 := by
      rw [hW0]
      have := (Blk.new (((w.alloc (.cells #[.string a] 9)).alloc (.cells #[.string b] 9)).alloc (.cells #[.string ⟨#[]⟩] 9)) #[.int .i64 0] 35)
      simpa using this
    have hbl : Below w.heap.size w W0 := by
      rw [hW0]
      exact (((((Below.refl _ w).alloc (Nat.le_refl _) _).alloc (by simp) _).alloc (by simp; omega) _).alloc (by simp; omega) _)
    rw [← hW0] at hb1
    clear hW0
    replace k1 := k1.below hb1 k1.lt
    replace k2 := k2.below hb1 k2.lt
    replace k3 := k3.below hb1 k3.lt
    replace hbl := hbl.trans (hb1.mono hbl.size)
    clear hb1
    have d1 := k1.cell 0
    have e2 := k2.cell 0
    have e3 := k3.cell 0
    have f2 := k2.free 0
    have f3 := k3.free 0
    have B2 := Lib.hid k2; have B3 := Lib.hid k3; have BL := Lib.hid hbl
    clear k1 k2 k3 hbl d1
    go_wp2_with fail
    have r2 := (B2.out.set 0 (.string ⟨#[]⟩)).other (p := ⟨w.heap.size + 1 + 1 + 1, 0, none⟩) (by simp) (.int .i64 2)
    have r3 := (B3.out.other (p := ⟨w.heap.size + 1 + 1, 0, none⟩) (by simp) (.string ⟨#[]⟩)).set 0 (.int .i64 2)
    refine bodyPost_ret (results2 rfl ⟨_, rfl, loadVar_one r2 Tryz.underlying9 rfl⟩ ⟨_, rfl, loadVar_one r3 Tryz.underlying35 rfl⟩) rfl ⟨rfl, ?_⟩
    exact (BL.out.setCell (p := ⟨w.heap.size + 1 + 1, 0, none⟩) (by simp; omega) _).setCell (p := ⟨w.heap.size + 1 + 1 + 1, 0, none⟩) (by simp; omega) _
  | true =>
  cases hb : nameRight b with
  | false =>
    rw [show commonR a b = (⟨#[]⟩, 2) from if_neg (by rw [hb]; simp)]
    rw [ha] at h1; rw [hb] at h2
    clear ha hb
    have H1 := Lib.hid h1; have H2 := Lib.hid h2
    clear h1 h2
    go_enter Tryz.func53, Tryz.ntmps53
    go_wp2_with (go_at_call 19; refine (Hid.out (p := _) ?_))
    refine Lib.hid ?_
    refine (H1.out _).mono ?_
    rintro e w1 ⟨rfl, hb1⟩
    simp only []
    obtain ⟨W0, hW0⟩ : ∃ W0, W0 = (((w.alloc (.cells #[.string a] 9)).alloc (.cells #[.string b] 9)).alloc (.cells #[.string ⟨#[]⟩] 9)).alloc (.cells #[.int .i64 0] 35) := ⟨_, rfl⟩
    have k1 : Blk W0 (w.heap.size + 1) #[.string b] 9 := by
      rw [hW0]
      have := ((Blk.new (w.alloc (.cells #[.string a] 9)) #[.string b] 9).alloc (.cells #[.string ⟨#[]⟩] 9)).alloc (.cells #[.int .i64 0] 35)
      simpa using this
    have k2 : Blk W0 (w.heap.size + 1 + 1) #[.string ⟨#[]⟩] 9 := by
      rw [hW0]
      have := (Blk.new ((w.alloc (.cells #[.string a] 9)).alloc (.cells #[.string b] 9)) #[.string ⟨#[]⟩] 9).alloc (.cells #[.int .i64 0] 35)
      simpa using this
    have k3 : Blk W0 (w.heap.size + 1 + 1 + 1) #[.int .i64 0] 35 := by
      rw [hW0]
      have := (Blk.new (((w.alloc (.cells #[.string a] 9)).alloc (.cells #[.string b] 9)).alloc (.cells #[.string ⟨#[]⟩] 9)) #[.int .i64 0] 35)
      simpa using this
    have hbl : Below w.heap.size w W0 := by
      rw [hW0]
      exact (((((Below.refl _ w).alloc (Nat.le_refl _) _).alloc (by simp) _).alloc (by simp; omega) _).alloc (by simp; omega) _)
    rw [← hW0] at hb1
    clear hW0
    replace k1 := k1.below hb1 k1.lt
    replace k2 := k2.below hb1 k2.lt
    replace k3 := k3.below hb1 k3.lt
    replace hbl := hbl.trans (hb1.mono hbl.size)
    clear hb1
    have d1 := k1.cell 0
    go_wp2_with (go_at_call 19; refine (Hid.out (p := _) ?_))
    refine Lib.hid ?_
    refine (H2.out _).mono ?_
    rintro e w2 ⟨rfl, hb2⟩
    simp only []
    replace k1 := k1.below hb2 k1.lt
    replace k2 := k2.below hb2 k2.lt
    replace k3 := k3.below hb2 k3.lt
    replace hbl := hbl.trans (hb2.mono hbl.size)
    clear d1 hb2
    have d1 := k1.cell 0
    have e2 := k2.cell 0
    have e3 := k3.cell 0
    have f2 := k2.free 0
    have f3 := k3.free 0
    have B2 := Lib.hid k2; have B3 := Lib.hid k3; have BL := Lib.hid hbl
    clear k1 k2 k3 hbl d1
    go_wp2_with fail
    have r2 := (B2.out.set 0 (.string ⟨#[]⟩)).other (p := ⟨w.heap.size + 1 + 1 + 1, 0, none⟩) (by simp) (.int .i64 2)
    have r3 := (B3.out.other (p := ⟨w.heap.size + 1 + 1, 0, none⟩) (by simp) (.string ⟨#[]⟩)).set 0 (.int .i64 2)
    refine bodyPost_ret (results2 rfl ⟨_, rfl, loadVar_one r2 Tryz.underlying9 rfl⟩ ⟨_, rfl, loadVar_one r3 Tryz.underlying35 rfl⟩) rfl ⟨rfl, ?_⟩
    exact (BL.out.setCell (p := ⟨w.heap.size + 1 + 1, 0, none⟩) (by simp; omega) _).setCell (p := ⟨w.heap.size + 1 + 1 + 1, 0, none⟩) (by simp; omega) _
  | true =>
    rw [show commonR a b = _ from if_pos ⟨ha, hb⟩]
    rw [ha] at h1; rw [hb] at h2
    exact callsIn_wide.1 (common_in a b w h1 h2 (right_size0 ha).2)
end Go.Proofs.YtdflhnbpcnmpfaaGreatDoor

/- Rows of denial's proofs; slices.IndexFunc over them. -/
namespace Go.Proofs.YtdflhnbpcnmpfaaGreatDoor
open Go.RowKit

/-- A proof. -/
structure PrfD where
  owner : ByteArray
  next : ByteArray
  hash : ByteArray
  types : List Int
  out : Bool
def PrfD.cl (p : PrfD) (tv : Value) : List Value := [.string p.owner, .string p.next, .string p.hash, tv, .bool p.out]
def PrfD.v (p : PrfD) (tv : Value) : Value := .agg #[.string p.owner, .string p.next, .string p.hash, tv, .bool p.out]
/-- v is a slice that reads as these numbers. -/
def IntsAt (v : Value) (l : List Int) (w : World) : Prop :=
  ∃ A c, v = .slice A l.length c ∧ l.length ≤ 9223372036854775807 ∧ (0 < l.length → ∃ g o, A = some ⟨g, o, none⟩ ∧ g < w.heap.size ∧ ∀ j (h : j < l.length), w.cell? ⟨g, o + j, none⟩ = some (.int .i64 l[j]))
theorem IntsAt.below {v : Value} {l : List Int} {w w' : World} (h : IntsAt v l w) (hb : Below w.heap.size w w') : IntsAt v l w' := by
  obtain ⟨A, c, rfl, hm, h⟩ := h
  refine ⟨A, c, rfl, hm, fun h0 => ?_⟩
  obtain ⟨g, o, e, hg, hc⟩ := h h0
  exact ⟨g, o, e, Nat.lt_of_lt_of_le hg hb.size, fun j hj => by rw [hb.cell (p := ⟨g, o + j, none⟩) hg]; exact hc j hj⟩
theorem IntsAt.nil (w : World) : IntsAt (.slice none 0 0) [] w := ⟨none, 0, rfl, by simp, fun h => absurd h (by simp)⟩
theorem OwnI.ints {base : Nat} {v : Value} {l : List Int} {w : World} (h : OwnI base v l w) : IntsAt v l w := by
  rcases h.2 with ⟨rfl, h0⟩ | ⟨g, cap, cur, rfl, hb, hg, hn, hm, hsz, htk⟩
  · obtain rfl := List.eq_nil_of_length_eq_zero (by simpa using h0)
    exact IntsAt.nil w
  · refine ⟨some ⟨g, 0, none⟩, cap, rfl, by simp only [maxLen] at hm; omega, fun _ => ⟨g, 0, rfl, lt_of_block hg, fun i hi => ?_⟩⟩
    rw [Nat.zero_add, cell_of_row w g i cur 3 (0, 0) hg]
    have e : cur.toList[i]? = (l.map (Value.int .i64))[i]? := by
      rw [← htk, List.getElem?_take, if_pos (by simpa using hi)]
    rw [← Array.getElem?_toList, e]
    simp [hi]
/-- The proofs lie in block g, one behind the other. -/
def PrfRow (g : Nat) (l : List PrfD) (w : World) : Prop := g < w.heap.size ∧ ∀ j (h : j < l.length), ∃ tv, w.rangeAt g (j * 5) (l[j].cl tv) ∧ IntsAt tv l[j].types w
/-- v is a slice that reads as these proofs. -/
def PrfsAt (v : Value) (l : List PrfD) (w : World) : Prop := ∃ A c, v = .slice A l.length c ∧ l.length ≤ 1000000 ∧ (0 < l.length → ∃ g, A = some ⟨g, 0, none⟩ ∧ PrfRow g l w)
theorem PrfRow.below {g : Nat} {l : List PrfD} {w w' : World} (h : PrfRow g l w) (hb : Below w.heap.size w w') : PrfRow g l w' := by
  refine ⟨Nat.lt_of_lt_of_le h.1 hb.size, fun j hj => ?_⟩
  obtain ⟨tv, h1, h2⟩ := h.2 j hj
  exact ⟨tv, fun i v hv => by rw [hb.cell (p := ⟨g, j * 5 + i, none⟩) h.1]; exact h1 i v hv, h2.below hb⟩
theorem PrfsAt.below {v : Value} {l : List PrfD} {w w' : World} (h : PrfsAt v l w) (hb : Below w.heap.size w w') : PrfsAt v l w' := by
  obtain ⟨A, c, rfl, h1, h2⟩ := h
  refine ⟨A, c, rfl, h1, fun h0 => ?_⟩
  obtain ⟨g, e, hr⟩ := h2 h0
  exact ⟨g, e, hr.below hb⟩
/-- The function k with these bound tells q of a proof. -/
def AsksP (k : Nat) (bnd : Array Value) (q : PrfD → Bool) (w : World) : Prop :=
  (∀ args W, (callFunc k args).run Tryz.prog W = .ok (.enter k args) W) ∧ ∀ p tv W, Below w.heap.size w W → IntsAt tv p.types W → Calls Tryz.prog k (#[p.v tv] ++ bnd) W (BoolB (q p) W)
theorem AsksP.below {k : Nat} {bnd : Array Value} {q : PrfD → Bool} {w w' : World} (h : AsksP k bnd q w) (hb : Below w.heap.size w w') : AsksP k bnd q w' := ⟨h.1, fun p tv W h1 h2 => h.2 p tv W (hb.trans (h1.mono hb.size)) h2⟩

def idxOf (q : PrfD → Bool) (l : List PrfD) : Int := match l.findIdx? q with | some i => (i : Int) | none => -1
theorem info_prf : (Tryz.prog.info? 58).map (fun i => (i.size, i.bytes)) = some (5, 80) := by kernel_rfl
theorem info_prf5 : (Tryz.prog.info? 58).map (·.size) = some 5 := by kernel_rfl

theorem idxOf_at {q : PrfD → Bool} {l : List PrfD} {j : Nat} (h : j < l.length) (hno : ∀ x ∈ l.take j, q x = false) (hq : q l[j] = true) : idxOf q l = (j : Int) := by
  have : l.findIdx? q = some j := List.findIdx?_eq_some_iff_getElem.2 ⟨h, hq, fun i hi => by
    have := hno l[i] (List.mem_take_iff_getElem.2 ⟨i, by omega, rfl⟩)
    rw [this]; simp⟩
  rw [idxOf, this]
theorem idxOf_none {q : PrfD → Bool} {l : List PrfD} (hno : ∀ x ∈ l, q x = false) : idxOf q l = -1 := by
  have : l.findIdx? q = none := List.findIdx?_eq_none_iff.2 fun x hx => hno x hx
  rw [idxOf, this]
set_option maxRecDepth 100000 in
theorem index_func (l : List PrfD) (v : Value) (k : Nat) (bnd : Array Value) (q : PrfD → Bool) (w : World) (hl : PrfsAt v l w) (hk : AsksP k bnd q w) :
    Calls Tryz.prog 45 #[v, .func (.func k) #[] bnd] w fun e w' => e = .returned (.int .i64 (idxOf q l)) ∧ Below w.heap.size w w' := by
  obtain ⟨A, c, rfl, hlen, hA⟩ := hl
  have HA := Lib.hid hA; have HK := Lib.hid hk
  have hlb : (l.length : Int) ≤ 1000000 := by omega
  clear hA hk hlen
  go_enter Tryz.func45, Tryz.ntmps45
  go_wp2_with fail
  go_loopw [8] (fun i wr => ∃ j : Nat, j ≤ l.length ∧ i = .int .i64 j ∧ Hid (∀ x ∈ l.take j, q x = false) ∧ Hid (Below w.heap.size w wr)) (fun i _ => l.length - (intOf i).toNat)
  case atStart => exact ⟨0, Nat.zero_le _, rfl, Lib.hid (fun x hx => by simp at hx), Lib.hid (Below.refl _ _)⟩
  case round =>
    obtain ⟨j, hj, rfl, hno, hB⟩ := hrel
    by_cases hlt : j < l.length
    · obtain ⟨g, rfl, hrow⟩ := HA.out (by omega)
      have hrow2 := (hrow.below hB.out).2 j hlt
      obtain ⟨tv, hra, hti⟩ := hrow2
      have hcall := HK.out.2 l[j] tv wr hB.out hti
      have hcf := HK.out.1 (#[l[j].v tv] ++ bnd)
      have q1 : (j : Int) < (l.length : Int) := by omega
      have hfi : ∀ b, q l[j] = b → ∀ x ∈ l.take (j + 1), q x = false ∨ (x = l[j] ∧ b = true) := fun b hb x hx => by
        rw [List.take_succ_eq_append_getElem hlt] at hx
        rcases List.mem_append.1 hx with h | h
        · exact .inl (hno.out x h)
        · obtain rfl : x = l[j] := by simpa using h
          cases b
          · exact .inl hb
          · exact .inr ⟨rfl, rfl⟩
      have hix : q l[j] = true → idxOf q l = (j : Int) := fun hb => idxOf_at hlt hno.out hb
      have c0 : wr.cell? ⟨g, j * 5, none⟩ = some (.string l[j].owner) := hra 0 _ rfl
      have c1 : wr.cell? ⟨g, j * 5 + 1, none⟩ = some (.string l[j].next) := hra 1 _ rfl
      have c2 : wr.cell? ⟨g, j * 5 + 2, none⟩ = some (.string l[j].hash) := hra 2 _ rfl
      have c3 : wr.cell? ⟨g, j * 5 + 3, none⟩ = some tv := hra 3 _ rfl
      have c4 : wr.cell? ⟨g, j * 5 + 4, none⟩ = some (.bool l[j].out) := hra 4 _ rfl
      simp only [PrfD.v] at hcall hcf
      generalize l[j].owner = x0 at *
      generalize l[j].next = x1 at *
      generalize l[j].hash = x2 at *
      generalize l[j].out = x3 at *
      generalize hqb : q l[j] = b at *
      have HF := Lib.hid hfi; have HX := Lib.hid hix; have HC := Lib.hid hcall; have HCF := Lib.hid hcf; have HQB := Lib.hid hqb
      clear hra hti hfi hix hcall hcf hqb
      go_wp2_with fail
      rw [HCF.out wr, Oper.upon_enter]
      refine HC.out.mono ?_
      rintro e w2 ⟨rfl, hb2⟩
      simp only []
      have HB2 := Lib.hid (hB.out.trans (hb2.mono hB.out.size))
      cases b with
      | false =>
        have hno2 : ∀ x ∈ l.take (j + 1), q x = false := fun x hx => by
          rcases HF.out false rfl x hx with h | h
          · exact h
          · cases h.2
        have HN2 := Lib.hid hno2
        clear hno2 HF HX hno hb2
        go_wp2_with fail
        go_roundw
        case rel => exact ⟨j + 1, by omega, by go_num, HN2, HB2⟩
        case measure => simp [intOf]; omega
      | true =>
        have hx := HX.out rfl
        have HX2 := Lib.hid hx
        clear hx HF HX hno hb2
        go_wp2_with fail
        go_ret
        exact ⟨ret_int HX2.out.symm, HB2.out⟩
    · obtain rfl : j = l.length := by omega
      have hn := hno.out
      rw [List.take_length] at hn
      have HX2 := Lib.hid (idxOf_none hn)
      clear hn hno
      go_wp2_with fail
      go_ret
      exact ⟨ret_int HX2.out.symm, hB.out⟩
end Go.Proofs.YtdflhnbpcnmpfaaGreatDoor

/- denial's proofs: first; has, lacks, bare; worth. -/
namespace Go.Proofs.YtdflhnbpcnmpfaaGreatDoor
open Go.RowKit

/-- The proofs of a zone's NSECs, at block b. -/
def PsAt (b : Nat) (l : List PrfD) (apex : ByteArray) (w : World) : Prop := ∃ lv, Blk w b #[lv, .bool false, .string ⟨#[]⟩, .int .i64 0, .string apex] 56 ∧ PrfsAt lv l w
theorem PsAt.below {b : Nat} {l : List PrfD} {apex : ByteArray} {w w' : World} (h : PsAt b l apex w) (hb : Below w.heap.size w w') : PsAt b l apex w' := by
  obtain ⟨lv, h1, h2⟩ := h
  exact ⟨lv, h1.below hb h1.lt, h2.below hb⟩
theorem PsAt.lt {b : Nat} {l : List PrfD} {apex : ByteArray} {w : World} (h : PsAt b l apex w) : b < w.heap.size := by obtain ⟨_, h, _⟩ := h; exact h.lt
def zPrf : PrfD := ⟨⟨#[]⟩, ⟨#[]⟩, ⟨#[]⟩, [], false⟩
/-- A proof that is told, or none. -/
def FirstP (p : Option PrfD) (w0 w : World) (e : Ending) (w' : World) : Prop :=
  Below w.heap.size w w' ∧ ∃ tv, e = .returned (.tuple #[(p.getD zPrf).v tv, .bool p.isSome]) ∧ IntsAt tv (p.getD zPrf).types w0
set_option maxRecDepth 100000 in
theorem den_first (b : Nat) (l : List PrfD) (apex : ByteArray) (k : Nat) (bnd : Array Value) (q : PrfD → Bool) (w0 w : World) (hp : PsAt b l apex w0) (hw : Below w0.heap.size w0 w) (hk : AsksP k bnd q w) :
    Calls Tryz.prog 23 #[.pointer (some ⟨b, 0, none⟩), .func (.func k) #[] bnd] w (FirstP (l.find? q) w0 w) := by
  obtain ⟨lv, hb, hl⟩ := hp
  replace hb := hb.below hw hb.lt
  have hbw : Below w.heap.size w (w.alloc (.cells #[.string ⟨#[]⟩, .string ⟨#[]⟩, .string ⟨#[]⟩, .slice none 0 0, .bool false] 58)) := (Below.refl _ w).alloc (Nat.le_refl _) _
  have hix := index_func l lv k bnd q _ ((hl.below hw).below hbw) (hk.below hbw)
  have c0 := (hb.alloc (.cells #[.string ⟨#[]⟩, .string ⟨#[]⟩, .string ⟨#[]⟩, .slice none 0 0, .bool false] 58)).cell 0
  obtain ⟨A, c, rfl, hlen, hA⟩ := hl
  cases hfi : l.findIdx? q with
  | none =>
    have hfd : l.find? q = none := List.find?_eq_none.2 fun x hx h => by
      have := List.findIdx?_eq_none_iff.1 hfi x hx
      rw [this] at h; cases h
    have hi : idxOf q l = -1 := by rw [idxOf, hfi]
    rw [hi] at hix
    rw [hfd]
    clear hi hfd hfi
    have HI := Lib.hid hix; have HB := Lib.hid hb
    clear hix
    go_enter Tryz.func23, Tryz.ntmps23
    go_wp2_with (go_at_call 45; refine (Hid.out (p := _) ?_))
    refine Lib.hid ?_
    refine HI.out.mono ?_
    rintro e w2 ⟨rfl, hb2⟩
    simp only []
    have hB := ((HB.out.alloc (.cells #[.string ⟨#[]⟩, .string ⟨#[]⟩, .string ⟨#[]⟩, .slice none 0 0, .bool false] 58)).below hb2 (by have := hb.lt; simp; omega))
    have hN := (Blk.new w #[.string ⟨#[]⟩, .string ⟨#[]⟩, .string ⟨#[]⟩, .slice none 0 0, .bool false] 58).below hb2 (by simp)
    have d0 := hB.cell 0
    have c1 := hN.cell 0; have c2 := hN.cell 1; have c3 := hN.cell 2; have c4 := hN.cell 3; have c5 := hN.cell 4
    have f0 := fun j => hN.free j
    have hbe : Below w.heap.size w w2 := hbw.trans (hb2.mono hbw.size)
    have HN := Lib.hid hN; have HBE := Lib.hid hbe
    clear hN hbe hB hk hA HI HB hb c0 hb2 hbw
    go_wp2_with fail
    refine bodyPost_ret (results2 rfl ⟨_, rfl, loadVar_blk (cs := #[.string ⟨#[]⟩, .string ⟨#[]⟩, .string ⟨#[]⟩, .slice none 0 0, .bool false]) (t := 58) ?_ Tryz.underlying58 rfl info_prf5⟩ rfl) rfl ⟨?_, .slice none 0 0, rfl, IntsAt.nil _⟩
    · simpa using (((((HN.out.set 0 (.string ⟨#[]⟩)).set 1 (.string ⟨#[]⟩)).set 2 (.string ⟨#[]⟩)).set 3 (.slice none 0 0)).set 4 (.bool false))
    · iterate 5 refine Below.setCell ?_ (by exact Nat.le_refl _) _
      exact HBE.out
  | some j =>
    obtain ⟨hj, hq, hno⟩ := List.findIdx?_eq_some_iff_getElem.1 hfi
    have hfd : l.find? q = some l[j] := List.find?_eq_some_iff_getElem.2 ⟨hq, j, hj, rfl, fun i hi => by simpa using hno i hi⟩
    have hi : idxOf q l = (j : Int) := by rw [idxOf, hfi]
    rw [hi] at hix
    rw [hfd]
    obtain ⟨g, rfl, hrow⟩ := hA (by omega)
    obtain ⟨tv, hra0, hti⟩ := hrow.2 j hj
    have hg := hrow.1
    have q1 : (j : Int) < (l.length : Int) := by omega
    have q2 : decide ((j : Int) < 0) = false := decide_eq_false (by omega)
    clear hi hfd hfi hno hq hA hrow
    generalize l[j] = p at *
    obtain ⟨x0, x1, x2, x3, x4⟩ := p
    obtain ⟨A2, cc, rfl, hti⟩ := hti
    have HI := Lib.hid hix; have HB := Lib.hid hb
    clear hix
    go_enter Tryz.func23, Tryz.ntmps23
    go_wp2_with (go_at_call 45; refine (Hid.out (p := _) ?_))
    refine Lib.hid ?_
    refine HI.out.mono ?_
    rintro e w2 ⟨rfl, hb2⟩
    simp only []
    have hB := ((HB.out.alloc (.cells #[.string ⟨#[]⟩, .string ⟨#[]⟩, .string ⟨#[]⟩, .slice none 0 0, .bool false] 58)).below hb2 (by have := hb.lt; simp; omega))
    have hN := (Blk.new w #[.string ⟨#[]⟩, .string ⟨#[]⟩, .string ⟨#[]⟩, .slice none 0 0, .bool false] 58).below hb2 (by simp)
    have d0 := hB.cell 0
    have c1 := hN.cell 0; have c2 := hN.cell 1; have c3 := hN.cell 2; have c4 := hN.cell 3; have c5 := hN.cell 4
    have f0 := fun j => hN.free j
    have hbe : Below w.heap.size w w2 := hbw.trans (hb2.mono hbw.size)
    have hra : w2.rangeAt g (j * 5) (PrfD.cl ⟨x0, x1, x2, x3, x4⟩ (.slice A2 x3.length cc)) := fun i v hv => by rw [hbe.cell (p := ⟨g, j * 5 + i, none⟩) (Nat.lt_of_lt_of_le hg hw.size), hw.cell (p := ⟨g, j * 5 + i, none⟩) hg]; exact hra0 i v hv
    have e0 : w2.cell? ⟨g, j * 5, none⟩ = some (.string x0) := hra 0 _ rfl
    have e1 : w2.cell? ⟨g, j * 5 + 1, none⟩ = some (.string x1) := hra 1 _ rfl
    have e2 : w2.cell? ⟨g, j * 5 + 2, none⟩ = some (.string x2) := hra 2 _ rfl
    have e3 : w2.cell? ⟨g, j * 5 + 3, none⟩ = some (.slice A2 x3.length cc) := hra 3 _ rfl
    have e4 : w2.cell? ⟨g, j * 5 + 4, none⟩ = some (.bool x4) := hra 4 _ rfl
    have HN := Lib.hid hN; have HBE := Lib.hid hbe; have HT := Lib.hid hti
    clear hN hbe hB hk HI HB hb c0 hb2 hbw hra hra0 hti
    go_wp2_with fail
    have hbf : Below w.heap.size w (((((w2.setCell ⟨w.heap.size, 0, none⟩ (.string x0)).setCell ⟨w.heap.size, 1, none⟩ (.string x1)).setCell ⟨w.heap.size, 2, none⟩ (.string x2)).setCell ⟨w.heap.size, 3, none⟩ (.slice A2 x3.length cc)).setCell ⟨w.heap.size, 4, none⟩ (.bool x4)) := by
      iterate 5 refine Below.setCell ?_ (by exact Nat.le_refl _) _
      exact HBE.out
    refine bodyPost_ret (results2 rfl ⟨_, rfl, loadVar_blk (cs := #[.string x0, .string x1, .string x2, .slice A2 x3.length cc, .bool x4]) (t := 58) ?_ Tryz.underlying58 rfl info_prf5⟩ rfl) rfl ⟨hbf, .slice A2 x3.length cc, ?_, ?_⟩
    · simpa using (((((HN.out.set 0 (.string x0)).set 1 (.string x1)).set 2 (.string x2)).set 3 (.slice A2 x3.length cc)).set 4 (.bool x4))
    · rfl
    · exact ⟨A2, cc, rfl, HT.out⟩
end Go.Proofs.YtdflhnbpcnmpfaaGreatDoor

/- denial's proofs: has, lacks, bare; worth; encloser. -/
namespace Go.Proofs.YtdflhnbpcnmpfaaGreatDoor
open Go.RowKit

def PrfD.has (p : PrfD) (k : Int) : Bool := p.types.contains k
theorem contains_any (v : Value) (l : List Int) (k : Int) (w : World) (h : IntsAt v l w) : Calls Tryz.prog 77 #[v, .int .i64 k] w fun e w' => e = .returned (.bool (l.contains k)) ∧ w = w' := by
  obtain ⟨A, c, rfl, hm, h⟩ := h
  rcases Nat.eq_zero_or_pos l.length with h0 | h0
  · obtain rfl := List.eq_nil_of_length_eq_zero h0
    refine (Tryz.slices_Contains_int_empty A c k w).mono ?_
    rintro e w' ⟨rfl, rfl⟩
    exact ⟨rfl, rfl⟩
  · obtain ⟨g, o, rfl, hg, hc⟩ := h h0
    refine (Tryz.slices_Contains_int g o l.length c l k w (Nat.le_refl _) hm (fun j hj => ?_)).mono ?_
    · rw [hc j hj]; simp [List.getD, List.getElem?_eq_getElem hj]
    · rintro e w' ⟨rfl, rfl⟩
      exact ⟨by rw [List.take_length], rfl⟩
set_option maxRecDepth 100000 in
theorem prf_has (p : PrfD) (tv : Value) (k : Int) (w : World) (h : IntsAt tv p.types w) : Calls Tryz.prog 51 #[p.v tv, .int .i64 k] w (BoolB (p.has k) w) := by
  obtain ⟨x0, x1, x2, x3, x4⟩ := p
  have hb : Below w.heap.size w (w.alloc (.cells #[.string x0, .string x1, .string x2, tv, .bool x4] 58)) := (Below.refl _ w).alloc (Nat.le_refl _) _
  have hct := contains_any tv x3 k _ (h.below hb)
  obtain ⟨A, c, rfl, _⟩ := h
  have HC := Lib.hid hct; have HB := Lib.hid hb
  clear hct hb
  simp only [PrfD.v, PrfD.has]
  generalize x3.contains k = q at *
  go_enter Tryz.func51, Tryz.ntmps51
  go_wp2_with (go_at_call 77; refine (HC.out).mono ?_; rintro e w1 ⟨rfl, rfl⟩)
  go_ret
  exact ⟨rfl, HB.out⟩

def PrfD.lacks (p : PrfD) (k : Int) : Bool := !(if k = 43 then p.has 6 && !decide (p.owner = ⟨#[0]⟩) else p.has 2 && !p.has 6) && !p.has k && !p.has 5
def PrfD.bare (p : PrfD) : Bool := p.has 2 && !p.has 43 && !p.has 6
set_option maxRecDepth 100000 in
theorem prf_bare (p : PrfD) (tv : Value) (w : World) (h : IntsAt tv p.types w) : Calls Tryz.prog 30 #[p.v tv] w (BoolB p.bare w) := by
  have hh : ∀ k W, Below w.heap.size w W → Calls Tryz.prog 51 #[p.v tv, .int .i64 k] W (BoolB (p.has k) W) := fun k W hb => prf_has p tv k W (h.below hb)
  have hr : p.bare = (p.has 2 && !p.has 43 && !p.has 6) := rfl
  have h2 := hh 2; have h43 := hh 43; have h6 := hh 6
  generalize p.has 2 = b2 at *
  generalize p.has 43 = b43 at *
  generalize p.has 6 = b6 at *
  rw [hr]
  obtain ⟨x0, x1, x2, x3, x4⟩ := p
  obtain ⟨A, c, rfl, _⟩ := h
  simp only [PrfD.v] at *
  have H2 := Lib.hid h2; have H43 := Lib.hid h43; have H6 := Lib.hid h6
  clear h2 h43 h6 hh hr
  have bl : Below w.heap.size w (w.alloc (.cells #[.string x0, .string x1, .string x2, .slice A x3.length c, .bool x4] 58)) := (Below.refl _ w).alloc (Nat.le_refl _) _
  have hN := Blk.new w #[.string x0, .string x1, .string x2, .slice A x3.length c, .bool x4] 58
  have c0 := hN.cell 0; have c1 := hN.cell 1; have c2 := hN.cell 2; have c3 := hN.cell 3; have c4 := hN.cell 4
  cases b2 <;> cases b43 <;> cases b6
  all_goals
    go_enter Tryz.func30, Tryz.ntmps30
    go_wp2_with (first | (go_at_call 51; (with_reducible refine (H2.out _ bl).mono ?_); rintro e w2 ⟨rfl, hb⟩; replace bl := bl.trans (hb.mono bl.size); replace hN := hN.below hb hN.lt; clear hb c0 c1 c2 c3 c4; have c0 := hN.cell 0; have c1 := hN.cell 1; have c2 := hN.cell 2; have c3 := hN.cell 3; have c4 := hN.cell 4) | (go_at_call 51; (with_reducible refine (H43.out _ bl).mono ?_); rintro e w2 ⟨rfl, hb⟩; replace bl := bl.trans (hb.mono bl.size); replace hN := hN.below hb hN.lt; clear hb c0 c1 c2 c3 c4; have c0 := hN.cell 0; have c1 := hN.cell 1; have c2 := hN.cell 2; have c3 := hN.cell 3; have c4 := hN.cell 4) | (go_at_call 51; (with_reducible refine (H6.out _ bl).mono ?_); rintro e w2 ⟨rfl, hb⟩; replace bl := bl.trans (hb.mono bl.size); replace hN := hN.below hb hN.lt; clear hb c0 c1 c2 c3 c4; have c0 := hN.cell 0; have c1 := hN.cell 1; have c2 := hN.cell 2; have c3 := hN.cell 3; have c4 := hN.cell 4))
    go_ret
    exact ⟨rfl, bl⟩
set_option maxRecDepth 100000 in
set_option maxHeartbeats 4000000 in
theorem prf_lacks (p : PrfD) (tv : Value) (k : Int) (w : World) (h : IntsAt tv p.types w) : Calls Tryz.prog 31 #[p.v tv, .int .i64 k] w (BoolB (p.lacks k) w) := by
  have hh : ∀ k W, Below w.heap.size w W → Calls Tryz.prog 51 #[p.v tv, .int .i64 k] W (BoolB (p.has k) W) := fun k W hb => prf_has p tv k W (h.below hb)
  have hr : p.lacks k = (!(if k = 43 then p.has 6 && !decide (p.owner = ⟨#[0]⟩) else p.has 2 && !p.has 6) && !p.has k && !p.has 5) := rfl
  have h2 := hh 2; have h5 := hh 5; have h6 := hh 6; have hk := hh k
  generalize p.has 2 = b2 at *
  generalize p.has 5 = b5 at *
  generalize p.has 6 = b6 at *
  generalize p.has k = bk at *
  rw [hr]
  obtain ⟨x0, x1, x2, x3, x4⟩ := p
  obtain ⟨A, c, rfl, _⟩ := h
  simp only [PrfD.v] at *
  have H2 := Lib.hid h2; have H5 := Lib.hid h5; have H6 := Lib.hid h6; have HK := Lib.hid hk
  clear h2 h5 h6 hk hh hr
  have bl : Below w.heap.size w (w.alloc (.cells #[.string x0, .string x1, .string x2, .slice A x3.length c, .bool x4] 58)) := (Below.refl _ w).alloc (Nat.le_refl _) _
  have hN := Blk.new w #[.string x0, .string x1, .string x2, .slice A x3.length c, .bool x4] 58
  have c0 := hN.cell 0; have c1 := hN.cell 1; have c2 := hN.cell 2; have c3 := hN.cell 3; have c4 := hN.cell 4
  by_cases hk : k = 43
  · have qk : (k == 43) = true := beq_iff_eq.2 hk
    by_cases ho : x0 = ⟨#[0]⟩
    · have qo : (x0.toList == [0]) = true := beq_iff_eq.2 (by rw [ho, ByteArray.toList_eq])
      rw [if_pos hk, decide_eq_true ho]
      clear hk ho
      cases b2 <;> cases b6 <;> cases bk <;> cases b5
      all_goals
        go_enter Tryz.func31, Tryz.ntmps31
        go_wp2_with (first | (go_at_call 51; (with_reducible refine (H2.out _ bl).mono ?_); rintro e w2 ⟨rfl, hb⟩; replace bl := bl.trans (hb.mono bl.size); replace hN := hN.below hb hN.lt; clear hb c0 c1 c2 c3 c4; have c0 := hN.cell 0; have c1 := hN.cell 1; have c2 := hN.cell 2; have c3 := hN.cell 3; have c4 := hN.cell 4) | (go_at_call 51; (with_reducible refine (H5.out _ bl).mono ?_); rintro e w2 ⟨rfl, hb⟩; replace bl := bl.trans (hb.mono bl.size); replace hN := hN.below hb hN.lt; clear hb c0 c1 c2 c3 c4; have c0 := hN.cell 0; have c1 := hN.cell 1; have c2 := hN.cell 2; have c3 := hN.cell 3; have c4 := hN.cell 4) | (go_at_call 51; (with_reducible refine (H6.out _ bl).mono ?_); rintro e w2 ⟨rfl, hb⟩; replace bl := bl.trans (hb.mono bl.size); replace hN := hN.below hb hN.lt; clear hb c0 c1 c2 c3 c4; have c0 := hN.cell 0; have c1 := hN.cell 1; have c2 := hN.cell 2; have c3 := hN.cell 3; have c4 := hN.cell 4) | (go_at_call 51; (with_reducible refine (HK.out _ bl).mono ?_); rintro e w2 ⟨rfl, hb⟩; replace bl := bl.trans (hb.mono bl.size); replace hN := hN.below hb hN.lt; clear hb c0 c1 c2 c3 c4; have c0 := hN.cell 0; have c1 := hN.cell 1; have c2 := hN.cell 2; have c3 := hN.cell 3; have c4 := hN.cell 4))
        go_ret
        exact ⟨rfl, bl⟩
    · have qo : (x0.toList == [0]) = false := beq_eq_false_iff_ne.2 (fun e => toList_ne ho (e.trans (by rw [ByteArray.toList_eq])))
      rw [if_pos hk, decide_eq_false ho]
      clear hk ho
      cases b2 <;> cases b6 <;> cases bk <;> cases b5
      all_goals
        go_enter Tryz.func31, Tryz.ntmps31
        go_wp2_with (first | (go_at_call 51; (with_reducible refine (H2.out _ bl).mono ?_); rintro e w2 ⟨rfl, hb⟩; replace bl := bl.trans (hb.mono bl.size); replace hN := hN.below hb hN.lt; clear hb c0 c1 c2 c3 c4; have c0 := hN.cell 0; have c1 := hN.cell 1; have c2 := hN.cell 2; have c3 := hN.cell 3; have c4 := hN.cell 4) | (go_at_call 51; (with_reducible refine (H5.out _ bl).mono ?_); rintro e w2 ⟨rfl, hb⟩; replace bl := bl.trans (hb.mono bl.size); replace hN := hN.below hb hN.lt; clear hb c0 c1 c2 c3 c4; have c0 := hN.cell 0; have c1 := hN.cell 1; have c2 := hN.cell 2; have c3 := hN.cell 3; have c4 := hN.cell 4) | (go_at_call 51; (with_reducible refine (H6.out _ bl).mono ?_); rintro e w2 ⟨rfl, hb⟩; replace bl := bl.trans (hb.mono bl.size); replace hN := hN.below hb hN.lt; clear hb c0 c1 c2 c3 c4; have c0 := hN.cell 0; have c1 := hN.cell 1; have c2 := hN.cell 2; have c3 := hN.cell 3; have c4 := hN.cell 4) | (go_at_call 51; (with_reducible refine (HK.out _ bl).mono ?_); rintro e w2 ⟨rfl, hb⟩; replace bl := bl.trans (hb.mono bl.size); replace hN := hN.below hb hN.lt; clear hb c0 c1 c2 c3 c4; have c0 := hN.cell 0; have c1 := hN.cell 1; have c2 := hN.cell 2; have c3 := hN.cell 3; have c4 := hN.cell 4))
        go_ret
        exact ⟨rfl, bl⟩
  · have qk : (k == 43) = false := beq_eq_false_iff_ne.2 hk
    rw [if_neg hk]
    clear hk
    cases b2 <;> cases b6 <;> cases bk <;> cases b5
    all_goals
      go_enter Tryz.func31, Tryz.ntmps31
      go_wp2_with (first | (go_at_call 51; (with_reducible refine (H2.out _ bl).mono ?_); rintro e w2 ⟨rfl, hb⟩; replace bl := bl.trans (hb.mono bl.size); replace hN := hN.below hb hN.lt; clear hb c0 c1 c2 c3 c4; have c0 := hN.cell 0; have c1 := hN.cell 1; have c2 := hN.cell 2; have c3 := hN.cell 3; have c4 := hN.cell 4) | (go_at_call 51; (with_reducible refine (H5.out _ bl).mono ?_); rintro e w2 ⟨rfl, hb⟩; replace bl := bl.trans (hb.mono bl.size); replace hN := hN.below hb hN.lt; clear hb c0 c1 c2 c3 c4; have c0 := hN.cell 0; have c1 := hN.cell 1; have c2 := hN.cell 2; have c3 := hN.cell 3; have c4 := hN.cell 4) | (go_at_call 51; (with_reducible refine (H6.out _ bl).mono ?_); rintro e w2 ⟨rfl, hb⟩; replace bl := bl.trans (hb.mono bl.size); replace hN := hN.below hb hN.lt; clear hb c0 c1 c2 c3 c4; have c0 := hN.cell 0; have c1 := hN.cell 1; have c2 := hN.cell 2; have c3 := hN.cell 3; have c4 := hN.cell 4) | (go_at_call 51; (with_reducible refine (HK.out _ bl).mono ?_); rintro e w2 ⟨rfl, hb⟩; replace bl := bl.trans (hb.mono bl.size); replace hN := hN.below hb hN.lt; clear hb c0 c1 c2 c3 c4; have c0 := hN.cell 0; have c1 := hN.cell 1; have c2 := hN.cell 2; have c3 := hN.cell 3; have c4 := hN.cell 4))
      go_ret
      exact ⟨rfl, bl⟩
end Go.Proofs.YtdflhnbpcnmpfaaGreatDoor

/- denial's worth, and the encloser of a proof. -/
namespace Go.Proofs.YtdflhnbpcnmpfaaGreatDoor
open Go.RowKit

def worthI (ok : Bool) (p : PrfD) : Int := if ok = false then 0 else if p.out = true then 2 else 1
theorem den_worth (ok : Bool) (p : PrfD) (tv : Value) (w : World) (h : IntsAt tv p.types w) : Calls Tryz.prog 28 #[.bool ok, p.v tv] w fun e w' => e = .returned (.int .i64 (worthI ok p)) ∧ Below w.heap.size w w' := by
  obtain ⟨x0, x1, x2, x3, x4⟩ := p
  obtain ⟨A, c, rfl, _⟩ := h
  simp only [PrfD.v, worthI] at *
  have bl : Below w.heap.size w (w.alloc (.cells #[.string x0, .string x1, .string x2, .slice A x3.length c, .bool x4] 58)) := (Below.refl _ w).alloc (Nat.le_refl _) _
  have hN := Blk.new w #[.string x0, .string x1, .string x2, .slice A x3.length c, .bool x4] 58
  have c4 := hN.cell 4
  clear hN
  cases ok <;> cases x4
  all_goals
    go_enter Tryz.func28, Tryz.ntmps28
    go_wp2_with fail
    go_ret
    exact ⟨rfl, bl⟩
def PrfD.encl (p : PrfD) (n : ByteArray) : ByteArray := if (commonR n p.owner).1.size < (commonR n p.next).1.size then (commonR n p.next).1 else (commonR n p.owner).1
set_option maxRecDepth 100000 in
theorem prf_encloser (p : PrfD) (tv : Value) (n : ByteArray) (w : World) (h : IntsAt tv p.types w) : Calls Tryz.prog 29 #[p.v tv, .string n] w fun e w' => e = .returned (.string (p.encl n)) ∧ Below w.heap.size w w' := by
  have h1 : ∀ W, Calls Tryz.prog 53 #[.string n, .string p.owner] W fun e w' => e = .returned (.tuple #[.string (commonR n p.owner).1, .int .i64 (commonR n p.owner).2]) ∧ Below W.heap.size W w' := fun W => name_common n p.owner W
  have h2 : ∀ W, Calls Tryz.prog 53 #[.string n, .string p.next] W fun e w' => e = .returned (.tuple #[.string (commonR n p.next).1, .int .i64 (commonR n p.next).2]) ∧ Below W.heap.size W w' := fun W => name_common n p.next W
  have hr : p.encl n = (if (commonR n p.owner).1.size < (commonR n p.next).1.size then (commonR n p.next).1 else (commonR n p.owner).1) := rfl
  rw [hr]
  clear hr
  generalize (commonR n p.owner).1 = a1 at *
  generalize (commonR n p.owner).2 = a2 at *
  generalize (commonR n p.next).1 = b1 at *
  generalize (commonR n p.next).2 = b2 at *
  obtain ⟨x0, x1, x2, x3, x4⟩ := p
  obtain ⟨A, c, rfl, _⟩ := h
  simp only [PrfD.v] at *
  have H1 := Lib.hid h1; have H2 := Lib.hid h2
  clear h1 h2
  have bl : Below w.heap.size w (w.alloc (.cells #[.string x0, .string x1, .string x2, .slice A x3.length c, .bool x4] 58)) := (Below.refl _ w).alloc (Nat.le_refl _) _
  have hN := Blk.new w #[.string x0, .string x1, .string x2, .slice A x3.length c, .bool x4] 58
  have c0 := hN.cell 0
  by_cases hc : a1.size < b1.size
  · rw [if_pos hc]
    have q1 : decide ((a1.size : Int) < (b1.size : Int)) = true := decide_eq_true (by omega)
    go_enter Tryz.func29, Tryz.ntmps29
    go_wp2_with (go_at_call 53; refine (Hid.out (p := _) ?_))
    refine Lib.hid ?_
    refine (H1.out _).mono ?_
    rintro e w2 ⟨rfl, hb⟩
    replace bl := bl.trans (hb.mono bl.size)
    replace hN := hN.below hb hN.lt
    clear hb c0
    have c0 := hN.cell 1
    simp only []
    go_wp2_with (go_at_call 53; refine (Hid.out (p := _) ?_))
    refine Lib.hid ?_
    refine (H2.out _).mono ?_
    rintro e w3 ⟨rfl, hb⟩
    replace bl := bl.trans (hb.mono bl.size)
    clear hb c0
    simp only []
    go_wp2_with fail
    go_ret
    exact ⟨rfl, bl⟩
  · rw [if_neg hc]
    have q1 : decide ((a1.size : Int) < (b1.size : Int)) = false := decide_eq_false (by omega)
    go_enter Tryz.func29, Tryz.ntmps29
    go_wp2_with (go_at_call 53; refine (Hid.out (p := _) ?_))
    refine Lib.hid ?_
    refine (H1.out _).mono ?_
    rintro e w2 ⟨rfl, hb⟩
    replace bl := bl.trans (hb.mono bl.size)
    replace hN := hN.below hb hN.lt
    clear hb c0
    have c0 := hN.cell 1
    simp only []
    go_wp2_with (go_at_call 53; refine (Hid.out (p := _) ?_))
    refine Lib.hid ?_
    refine (H2.out _).mono ?_
    rintro e w3 ⟨rfl, hb⟩
    replace bl := bl.trans (hb.mono bl.size)
    clear hb c0
    simp only []
    go_wp2_with fail
    go_ret
    exact ⟨rfl, bl⟩
end Go.Proofs.YtdflhnbpcnmpfaaGreatDoor

/- name.Labels. -/
namespace Go.Proofs.YtdflhnbpcnmpfaaGreatDoor
open Go.RowKit Go.Shelf
attribute [local go_sem] Oper.semAt_some

theorem ownS_appendIn {F : Fence} {n : Nat} {ops : Array Oper} {rest : List Oper} {o : Oper} {a : Act} {Q : Exit → Act → World → Prop} {base : Nat} {v : Value} {l : List ByteArray} {W : World} (HO : OwnS base v l W) (hbase : base ≤ W.heap.size) (x : ByteArray) (hl : l.length + 1 ≤ 1000000)
    (hgd : o.guard = none) (s y : Operand) (ho : o.op = .call { callee := .builtin .append, args := #[s, y], argTypes := #[24, 24] }) (cs : Array Value) (m c : Nat) (hs : a.eval s = v) (hx : a.eval y = .slice (some ⟨W.heap.size, 0, none⟩) m c) (hcs : cs = #[.string x]) (hm : m = 1)
    (h : ∀ v1 w1, OwnS base v1 (l ++ [x]) w1 → (W.alloc (.cells cs 9)).grownBy w1 v.ownBlock → wpListIn F n Tryz.prog ops Q rest (a.put o.dst v1) w1) : wpListIn F n Tryz.prog ops Q (o :: rest) a (W.alloc (.cells cs 9)) := by
  subst hcs hm
  obtain ⟨i0, hi, hzz⟩ := Option.map_eq_some_iff.1 info_str
  simp only [Prod.mk.injEq] at hzz
  obtain ⟨hz0, hz1, hz2⟩ := hzz
  refine wpListIn_append_own_at (W.alloc (.cells #[.string x] 9)) hgd s y 24 ho base 9 i0 (.string ⟨#[]⟩) 1 16 Tryz.underlying24 hi hz0 hz1 hz2 rfl (by omega) v l.length (l.map .string) hs (World.ownsRow.alloc HO _) ⟨W.heap.size, 0, none⟩ 1 c [.string x] hx rfl
    (World.news_of_block (cs := #[.string x]) (t := 9) (fr := (0, 0)) (heap_alloc_new W _)) (by intro u hu; simp at hu; obtain rfl := hu; rfl) (by simp only [maxLen]; omega) (by omega) (by simp; omega) ?_
  intro v1 w1 hown hg _ _
  exact h v1 w1 (by simpa [OwnS] using hown) hg

theorem OwnS.kept {base : Nat} {v : Value} {l : List ByteArray} {W W' : World} {row : Option Nat} (h : OwnS base v l W) (hg : W.grownBy W' row) (hrow : ∀ r, row = some r → ∃ o : Obj, W.heap[r]? = some o ∧ o.isCells = false) : OwnS base v l W' := by
  refine ⟨h.1, ?_⟩
  rcases h.2 with h | ⟨g, cap, cur, h1, h2, h3, h4⟩
  · exact .inl h
  · refine .inr ⟨g, cap, cur, h1, h2, ?_, h4⟩
    rw [hg.block g (Array.getElem?_eq_some_iff.1 h3).1]
    · exact h3
    · intro e
      obtain ⟨o, ho, hc⟩ := hrow g e.symm
      rw [h3] at ho
      cases ho
      simp [Obj.isCells] at hc
theorem OwnS.others {base : Nat} {v : Value} {l : List ByteArray} {W W1 W' : World} (h : OwnS base v l W) (h1 : KeepsOthers W W1) (hs : ∀ j, j < W.heap.size → W1.heap[j]? = W.heap[j]?) (hg : W1.grownBy W' v.ownBlock) : KeepsOthers W W' := by
  refine h1.trans (KeepsOthers.of_grownBy hg ?_)
  intro j o hj ho
  rcases h.2 with ⟨rfl, _⟩ | ⟨g, cap, cur, rfl, h2, h3, h4⟩
  · cases hj
  · obtain rfl : g = j := by simpa [Value.ownBlock] using hj
    rw [hs g (Array.getElem?_eq_some_iff.1 h3).1, h3] at ho
    cases ho
    rfl

theorem labsN_len (s : ByteArray) : ∀ (f p : Nat), p ≤ s.size → (labs s f p).length + p ≤ s.size := by
  intro f
  induction f with
  | zero => intro p h; simp [labs]; exact h
  | succ f ih =>
    intro p h
    rw [labs]
    split
    · rename_i hc
      have := ih _ hc.2.2.2
      simp only [List.length_cons]
      omega
    · simpa using h
theorem labelsN_len (s : ByteArray) : (labels s).length ≤ s.size := by
  have := labsN_len s (s.size + 1) 0 (Nat.zero_le _)
  exact this

set_option maxRecDepth 100000 in
theorem name_labels_in (s : ByteArray) (w : World) (hr : nameRight s = true) :
    CallsIn Fence.wide 4 Tryz.prog 35 #[.string s] w fun e w' => (∃ v, e = .returned v ∧ OwnS w.heap.size v ((labels s).map (·.2)) w') ∧ Below w.heap.size w w' := by
  have h255 : s.size ≤ 255 := by simp [nameRight] at hr; omega
  have hrc := fun w => name_right s w
  rw [hr] at hrc
  have HR := Lib.hid hrc
  clear hrc hr
  have hro : Fence.wide.round = none := rfl
  have hn1 : 1 ≤ 4 := by omega
  refine callsIn_of_wp_marks Tryz.func35 rfl trivial ?_ hro
  simp only [Tryz.ntmps35, List.size_toArray, List.length_cons, List.length_nil, Nat.reduceAdd, Nat.reduceSub, Array.replicate_succ, Array.replicate_zero, List.push_toArray, List.append_toArray, List.nil_append, List.cons_append]
  gi_wp2_with (first | (refine ⟨trivial, ?_⟩; gi_at_call 39; refine (callsIn_wide.2 (labels_any _ _)).mono ?_; rintro e w' ⟨rfl, rfl⟩) | (refine ⟨trivial, ?_⟩; gi_at_call 19; refine (callsIn_wide.2 (HR.out _)).mono ?_; rintro e w1 ⟨rfl, hB1⟩))
  have hB0 : Below w.heap.size w ((w1.alloc (.cells #[.slice none 0 0] 24)).alloc (.cells #[.string s] 9)) := (hB1.alloc hB1.size _).alloc (by simp; have := hB1.size; omega) _
  have b0 : Blk ((w1.alloc (.cells #[.slice none 0 0] 24)).alloc (.cells #[.string s] 9)) w1.heap.size #[.slice none 0 0] 24 := (Blk.new w1 _ _).alloc _
  have b1 : Blk ((w1.alloc (.cells #[.slice none 0 0] 24)).alloc (.cells #[.string s] 9)) (w1.heap.size + 1) #[.string s] 9 := by
    have := Blk.new (w1.alloc (.cells #[.slice none 0 0] 24)) #[.string s] 9
    simpa using this
  have hsz : w.heap.size ≤ w1.heap.size := hB1.size
  clear HR hB1
  refine wpIn_rangeFunc_ownF (α := Lab s) (ps := #[11, 12]) hro hn1 (gf := 62) (lb := #[.pointer (some ⟨w1.heap.size + 1, 0, none⟩)]) rfl trivial (enters_of Tryz.func62 (by kernel_rfl) rfl)
    (labels1_stops Fence.wide 3 trivial hro (by omega) (w1.heap.size + 1) s _ (by omega) b1) keepsBlk_t keepsBlk_b (Below.refl _ _) (fun _ => rfl)
    (fun pre W => (∃ v, Blk W w1.heap.size #[v] 24 ∧ OwnS (w1.heap.size + 1 + 1) v ((labPre pre).map (·.2)) W) ∧ (w1.heap.size + 1 + 1 ≤ W.heap.size ∧ Below w.heap.size w W))
    (fun _ _ _ => False)
    (OwnFrom.and (Own.from (fun s A B row hs hg hr => by obtain ⟨v, h1, h2⟩ := hs; exact ⟨v, h1.kept hg hr, h2.kept hg hr⟩) _) (OwnFrom.and (Own.from (fun s A B row hs hg hr => Nat.le_trans hs hg.size) _) (ownFrom_below (Nat.le_refl _) (by simp; omega))))
    (fun _ _ _ _ _ hs _ _ => hs)
    ⟨⟨_, b0, OwnS.nil _ _⟩, by simp, hB0⟩
    (fun x => { tmps := #[.string s, undef, .slice none 0 0, .pointer (some ⟨w1.heap.size, 0, none⟩), undef, .string x.1.2, .string s, .bool true, .bool false, .string s, .func (.func 62) #[] #[.pointer (some ⟨w1.heap.size + 1, 0, none⟩)], .int .i64 (x.1.1 : Int), .string x.1.2, undef, undef, undef, undef, undef], defers := [] }) ?assign ?body ?done ?stop
  case assign =>
    intro l x W K hK
    simp only [encLab]
    gi_wp2
    exact hK
  case body =>
    rintro l pre x W ⟨⟨v, hb, ho⟩, hs, hB⟩ hN
    have hlen : ((labPre pre).map (·.2)).length ≤ s.size := by simp only [labPre, List.length_map]; have := labelsN_len s; omega
    have hc : W.cell? ⟨w1.heap.size, 0, none⟩ = some v := hb.cell 0
    have hf := hb.free 0
    obtain ⟨A, c0, rfl⟩ := OwnS.len ho
    have hpre : (labPre (pre ++ [x])).map (·.2) = (labPre pre).map (·.2) ++ [x.1.2] := by rw [labPre_snoc]; simp
    have HP := Lib.hid hpre
    clear hpre
    generalize (labPre pre).map (·.2) = ls at *
    have HB := Lib.hid hb; have HO := Lib.hid ho; have HS := Lib.hid hs; have HBB := Lib.hid hB; have HL := Lib.hid hlen
    clear hb ho hs hB hlen
    gi_wp2_with (gi_at_builtin; refine ownS_appendIn (base := w1.heap.size + 1 + 1) HO.out HS.out x.1.2 (by have := HL.out; omega) rfl _ _ rfl _ 1 1 rfl rfl rfl rfl ?_; intro v1 w2 ho2 hg2; obtain ⟨A2, c2, rfl⟩ := OwnS.len ho2; have hb2 : Blk w2 w1.heap.size #[.slice A ls.length c0] 24 := (show w2.heap[w1.heap.size]? = _ from (hg2.block _ (HB.out.alloc _).lt (fun e => by have := ownBase HO.out _ e.symm; omega)).trans (HB.out.alloc _)); have hc2 := hb2.cell 0; have hf2 := hb2.free 0; replace ho2 := Lib.hid ho2; replace hg2 := Lib.hid hg2; replace hb2 := Lib.hid hb2)
    have hk2 : KeepsOthers W w2 := OwnS.others HO.out (KeepsOthers.alloc W _) (fun j hj => Below.heap_alloc _ _ j hj) hg2.out
    have hB2 : Below w.heap.size w w2 := (HBB.out.alloc HBB.out.size _).grown hg2.out (by have := HBB.out.size; simp; omega) (fun k hk => by have := ownBase HO.out k hk; omega)
    refine ⟨hk2.trans (KeepsOthers.setCell _ _ _), ?_, ⟨_, hb2.out.set 0 _, ?_⟩, ?_, hB2.setCell (p := ⟨w1.heap.size, 0, none⟩) hsz _⟩
    · intro cs t hb
      have e1 : Blk w2 (w1.heap.size + 1) cs t := (show w2.heap[w1.heap.size + 1]? = _ from (hg2.out.block _ (hb.alloc _).lt (fun e => by have := ownBase HO.out _ e.symm; omega)).trans (hb.alloc _))
      exact e1.other (by simp) _
    · rw [HP.out]
      have e2 : OwnS (w1.heap.size + 1 + 1) (.slice A2 (ls.length + 1) c2) (ls ++ [x.1.2]) w2 := by simpa using ho2.out
      exact e2.only (Only.setCell (b := w1.heap.size) ⟨w1.heap.size, 0, none⟩ rfl _) (by omega)
    · have := hg2.out.size
      have := HS.out
      simp at *
      omega
  case done =>
    rintro D ys W hD hS ⟨⟨v, hb, ho⟩, hs, hB⟩ hK
    rw [hS] at ho
    have hc : W.cell? ⟨w1.heap.size, 0, none⟩ = some v := hb.cell 0
    have HO := Lib.hid ho
    clear hS hb ho
    gi_wp2
    refine ⟨by simp, .inl ⟨_, _, rfl, run_takeDeferred hK, ?_⟩⟩
    exact ⟨_, results_tmp rfl _ _ _, ⟨v, rfl, (HO.out.kept (grownBy_putObj' W D _) (fun r e => by cases e; exact ⟨_, hK, rfl⟩)).lift (by omega)⟩, hB.trans (belowK_b (w := w) (Nat.le_refl _) W D _ _ (by simp at hD; omega) hK rfl rfl)⟩
  case stop =>
    rintro D c pre W _ _ h _
    exact h.elim

/-- name.Labels. -/
theorem name_labels (s : ByteArray) (w : World) : Calls Tryz.prog 35 #[.string s] w (NamesP (if nameRight s = true then (labels s).map (·.2) else []) w) := by
  by_cases h : nameRight s = true
  · rw [if_pos h]
    refine (callsIn_wide.1 (name_labels_in s w h)).mono ?_
    rintro e w' ⟨⟨v, h1, h2⟩, h3⟩
    exact ⟨h3, v, h1, h2⟩
  · rw [if_neg h]
    have hr := name_right s
    rw [show nameRight s = false by simpa using h] at hr
    have HR := Lib.hid hr
    clear hr
    go_enter Tryz.func35, Tryz.ntmps35
    go_wp2_with (go_at_call 19; refine (HR.out _).mono ?_; rintro e w1 ⟨rfl, hB1⟩)
    go_ret
    exact ⟨hB1, _, rfl, OwnS.nil _ _⟩
end Go.Proofs.YtdflhnbpcnmpfaaGreatDoor

/- name.Compare. -/
namespace Go.Proofs.YtdflhnbpcnmpfaaGreatDoor
open Go.RowKit Go.BigFrame

/-- The labels of a name, in small letters, the last one first. -/
def backLabels (a : ByteArray) : List ByteArray := ((labels (nameLower a)).map (·.2)).reverse
def nameCmp (a b : ByteArray) : Int :=
  if nameRight a = false then (if nameRight b = false then Lib.compareBytes a.data.toList b.data.toList else -1)
  else if nameRight b = false then 1 else cmpL (backLabels a) (backLabels b)
def lenV : Value → Nat
  | .slice _ n _ => n
  | _ => 0
theorem cmpL_take {la lb : List ByteArray} {j k : Nat} (hj : j < la.length) (hk : k < lb.length) :
    cmpL (la.take (j + 1)).reverse (lb.take (k + 1)).reverse = if Lib.compareBytes la[j].data.toList lb[k].data.toList ≠ 0 then Lib.compareBytes la[j].data.toList lb[k].data.toList else cmpL (la.take j).reverse (lb.take k).reverse := by
  rw [List.take_succ_eq_append_getElem hj, List.take_succ_eq_append_getElem hk, List.reverse_append, List.reverse_append]
  rfl
theorem cmpL_end (la lb : List ByteArray) (j k : Nat) (hj : j ≤ la.length) (hk : k ≤ lb.length) (h : j = 0 ∨ k = 0) : cmpL (la.take j).reverse (lb.take k).reverse = (min 1 (j : Int)) - min 1 (k : Int) := by
  cases j with
  | zero =>
    cases k with
    | zero => rfl
    | succ k =>
      rw [List.take_succ_eq_append_getElem (by omega : k < lb.length), List.reverse_append]
      simp [cmpL]; omega
  | succ j =>
    obtain rfl : k = 0 := by omega
    rw [List.take_succ_eq_append_getElem (by omega : j < la.length), List.reverse_append]
    simp [cmpL]; omega
theorem OwnS.cap_le {base : Nat} {A : Option Addr} {n c : Nat} {l : List ByteArray} {w : World} (h : OwnS base (.slice A n c) l w) : l.length ≤ c := by
  rcases h.2 with ⟨_, h0⟩ | ⟨g, cap, cur, h1, _, _, h3, _⟩
  · omega
  · cases h1; exact h3
def CmpP (a b : ByteArray) (w : World) (e : Ending) (w' : World) : Prop := e = .returned (.int .i64 (nameCmp a b)) ∧ Below w.heap.size w w'
theorem cmp_wrong (a b : ByteArray) (w : World) (h : ¬ (nameRight a = true ∧ nameRight b = true)) : Calls Tryz.prog 17 #[.string a, .string b] w (CmpP a b w) := by
  have h1 := fun w => name_right a w
  have h2 := fun w => name_right b w
  have hr : nameCmp a b = (if nameRight a = false then (if nameRight b = false then Lib.compareBytes a.data.toList b.data.toList else -1) else if nameRight b = false then 1 else cmpL (backLabels a) (backLabels b)) := rfl
  have HE := Lib.hid hr
  clear hr
  generalize nameRight a = p at *
  generalize nameRight b = q at *
  cases p with
  | false =>
    cases q with
    | false =>
      have H1 := Lib.hid h1; have H2 := Lib.hid h2
      clear h1 h2
      go_enter Tryz.func17, Tryz.ntmps17
      go_wp2_with (go_at_call 19; refine (Hid.out (p := _) ?_))
      refine Lib.hid ?_
      refine (H1.out _).mono ?_
      rintro e w1 ⟨rfl, hb1⟩
      simp only []
      go_wp2_with (go_at_call 19; refine (Hid.out (p := _) ?_))
      refine Lib.hid ?_
      refine (H2.out _).mono ?_
      rintro e w2 ⟨rfl, hb2⟩
      have HB2 := Lib.hid (hb1.trans (hb2.mono hb1.size))
      clear hb1 hb2
      simp only []
      go_wp2_with (go_at_call 34; refine (Tryz.strings_Compare _ _ _).mono ?_; rintro e w3 ⟨rfl, rfl⟩)
      go_ret
      exact ⟨by rw [HE.out]; rfl, HB2.out⟩
    | true =>
      have H1 := Lib.hid h1; have H2 := Lib.hid h2
      clear h1 h2
      go_enter Tryz.func17, Tryz.ntmps17
      go_wp2_with (go_at_call 19; refine (Hid.out (p := _) ?_))
      refine Lib.hid ?_
      refine (H1.out _).mono ?_
      rintro e w1 ⟨rfl, hb1⟩
      simp only []
      go_wp2_with (go_at_call 19; refine (Hid.out (p := _) ?_))
      refine Lib.hid ?_
      refine (H2.out _).mono ?_
      rintro e w2 ⟨rfl, hb2⟩
      have HB2 := Lib.hid (hb1.trans (hb2.mono hb1.size))
      clear hb1 hb2
      simp only []
      go_wp2_with fail
      go_ret
      exact ⟨by rw [HE.out]; rfl, HB2.out⟩
  | true =>
    cases q with
    | false =>
      have H1 := Lib.hid h1; have H2 := Lib.hid h2
      clear h1 h2
      go_enter Tryz.func17, Tryz.ntmps17
      go_wp2_with (go_at_call 19; refine (Hid.out (p := _) ?_))
      refine Lib.hid ?_
      refine (H1.out _).mono ?_
      rintro e w1 ⟨rfl, hb1⟩
      simp only []
      go_wp2_with (go_at_call 19; refine (Hid.out (p := _) ?_))
      refine Lib.hid ?_
      refine (H2.out _).mono ?_
      rintro e w2 ⟨rfl, hb2⟩
      have HB2 := Lib.hid (hb1.trans (hb2.mono hb1.size))
      clear hb1 hb2
      simp only []
      go_wp2_with fail
      go_ret
      exact ⟨by rw [HE.out]; rfl, HB2.out⟩
    | true => exact absurd ⟨rfl, rfl⟩ h

set_option maxRecDepth 100000 in
set_option maxHeartbeats 1000000 in
theorem cmp_right (a b : ByteArray) (w : World) (ha : nameRight a = true) (hb : nameRight b = true) : Calls Tryz.prog 17 #[.string a, .string b] w (CmpP a b w) := by
  have h1 := fun w => name_right a w
  have h2 := fun w => name_right b w
  have h3 := fun w => name_lower a w
  have h4 := fun w => name_lower b w
  have h5 := fun w => name_labels (nameLower a) w
  have h6 := fun w => name_labels (nameLower b) w
  have hla : ((labels (nameLower a)).map (·.2)).length ≤ 255 := by
    have e1 := labelsN_len (nameLower a)
    have e2 : nameRight (nameLower a) = true := by rw [right_lower, ha]
    simp only [nameRight, Bool.and_eq_true, decide_eq_true_eq] at e2
    rw [List.length_map]; omega
  have hlb : ((labels (nameLower b)).map (·.2)).length ≤ 255 := by
    have e1 := labelsN_len (nameLower b)
    have e2 : nameRight (nameLower b) = true := by rw [right_lower, hb]
    simp only [nameRight, Bool.and_eq_true, decide_eq_true_eq] at e2
    rw [List.length_map]; omega
  rw [right_lower, ha] at h5
  rw [right_lower, hb] at h6
  simp only [if_true] at h5 h6
  have hr : nameCmp a b = cmpL ((labels (nameLower a)).map (·.2)).reverse ((labels (nameLower b)).map (·.2)).reverse := by rw [nameCmp, ha, hb]; rfl
  have HE := Lib.hid hr
  clear hr
  rw [ha] at h1; rw [hb] at h2
  generalize (labels (nameLower a)).map (·.2) = la at *
  generalize (labels (nameLower b)).map (·.2) = lb at *
  generalize nameLower a = x at *
  generalize nameLower b = y at *
  have HLA := Lib.hid hla; have HLB := Lib.hid hlb
  clear hla hlb
  have H3 := Lib.hid h3; have H4 := Lib.hid h4; have H5 := Lib.hid h5; have H6 := Lib.hid h6
  clear h3 h4 h5 h6 ha hb
  have H1 := Lib.hid h1; have H2 := Lib.hid h2
  clear h1 h2
  go_enter Tryz.func17, Tryz.ntmps17
  go_wp2_with (go_at_call 19; refine (Hid.out (p := _) ?_))
  refine Lib.hid ?_
  refine (H1.out _).mono ?_
  rintro e w1 ⟨rfl, hb1⟩
  simp only []
  go_wp2_with (go_at_call 19; refine (Hid.out (p := _) ?_))
  refine Lib.hid ?_
  refine (H2.out _).mono ?_
  rintro e w2 ⟨rfl, hb2⟩
  have HB2 := Lib.hid (hb1.trans (hb2.mono hb1.size))
  clear hb1 hb2
  simp only []
  go_wp2_with (go_at_call 20; refine (Hid.out (p := _) ?_))
  refine Lib.hid ?_
  refine (H3.out _).mono ?_
  rintro e w3 ⟨rfl, hb3⟩
  simp only []
  go_wp2_with (go_at_call 35; refine (Hid.out (p := _) ?_))
  refine Lib.hid ?_
  refine (H5.out _).mono ?_
  rintro e w4 ⟨hb4, v4, rfl, ho4⟩
  simp only []
  go_wp2_with (go_at_call 20; refine (Hid.out (p := _) ?_))
  refine Lib.hid ?_
  refine (H4.out _).mono ?_
  rintro e w5 ⟨rfl, hb5⟩
  simp only []
  go_wp2_with (go_at_call 35; refine (Hid.out (p := _) ?_))
  refine Lib.hid ?_
  refine (H6.out _).mono ?_
  rintro e w6 ⟨hb6, v6, rfl, ho6⟩
  have hs4 := ((OwnS.strs ho4).below hb5).below hb6
  have hs6 := OwnS.strs ho6
  have HB6 := Lib.hid ((((HB2.out.trans (hb3.mono HB2.out.size)).trans (hb4.mono (Nat.le_trans HB2.out.size hb3.size))).trans (hb5.mono (Nat.le_trans HB2.out.size (Nat.le_trans hb3.size hb4.size)))).trans (hb6.mono (Nat.le_trans HB2.out.size (Nat.le_trans hb3.size (Nat.le_trans hb4.size hb5.size)))))
  obtain ⟨A, c1, rfl, hA⟩ := hs4
  obtain ⟨B, c2, rfl, hB⟩ := hs6
  have HA := Lib.hid hA; have HB := Lib.hid hB
  have HC1 := Lib.hid (OwnS.cap_le ho4); have HC2 := Lib.hid (OwnS.cap_le ho6)
  clear hb3 hb4 hb5 hb6 ho4 ho6 hA hB
  simp only []
  go_wp2_with fail
  go_loopw [7, 8] (fun v u wr => ∃ j k : Nat, j ≤ la.length ∧ k ≤ lb.length ∧ v = .slice A j c1 ∧ u = .slice B k c2 ∧ Hid (cmpL la.reverse lb.reverse = cmpL (la.take j).reverse (lb.take k).reverse) ∧ Hid (Below w6.heap.size w6 wr)) (fun v _ _ => lenV v)
  case atStart => exact ⟨la.length, lb.length, Nat.le_refl _, Nat.le_refl _, rfl, rfl, Lib.hid (by rw [List.take_length, List.take_length]), Lib.hid (Below.refl _ _)⟩
  case round =>
    obtain ⟨j, k, hj, hk, rfl, rfl, HC, HW⟩ := hrel
    by_cases h0 : j = 0 ∨ k = 0
    · have hf := cmpL_end la lb j k hj hk h0
      have HF := Lib.hid (HC.out.trans hf)
      clear hf
      by_cases hz : j = 0
      · subst hz
        have q1 : decide ((0 : Int) < ((0 : Nat) : Int)) = false := rfl
        go_wp2_with fail
        go_ret
        exact ⟨ret_int (by rw [HE.out, HF.out]; rfl), HB6.out.trans (HW.out.mono HB6.out.size)⟩
      · obtain rfl : k = 0 := by omega
        have q1 : decide ((0 : Int) < (j : Int)) = true := by simp; omega
        have q2 : decide ((0 : Int) < ((0 : Nat) : Int)) = false := rfl
        go_wp2_with fail
        go_ret
        exact ⟨ret_int (by rw [HE.out, HF.out]; rfl), HB6.out.trans (HW.out.mono HB6.out.size)⟩
    · obtain ⟨m, hm⟩ : ∃ i, j = i + 1 := ⟨j - 1, by omega⟩
      obtain ⟨n, hn⟩ : ∃ i, k = i + 1 := ⟨k - 1, by omega⟩
      obtain ⟨g, o, rfl, hg, hcg⟩ := HA.out (by omega)
      obtain ⟨g2, o2, rfl, hg2, hcg2⟩ := HB.out (by omega)
      have d1 := HW.out.cell (p := ⟨g, o + m, none⟩) hg
      rw [hcg m (by omega)] at d1
      have d2 := HW.out.cell (p := ⟨g2, o2 + n, none⟩) hg2
      rw [hcg2 n (by omega)] at d2
      have q1 : decide ((0 : Int) < (j : Int)) = true := by simp; omega
      have q2 : decide ((0 : Int) < (k : Int)) = true := by simp; omega
      have q3 : (0 : Int) ≤ (m : Int) := by omega
      have q4 : (m : Int) < (j : Int) := by omega
      have q5 : (0 : Int) ≤ (n : Int) := by omega
      have q6 : (n : Int) < (k : Int) := by omega
      have q7 : (m : Int) ≤ (j : Int) := by omega
      have q8 : (n : Int) ≤ (k : Int) := by omega
      have r1 : IntKind.i64.wrap ((j : Int) - 1) = (m : Int) := by rw [show ((j : Int) - 1) = (m : Int) by omega]; exact IntWalk.i64_in _ (by have := HLA.out; omega)
      have r2 : IntKind.i64.wrap ((k : Int) - 1) = (n : Int) := by rw [show ((k : Int) - 1) = (n : Int) by omega]; exact IntWalk.i64_in _ (by have := HLB.out; omega)
      rw [hm, hn] at HC
      have hst := cmpL_take (la := la) (lb := lb) (j := m) (k := n) (by omega) (by omega)
      generalize la[m] = lx at *
      generalize lb[n] = ly at *
      have HST := Lib.hid (HC.out.trans hst)
      replace hm := Lib.hid hm; replace hn := Lib.hid hn
      clear hst HC hcg hcg2
      by_cases hc : Lib.compareBytes lx.data.toList ly.data.toList = 0
      · have hcc := fun w => Tryz.strings_Compare lx ly w
        rw [hc] at hcc
        have HCC := Lib.hid hcc
        replace hc := Lib.hid hc
        clear hcc
        go_wp2_with fail
        go_quiet ((go_at_call 34; exact Calls.quiet_of_same (HCC.out _)))
        go_wp2_with fail
        have s1 : (m : Int) ≤ (c1 : Int) := by have := HC1.out; omega
        have s2 : (n : Int) ≤ (c2 : Int) := by have := HC2.out; omega
        go_quiet (fail)
        go_wp2_with fail
        go_roundw
        case rel =>
          refine ⟨m, n, by omega, by omega, rfl, rfl, Lib.hid ?_, Lib.hid ?_⟩
          · have := HST.out
            rw [hc.out] at this
            simpa using this
          · exact ⟨HW.out.os, HW.out.tape, HW.out.output, HW.out.size, HW.out.block⟩
        case measure => simp [lenV]; omega
      · have hcc := fun w => Tryz.strings_Compare lx ly w
        have hst := HST.out
        rw [if_pos hc] at hst
        have hne : (Lib.compareBytes lx.data.toList ly.data.toList == 0) = false := by rw [beq_eq_false_iff_ne]; exact hc
        generalize Lib.compareBytes lx.data.toList ly.data.toList = c at *
        have HCC := Lib.hid hcc
        have HS2 := Lib.hid hst
        clear hcc hst HST hc
        go_wp2_with fail
        go_quiet ((go_at_call 34; exact Calls.quiet_of_same (HCC.out _)))
        go_wp2_with fail
        go_ret
        exact ⟨ret_int (by rw [HE.out, HS2.out]), (fun e : Below w.heap.size w wr => ⟨e.os, e.tape, e.output, e.size, e.block⟩) (HB6.out.trans (HW.out.mono HB6.out.size))⟩
/-- name.Compare. -/
theorem name_compare (a b : ByteArray) (w : World) : Calls Tryz.prog 17 #[.string a, .string b] w (CmpP a b w) := by
  by_cases h : nameRight a = true ∧ nameRight b = true
  · exact cmp_right a b w h.1 h.2
  · exact cmp_wrong a b w h
end Go.Proofs.YtdflhnbpcnmpfaaGreatDoor

/- Whether a name is between two others: the plain law of it. -/
namespace Go.Proofs.YtdflhnbpcnmpfaaGreatDoor
open Go.RowKit

theorem lowS_lowS (s : ByteArray) : lowS (lowS s) = lowS s := by
  apply ByteArray.ext
  simp only [lowS, Array.map_map]
  congr 1
  funext b
  exact smallB_smallB b
theorem lower_lower (s : ByteArray) (h : nameRight s = true) : lowS (nameLower s) = nameLower s := by
  rw [nameLower, if_pos h, lowS_lowS]
theorem back_inj {a b : ByteArray} (ha : nameRight a = true) (hb : nameRight b = true) (h : backLabels a = backLabels b) : nameLower a = nameLower b := by
  have e : (labels (nameLower a)).map (·.2) = (labels (nameLower b)).map (·.2) := by
    have := congrArg List.reverse h
    simpa only [backLabels, List.reverse_reverse] using this
  have h1 := lowT_all (s := nameLower a) (by rw [right_lower, ha])
  have h2 := lowT_all (s := nameLower b) (by rw [right_lower, hb])
  rw [e] at h1
  rw [← lower_lower a ha, ← lower_lower b hb, ← h1, ← h2]
theorem nameCmp_right {a b : ByteArray} (ha : nameRight a = true) (hb : nameRight b = true) : nameCmp a b = cmpL (backLabels a) (backLabels b) := by
  rw [nameCmp, ha, hb]; rfl
theorem nameCmp_self (a : ByteArray) (ha : nameRight a = true) : nameCmp a a = 0 := by rw [nameCmp_right ha ha, cmpL_self]
theorem nameCmp_anti {a b : ByteArray} (ha : nameRight a = true) (hb : nameRight b = true) : nameCmp b a = - nameCmp a b := by rw [nameCmp_right ha hb, nameCmp_right hb ha, cmpL_anti]
theorem nameCmp_trans {a b c : ByteArray} (ha : nameRight a = true) (hb : nameRight b = true) (hc : nameRight c = true) (h1 : nameCmp a b < 0) (h2 : nameCmp b c < 0) : nameCmp a c < 0 := by
  rw [nameCmp_right ha hb] at h1
  rw [nameCmp_right hb hc] at h2
  rw [nameCmp_right ha hc]
  exact cmpL_trans _ _ _ h1 h2
theorem nameCmp_eq {a b : ByteArray} (ha : nameRight a = true) (hb : nameRight b = true) : nameCmp a b = 0 ↔ nameEq a b = true := by
  rw [nameCmp_right ha hb, nameEq, ha, hb]
  simp only [Bool.and_self, Bool.true_and, decide_eq_true_eq]
  constructor
  · intro h; exact back_inj ha hb (cmpL_eq _ _ h)
  · intro h; rw [backLabels, backLabels, h, cmpL_self]

/-- denial.Between. -/
def btwB (a n b : ByteArray) : Bool :=
  if (nameRight a && nameRight n && nameRight b) = false then false
  else if nameCmp a b < 0 then decide (nameCmp a n < 0) && decide (nameCmp n b < 0)
  else decide (nameCmp a n < 0) || (decide (nameCmp n b < 0) && !nameEq a n)

theorem btwB_sides {a n b : ByteArray} (ha : nameRight a = true) (hn : nameRight n = true) (hb : nameRight b = true) (h1 : nameEq a b = false) (h2 : nameEq a n = false) (h3 : nameEq n b = false) :
    btwB a n b ≠ btwB b n a ∧ btwB a a b = false ∧ btwB a b b = false ∧ btwB a n a = true := by
  have e1 : nameCmp a b ≠ 0 := fun e => by rw [(nameCmp_eq ha hb).1 e] at h1; cases h1
  have e2 : nameCmp a n ≠ 0 := fun e => by rw [(nameCmp_eq ha hn).1 e] at h2; cases h2
  have e3 : nameCmp n b ≠ 0 := fun e => by rw [(nameCmp_eq hn hb).1 e] at h3; cases h3
  have a1 := nameCmp_anti ha hb
  have a2 := nameCmp_anti ha hn
  have a3 := nameCmp_anti hn hb
  have s1 := nameCmp_self a ha
  have s2 := nameCmp_self b hb
  have h4 : nameEq b n = false := by
    rw [Bool.eq_false_iff]; intro e; exact e3 (by have := (nameCmp_eq hb hn).2 e; omega)
  have t1 : nameCmp a n < 0 → nameCmp n b < 0 → nameCmp a b < 0 := nameCmp_trans ha hn hb
  have t2 : nameCmp b n < 0 → nameCmp n a < 0 → nameCmp b a < 0 := nameCmp_trans hb hn ha
  have z : nameEq a a = true := (nameCmp_eq ha ha).1 s1
  simp only [btwB, ha, hb, hn, Bool.and_self, h2, h4, z, Bool.true_eq_false, if_false, Bool.not_false, Bool.and_true, Bool.not_true, Bool.and_false, s1, s2]
  refine ⟨?_, ?_, ?_, ?_⟩
  · by_cases p1 : nameCmp a b < 0
    · rw [if_pos p1, if_neg (by omega)]
      intro e
      rw [Bool.eq_iff_iff] at e
      simp only [Bool.and_eq_true, Bool.or_eq_true, decide_eq_true_eq] at e
      by_cases p2 : nameCmp a n < 0 <;> by_cases p3 : nameCmp n b < 0 <;> simp only [p2, p3, true_and, and_true, false_and, and_false, true_iff, false_iff, not_or] at e <;> omega
    · rw [if_neg p1, if_pos (by omega)]
      intro e
      rw [Bool.eq_iff_iff] at e
      simp only [Bool.and_eq_true, Bool.or_eq_true, decide_eq_true_eq] at e
      by_cases p2 : nameCmp a n < 0 <;> by_cases p3 : nameCmp n b < 0 <;> simp only [p2, p3, true_or, or_true, or_self, false_or, or_false, true_iff, false_iff, not_and] at e <;> omega
  · split
    · simp
    · simp
  · split
    · simp
    · rename_i h; simp [h]
  · simp only [Int.lt_irrefl, if_false, Bool.or_eq_true, decide_eq_true_eq]
    omega
end Go.Proofs.YtdflhnbpcnmpfaaGreatDoor

/- denial.Between. -/
namespace Go.Proofs.YtdflhnbpcnmpfaaGreatDoor
open Go.RowKit

set_option maxRecDepth 100000 in
set_option maxHeartbeats 1000000 in
theorem den_between (a n b : ByteArray) (w : World) : Calls Tryz.prog 52 #[.string a, .string n, .string b] w fun e w' => e = .returned (.bool (btwB a n b)) ∧ Below w.heap.size w w' := by
  have h1 := fun w => name_right a w
  have h2 := fun w => name_right n w
  have h3 := fun w => name_right b w
  have h4 : ∀ w, Calls Tryz.prog 17 #[.string a, .string n] w fun e w' => e = .returned (.int .i64 (nameCmp a n)) ∧ Below w.heap.size w w' := fun w => name_compare a n w
  have h5 : ∀ w, Calls Tryz.prog 17 #[.string n, .string b] w fun e w' => e = .returned (.int .i64 (nameCmp n b)) ∧ Below w.heap.size w w' := fun w => name_compare n b w
  have h6 : ∀ w, Calls Tryz.prog 17 #[.string a, .string b] w fun e w' => e = .returned (.int .i64 (nameCmp a b)) ∧ Below w.heap.size w w' := fun w => name_compare a b w
  have h7 := fun w => name_equal a n w
  have hr : btwB a n b = (if (nameRight a && nameRight n && nameRight b) = false then false else if nameCmp a b < 0 then decide (nameCmp a n < 0) && decide (nameCmp n b < 0) else decide (nameCmp a n < 0) || (decide (nameCmp n b < 0) && !nameEq a n)) := rfl
  generalize nameRight a = p1 at *
  generalize nameRight n = p2 at *
  generalize nameRight b = p3 at *
  generalize nameCmp a n = c1 at *
  generalize nameCmp n b = c2 at *
  generalize nameCmp a b = c3 at *
  generalize nameEq a n = q at *
  have H1 := Lib.hid h1; have H2 := Lib.hid h2; have H3 := Lib.hid h3; have H4 := Lib.hid h4; have H5 := Lib.hid h5; have H6 := Lib.hid h6; have H7 := Lib.hid h7; have HE := Lib.hid hr
  have bl := Below.refl w.heap.size w
  clear h1 h2 h3 h4 h5 h6 h7 hr
  cases p1 with
  | false =>
    go_enter Tryz.func52, Tryz.ntmps52
    go_wp2_with (go_at_call 19; refine (Hid.out (p := _) ?_))
    refine Lib.hid ?_
    refine (H1.out _).mono ?_
    rintro e w1 ⟨rfl, hb⟩
    replace bl := bl.trans (hb.mono bl.size)
    clear hb
    simp only []
    go_wp2_with fail
    go_ret
    exact ⟨by rw [HE.out]; rfl, bl⟩
  | true =>
  cases p2 with
  | false =>
    go_enter Tryz.func52, Tryz.ntmps52
    go_wp2_with (go_at_call 19; refine (Hid.out (p := _) ?_))
    refine Lib.hid ?_
    refine (H1.out _).mono ?_
    rintro e w1 ⟨rfl, hb⟩
    replace bl := bl.trans (hb.mono bl.size)
    clear hb
    simp only []
    go_wp2_with (go_at_call 19; refine (Hid.out (p := _) ?_))
    refine Lib.hid ?_
    refine (H2.out _).mono ?_
    rintro e w2 ⟨rfl, hb⟩
    replace bl := bl.trans (hb.mono bl.size)
    clear hb
    simp only []
    go_wp2_with fail
    go_ret
    exact ⟨by rw [HE.out]; rfl, bl⟩
  | true =>
  cases p3 with
  | false =>
    go_enter Tryz.func52, Tryz.ntmps52
    go_wp2_with (go_at_call 19; refine (Hid.out (p := _) ?_))
    refine Lib.hid ?_
    refine (H1.out _).mono ?_
    rintro e w1 ⟨rfl, hb⟩
    replace bl := bl.trans (hb.mono bl.size)
    clear hb
    simp only []
    go_wp2_with (go_at_call 19; refine (Hid.out (p := _) ?_))
    refine Lib.hid ?_
    refine (H2.out _).mono ?_
    rintro e w2 ⟨rfl, hb⟩
    replace bl := bl.trans (hb.mono bl.size)
    clear hb
    simp only []
    go_wp2_with (go_at_call 19; refine (Hid.out (p := _) ?_))
    refine Lib.hid ?_
    refine (H3.out _).mono ?_
    rintro e w3 ⟨rfl, hb⟩
    replace bl := bl.trans (hb.mono bl.size)
    clear hb
    simp only []
    go_wp2_with fail
    go_ret
    exact ⟨by rw [HE.out]; rfl, bl⟩
  | true =>
  by_cases x3 : c3 < 0
  · have d3 : decide (c3 < 0) = true := decide_eq_true x3
    obtain ⟨b1, g1⟩ : ∃ b1, decide (c1 < 0) = b1 := ⟨_, rfl⟩
    have HX := Lib.hid (And.intro x3 g1)
    clear x3
    cases b1
    all_goals
      go_enter Tryz.func52, Tryz.ntmps52
      go_wp2_with (go_at_call 19; refine (Hid.out (p := _) ?_))
      refine Lib.hid ?_
      refine (H1.out _).mono ?_
      rintro e w1 ⟨rfl, hb⟩
      replace bl := bl.trans (hb.mono bl.size)
      clear hb
      simp only []
      go_wp2_with (go_at_call 19; refine (Hid.out (p := _) ?_))
      refine Lib.hid ?_
      refine (H2.out _).mono ?_
      rintro e w2 ⟨rfl, hb⟩
      replace bl := bl.trans (hb.mono bl.size)
      clear hb
      simp only []
      go_wp2_with (go_at_call 19; refine (Hid.out (p := _) ?_))
      refine Lib.hid ?_
      refine (H3.out _).mono ?_
      rintro e w3 ⟨rfl, hb⟩
      replace bl := bl.trans (hb.mono bl.size)
      clear hb
      simp only []
      go_wp2_with (go_at_call 17; refine (Hid.out (p := _) ?_))
      refine Lib.hid ?_
      refine (H4.out _).mono ?_
      rintro e w4 ⟨rfl, hb⟩
      replace bl := bl.trans (hb.mono bl.size)
      clear hb
      simp only []
      go_wp2_with (go_at_call 17; refine (Hid.out (p := _) ?_))
      refine Lib.hid ?_
      refine (H5.out _).mono ?_
      rintro e w5 ⟨rfl, hb⟩
      replace bl := bl.trans (hb.mono bl.size)
      clear hb
      simp only []
      go_wp2_with (go_at_call 17; refine (Hid.out (p := _) ?_))
      refine Lib.hid ?_
      refine (H6.out _).mono ?_
      rintro e w6 ⟨rfl, hb⟩
      replace bl := bl.trans (hb.mono bl.size)
      clear hb
      simp only []
      go_wp2_with fail
      go_ret
      refine ⟨?_, bl⟩
      rw [HE.out]
      simp [HX.out]
  · have d3 : decide (c3 < 0) = false := decide_eq_false x3
    obtain ⟨b1, g1⟩ : ∃ b1, decide (c1 < 0) = b1 := ⟨_, rfl⟩
    obtain ⟨b2, g2⟩ : ∃ b2, decide (c2 < 0) = b2 := ⟨_, rfl⟩
    have HX := Lib.hid (And.intro x3 (And.intro g1 g2))
    clear x3
    cases b1 <;> cases b2
    all_goals
      go_enter Tryz.func52, Tryz.ntmps52
      go_wp2_with (go_at_call 19; refine (Hid.out (p := _) ?_))
      refine Lib.hid ?_
      refine (H1.out _).mono ?_
      rintro e w1 ⟨rfl, hb⟩
      replace bl := bl.trans (hb.mono bl.size)
      clear hb
      simp only []
      go_wp2_with (go_at_call 19; refine (Hid.out (p := _) ?_))
      refine Lib.hid ?_
      refine (H2.out _).mono ?_
      rintro e w2 ⟨rfl, hb⟩
      replace bl := bl.trans (hb.mono bl.size)
      clear hb
      simp only []
      go_wp2_with (go_at_call 19; refine (Hid.out (p := _) ?_))
      refine Lib.hid ?_
      refine (H3.out _).mono ?_
      rintro e w3 ⟨rfl, hb⟩
      replace bl := bl.trans (hb.mono bl.size)
      clear hb
      simp only []
      go_wp2_with (go_at_call 17; refine (Hid.out (p := _) ?_))
      refine Lib.hid ?_
      refine (H4.out _).mono ?_
      rintro e w4 ⟨rfl, hb⟩
      replace bl := bl.trans (hb.mono bl.size)
      clear hb
      simp only []
      go_wp2_with (go_at_call 17; refine (Hid.out (p := _) ?_))
      refine Lib.hid ?_
      refine (H5.out _).mono ?_
      rintro e w5 ⟨rfl, hb⟩
      replace bl := bl.trans (hb.mono bl.size)
      clear hb
      simp only []
      go_wp2_with (go_at_call 17; refine (Hid.out (p := _) ?_))
      refine Lib.hid ?_
      refine (H6.out _).mono ?_
      rintro e w6 ⟨rfl, hb⟩
      replace bl := bl.trans (hb.mono bl.size)
      clear hb
      simp only []
      go_wp2_with (go_at_call 7; refine (H7.out _).mono ?_; rintro e w7 ⟨rfl, hb⟩; replace bl := bl.trans (hb.mono bl.size))
      go_ret
      refine ⟨?_, bl⟩
      rw [HE.out]
      simp [HX.out]
end Go.Proofs.YtdflhnbpcnmpfaaGreatDoor

