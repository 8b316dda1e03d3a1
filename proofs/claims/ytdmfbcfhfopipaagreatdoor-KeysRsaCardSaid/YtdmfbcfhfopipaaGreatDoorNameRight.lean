/- name.Right. -/
import Derived.Test.YtdmfbcfhfopipaaGreatDoorLabels
namespace Go.Proofs.YtdmfbcfhfopipaaGreatDoor
open Go.RowKit Go.Shelf
attribute [local go_sem] Oper.semAt_some

set_option maxRecDepth 100000 in
theorem name_right_in (s : ByteArray) (w : World) (h1 : s.size ≠ 0) (h255 : s.size ≤ 255) :
    CallsIn Fence.wide 4 Tryz.prog 32 #[.string s] w fun e w' => e = .returned (.bool (nameRight s)) ∧ Below w.heap.size w w' := by
  have hro : Fence.wide.round = none := rfl
  have hn1 : 1 ≤ 4 := by omega
  refine callsIn_of_wp_marks Tryz.func32 rfl trivial ?_ hro
  simp only [Tryz.ntmps32, List.size_toArray, List.length_cons, List.length_nil, Nat.reduceAdd, Nat.reduceSub, Array.replicate_succ, Array.replicate_zero, List.push_toArray, List.append_toArray, List.nil_append, List.cons_append]
  have q1 : ((s.size : Int) == 0) = false := beq_eq_false_iff_ne.2 (by omega)
  have q2 : decide ((255 : Int) < s.size) = false := by simp; omega
  gi_wp2_with (refine ⟨trivial, ?_⟩; gi_at_call 62; refine (callsIn_wide.2 (labels_any _ _)).mono ?_; rintro e w' ⟨rfl, rfl⟩)
  have hB0 : Below w.heap.size w ((w.alloc (.cells #[.int .i64 0] 3)).alloc (.cells #[.string s] 9)) := ((Below.refl _ w).alloc (Nat.le_refl _) _).alloc (by simp) _
  have b0 : Blk ((w.alloc (.cells #[.int .i64 0] 3)).alloc (.cells #[.string s] 9)) w.heap.size #[.int .i64 0] 3 := (Blk.new w _ _).alloc _
  have b1 : Blk ((w.alloc (.cells #[.int .i64 0] 3)).alloc (.cells #[.string s] 9)) (w.heap.size + 1) #[.string s] 9 := by
    have := Blk.new (w.alloc (.cells #[.int .i64 0] 3)) #[.string s] 9
    simpa using this
  refine wpIn_rangeFunc_ownF (α := Lab s) (ps := #[16, 17]) hro hn1 (gf := 152) (lb := #[.pointer (some ⟨w.heap.size + 1, 0, none⟩)]) rfl trivial (enters_of Tryz.func152 (by kernel_rfl) rfl)
    (labels1_stops Fence.wide 3 trivial hro (by omega) (w.heap.size + 1) s _ (by omega) b1) keepsBlk_t keepsBlk_b (Below.refl _ _) (fun _ => rfl)
    (fun pre W => Blk W w.heap.size #[.int .i64 (endOf (labPre pre) : Int)] 3 ∧ Below w.heap.size w W)
    (fun _ _ _ => False)
    (OwnFrom.and (Own.from (fun s A B row hs hg hr => hs.kept hg hr) _) (ownFrom_below (Nat.le_refl _) (by simp; omega)))
    (fun _ _ _ _ _ hs _ _ => hs)
    ⟨b0, hB0⟩
    (fun x => { tmps := #[.string s, undef, .bool false, .pointer (some ⟨w.heap.size, 0, none⟩), .int .i64 (x.1.1 : Int), .string x.1.2, .string s, .int .i64 s.size, .bool false, .bool false, .string s, .int .i64 s.size, .bool false, .bool false, .string s, .func (.func 152) #[] #[.pointer (some ⟨w.heap.size + 1, 0, none⟩)], .int .i64 (x.1.1 : Int), .string x.1.2, undef, undef, undef, undef, undef, undef, undef, undef, undef, undef, undef, undef, undef, undef, undef, undef], defers := [] }) ?assign ?body ?done ?stop
  case assign =>
    intro l x W K hK
    simp only [encLab]
    gi_wp2
    exact hK
  case body =>
    rintro l pre x W ⟨hb, hB⟩ _
    have hx := labels_le s x.1 x.2
    have hc : W.cell? ⟨w.heap.size, 0, none⟩ = some (.int .i64 (endOf (labPre pre) : Int)) := hb.cell 0
    have hf := hb.free 0
    have e1 : ((x.1.1 : Int) + 1 + (x.1.2.size : Int)) = (endOf (labPre (pre ++ [x])) : Int) := by rw [labPre_snoc, endOf_snoc]; omega
    have HE := Lib.hid e1; have HB := Lib.hid hb
    have x1 : (x.1.1 : Int) + 1 + x.1.2.size ≤ 255 := by omega
    clear e1 hb hx
    gi_wp2
    rw [HE.out]
    exact ⟨KeepsOthers.setCell _ _ _, KeepsBlk.set _ _ _ (by simp), HB.out.set 0 _, hB.setCell (p := ⟨w.heap.size, 0, none⟩) (Nat.le_refl _) _⟩
  case done =>
    rintro D ys W hD hS ⟨hb, hB⟩ hK
    rw [hS] at hb
    have hc : W.cell? ⟨w.heap.size, 0, none⟩ = some (.int .i64 (nameEnd s : Int)) := hb.cell 0
    have hle := nameEnd_le s
    clear hS hb
    by_cases he : nameEnd s + 1 = s.size
    · have q3 : ((nameEnd s : Int) == (s.size : Int) - 1) = true := beq_iff_eq.2 (by omega)
      have q4 : (1 : Int) ≤ s.size := by omega
      have hl1 : nameEnd s < s.size := by omega
      have hg : s[nameEnd s]'hl1 = byt s (nameEnd s) := byt_get s (nameEnd s) hl1
      have hr : nameRight s = (((s[nameEnd s]'hl1).toNat : Int) == 0) := by
        rw [hg, nameRight]
        simp only [he, h1, h255, ne_eq, not_false_eq_true, and_self, decide_true, Bool.true_and]
        rw [Bool.eq_iff_iff]
        simp only [beq_iff_eq]
        constructor
        · intro h; rw [h]; rfl
        · intro h; exact UInt8.toNat_inj.1 (by have : (byt s (nameEnd s)).toNat = 0 := by omega
                                               rw [this]; rfl)
      have HR := Lib.hid hr
      clear hr hg he hle
      gi_wp2
      refine ⟨by simp, .inl ⟨_, _, rfl, run_takeDeferred hK, ?_⟩⟩
      refine ⟨_, results_tmp rfl _ _ _, ?_, hB.trans (belowK_b (w := w) (Nat.le_refl _) W D _ _ (by simp at hD; omega) hK rfl rfl)⟩
      rw [HR.out]
      rfl
    · have q3 : ((nameEnd s : Int) == (s.size : Int) - 1) = false := beq_eq_false_iff_ne.2 (by omega)
      have hr : nameRight s = false := by simp [nameRight, he]
      have HR := Lib.hid hr
      clear hr he hle
      gi_wp2
      refine ⟨by simp, .inl ⟨_, _, rfl, run_takeDeferred hK, ?_⟩⟩
      refine ⟨_, results_tmp rfl _ _ _, ?_, hB.trans (belowK_b (w := w) (Nat.le_refl _) W D _ _ (by simp at hD; omega) hK rfl rfl)⟩
      rw [HR.out]
      rfl
  case stop =>
    rintro D c pre W _ _ h _
    exact h.elim

set_option maxRecDepth 100000 in
theorem name_right (s : ByteArray) (w : World) : Calls Tryz.prog 32 #[.string s] w fun e w' => e = .returned (.bool (nameRight s)) ∧ Below w.heap.size w w' := by
  by_cases h : s.size ≠ 0 ∧ s.size ≤ 255
  · exact callsIn_wide.1 (name_right_in s w h.1 h.2)
  · have hr : nameRight s = false := by rw [nameRight, decide_eq_false h]; rfl
    rw [hr]
    have hlen : s.size = 0 ∨ 255 < s.size := by omega
    clear hr h
    rcases hlen with h | h
    · have q1 : ((s.size : Int) == 0) = true := beq_iff_eq.2 (by omega)
      go_enter Tryz.func32, Tryz.ntmps32
      go_wp2
      go_ret
      exact ⟨rfl, Below.refl _ _⟩
    · have q1 : ((s.size : Int) == 0) = false := beq_eq_false_iff_ne.2 (by omega)
      have q2 : decide ((255 : Int) < s.size) = true := by simp; omega
      go_enter Tryz.func32, Tryz.ntmps32
      go_wp2
      go_ret
      exact ⟨rfl, Below.refl _ _⟩
end Go.Proofs.YtdmfbcfhfopipaaGreatDoor
