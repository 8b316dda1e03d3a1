/- name.Lower, walked. -/
import Derived.Test.YtdmfbcfhfopipaaGreatDoorLower
import Derived.Test.YtdmfbcfhfopipaaGreatDoorDraw
namespace Go.Proofs.YtdmfbcfhfopipaaGreatDoor
open Go.RowKit Go.Shelf
attribute [local go_sem] Oper.semAt_some

/-- Does a place lie in one of these labels? -/
def covered (l : List (Nat × ByteArray)) (j : Nat) : Bool := l.any fun x => decide (x.1 + 1 ≤ j) && decide (j < x.1 + 1 + x.2.size)
theorem covered_snoc (l : List (Nat × ByteArray)) (x : Nat × ByteArray) (j : Nat) : covered (l ++ [x]) j = (covered l j || (decide (x.1 + 1 ≤ j) && decide (j < x.1 + 1 + x.2.size))) := by simp [covered]

/-- t is s with small letters where p says so. -/
def LowAt (s t : ByteArray) (p : Nat → Bool) : Prop := t.size = s.size ∧ ∀ j, j < s.size → byt t j = if p j then smallB (byt s j) else byt s j
theorem LowAt.start (s : ByteArray) (p : Nat → Bool) (h : ∀ j, p j = false) : LowAt s s p := ⟨rfl, fun j _ => by simp [h j]⟩
theorem LowAt.congr {s t : ByteArray} {p q : Nat → Bool} (h : LowAt s t p) (e : ∀ j, j < s.size → p j = q j) : LowAt s t q := ⟨h.1, fun j hj => by rw [← e j hj]; exact h.2 j hj⟩
theorem LowAt.step {s t : ByteArray} {p : Nat → Bool} (h : LowAt s t p) (k : Nat) (hk : k < s.size) : LowAt s (bset t k (smallB (byt t k))) (fun j => p j || decide (j = k)) := by
  refine ⟨by rw [size_bset]; exact h.1, fun j hj => ?_⟩
  rw [byt_bset t k j _ (by rw [h.1]; exact hk)]
  by_cases e : k = j
  · subst e
    rw [if_pos rfl, h.2 k hk]
    simp only [decide_true, Bool.or_true, if_true]
    split
    · exact smallB_smallB _
    · rfl
  · rw [if_neg e, h.2 j hj]
    have e' : ¬ j = k := fun h => e h.symm
    simp [e']

theorem cov_step (c : Bool) (a k j : Nat) : ((c || (decide (a ≤ j) && decide (j < a + k))) || decide (j = a + k)) = (c || (decide (a ≤ j) && decide (j < a + (k + 1)))) := by
  cases c
  · rw [Bool.eq_iff_iff]; simp; omega
  · simp

set_option maxRecDepth 100000 in
set_option maxHeartbeats 1000000 in
theorem name_lower_in (s : ByteArray) (w : World) (hr : nameRight s = true) :
    CallsIn Fence.wide 4 Tryz.prog 33 #[.string s] w fun e w' => (∃ t, e = .returned (.string t) ∧ LowAt s t (covered (labels s))) ∧ Below w.heap.size w w' := by
  have h255 : s.size ≤ 255 := by simp [nameRight] at hr; omega
  have hrc := fun w => name_right s w
  rw [hr] at hrc
  have HR := Lib.hid hrc
  clear hrc hr
  have hro : Fence.wide.round = none := rfl
  have hn1 : 1 ≤ 4 := by omega
  have hmk := make_u8 s.size (by omega)
  have hcp := fun w o => copy_str_new w s o
  refine callsIn_of_wp_marks Tryz.func33 rfl trivial ?_ hro
  simp only [Tryz.ntmps33, List.size_toArray, List.length_cons, List.length_nil, Nat.reduceAdd, Nat.reduceSub, Array.replicate_succ, Array.replicate_zero, List.push_toArray, List.append_toArray, List.nil_append, List.cons_append]
  gi_wp2_with (first | (refine ⟨trivial, ?_⟩; gi_at_call 62; refine (callsIn_wide.2 (labels_any _ _)).mono ?_; rintro e w' ⟨rfl, rfl⟩) | (refine ⟨trivial, ?_⟩; gi_at_call 32; refine (callsIn_wide.2 (HR.out _)).mono ?_; rintro e w1 ⟨rfl, hB1⟩))
  have hB0 : Below w.heap.size w (((w1.alloc (.cells (encS s) 5)).alloc (.cells #[.slice (some ⟨w1.heap.size, 0, none⟩) s.size s.size] 41)).alloc (.cells #[.string s] 9)) := (((hB1.alloc hB1.size _).alloc (by simp; have := hB1.size; omega) _).alloc (by simp; have := hB1.size; omega) _)
  have b0 : Blk (((w1.alloc (.cells (encS s) 5)).alloc (.cells #[.slice (some ⟨w1.heap.size, 0, none⟩) s.size s.size] 41)).alloc (.cells #[.string s] 9)) w1.heap.size (encS s) 5 := ((Blk.new w1 _ _).alloc _).alloc _
  have b1 : Blk (((w1.alloc (.cells (encS s) 5)).alloc (.cells #[.slice (some ⟨w1.heap.size, 0, none⟩) s.size s.size] 41)).alloc (.cells #[.string s] 9)) (w1.heap.size + 1) #[.slice (some ⟨w1.heap.size, 0, none⟩) s.size s.size] 41 := by
    have := (Blk.new (w1.alloc (.cells (encS s) 5)) #[.slice (some ⟨w1.heap.size, 0, none⟩) s.size s.size] 41).alloc (.cells #[.string s] 9)
    simpa using this
  have b2 : Blk (((w1.alloc (.cells (encS s) 5)).alloc (.cells #[.slice (some ⟨w1.heap.size, 0, none⟩) s.size s.size] 41)).alloc (.cells #[.string s] 9)) (w1.heap.size + 1 + 1) #[.string s] 9 := by
    have := Blk.new ((w1.alloc (.cells (encS s) 5)).alloc (.cells #[.slice (some ⟨w1.heap.size, 0, none⟩) s.size s.size] 41)) #[.string s] 9
    simpa using this
  have hsz : w.heap.size ≤ w1.heap.size := hB1.size
  clear HR hmk hcp hB1
  refine wpIn_rangeFunc_ownF (α := Lab s) (ps := #[19, 20]) hro hn1 (gf := 152) (lb := #[.pointer (some ⟨w1.heap.size + 1 + 1, 0, none⟩)]) rfl trivial (enters_of Tryz.func152 (by kernel_rfl) rfl)
    (labels1_stops Fence.wide 3 trivial hro (by omega) (w1.heap.size + 1 + 1) s _ (by omega) b2) keepsBlk_t keepsBlk_b (Below.refl _ _) (fun _ => rfl)
    (fun pre W => ((∃ t, Blk W w1.heap.size (encS t) 5 ∧ LowAt s t (covered (labPre pre))) ∧ Blk W (w1.heap.size + 1) #[.slice (some ⟨w1.heap.size, 0, none⟩) s.size s.size] 41) ∧ Below w.heap.size w W)
    (fun _ _ _ => False)
    (OwnFrom.and (Own.from (fun s A B row hs hg hr => ⟨by obtain ⟨t, h1, h2⟩ := hs.1; exact ⟨t, h1.kept hg hr, h2⟩, hs.2.kept hg hr⟩) _) (ownFrom_below (Nat.le_refl _) (by simp; omega)))
    (fun _ _ _ _ _ hs _ _ => hs)
    ⟨⟨⟨s, b0, LowAt.start s _ (fun j => by simp [covered, labPre])⟩, b1⟩, hB0⟩
    (fun x => { tmps := #[.string s, undef, .string ⟨#[]⟩, .pointer (some ⟨w1.heap.size + 1, 0, none⟩), .int .i64 (x.1.1 : Int), .string x.1.2, undef, .string s, .bool true, .bool false, undef, .string s, .int .i64 s.size, .slice (some ⟨w1.heap.size, 0, none⟩) s.size s.size, .slice (some ⟨w1.heap.size, 0, none⟩) s.size s.size, .string s, .int .i64 s.size, .string s, .func (.func 152) #[] #[.pointer (some ⟨w1.heap.size + 1 + 1, 0, none⟩)], .int .i64 (x.1.1 : Int), .string x.1.2, undef, undef, undef, undef, undef, undef, undef, undef, undef, undef, undef, undef, undef, undef, undef, undef, undef, undef, undef, undef, undef, undef], defers := [] }) ?assign ?body ?done ?stop
  case assign =>
    intro l x W K hK
    simp only [encLab]
    gi_wp2
    exact hK
  case body =>
    rintro l pre x W ⟨⟨⟨t, hb, hlow⟩, hs1⟩, hB⟩ _
    have hx := (labels_le s x.1 x.2).1
    have HB := Lib.hid hb; have HL := Lib.hid hlow; have HS := Lib.hid hs1
    clear hb hlow hs1
    gi_wp2
    gi_loopw [6, 23] (fun _ i wr => ∃ (k : Nat) (t : ByteArray), k ≤ x.1.2.size ∧ i = .int .i64 k ∧ Hid (Blk wr w1.heap.size (encS t) 5) ∧ Hid (LowAt s t (fun j => covered (labPre pre) j || (decide (x.1.1 + 1 ≤ j) && decide (j < x.1.1 + 1 + k)))) ∧ Hid (Blk wr (w1.heap.size + 1) #[.slice (some ⟨w1.heap.size, 0, none⟩) s.size s.size] 41) ∧ Below w.heap.size w wr ∧ KeepsOthers W wr ∧ KeepsBlk (w1.heap.size + 1 + 1) W wr)
      (fun _ i _ => x.1.2.size - (intOf i).toNat)
    case atStart =>
      exact ⟨0, t, Nat.zero_le _, rfl, HB, Lib.hid (HL.out.congr (fun j _ => by simp; omega)), HS, hB, KeepsOthers.refl _, KeepsBlk.refl _ _⟩
    case round =>
      obtain ⟨k, u, hk, rfl, hbu, hlu, hsu, hBu, hKo, hKb⟩ := hrel
      by_cases hlt : k < x.1.2.size
      · have hcell : wr.cell? ⟨w1.heap.size + 1, 0, none⟩ = some (.slice (some ⟨w1.heap.size, 0, none⟩) s.size s.size) := hsu.out.cell 0
        have hks : x.1.1 + 1 + k < s.size := by omega
        have hus : x.1.1 + 1 + k < u.size := by have := hlu.out.1; omega
        have hbyte : wr.cell? ⟨w1.heap.size, x.1.1 + 1 + k, none⟩ = some (.int .u8 ((byt u (x.1.1 + 1 + k)).toNat : Int)) := by rw [hbu.out.cell, encS_get u _ hus]
        have hfree := hbu.out.free (x.1.1 + 1 + k)
        have hmix : Tryz.prog.follows .mixedOrders = true := by kernel_rfl
        have q1 : (0 : Int) ≤ (x.1.1 : Int) + 1 + (k : Int) := by omega
        have q2 : (x.1.1 : Int) + 1 + (k : Int) < (s.size : Int) := by omega
        have r1 : IntKind.i64.wrap ((x.1.1 : Int) + 1) = (x.1.1 : Int) + 1 := IntWalk.i64_in _ (by omega)
        have r2 : IntKind.i64.wrap ((x.1.1 : Int) + 1 + (k : Int)) = (x.1.1 : Int) + 1 + (k : Int) := IntWalk.i64_in _ (by omega)
        have hti : ((x.1.1 : Int) + 1 + (k : Int)).toNat = x.1.1 + 1 + k := by omega
        gi_wp2
        refine wpIn_draw (openRound l _ _) 14 (C := Drawn wr) hmix (by kernel_rfl) (by kernel_rfl) (by kernel_rfl) (by simp) ⟨1, rfl⟩ ?_
        simp only [List.take_succ_cons, List.take_zero, List.drop_succ_cons, List.drop_zero]
        repeat (go_big_quiet_step ((go_at_call 63; exact Calls.quiet_of_same ((small_any _ _).mono fun e w' h => ⟨h.1, h.2.symm⟩))))
        refine wpQuiet_nil ?_
        intro _ hw'
        obtain ⟨nq, hw''⟩ := hw'
        subst hw''
        gi_wp2
        go_roundw
        case rel =>
          refine ⟨k + 1, bset u (x.1.1 + 1 + k) (smallB (byt u (x.1.1 + 1 + k))), by omega, by go_num, Lib.hid ?_, Lib.hid ?_, Lib.hid ?_, ?_, ?_, ?_⟩
          · rw [encS_bset]
            exact Blk.set (w := wr.drewN nq) hbu.out _ _
          · exact (hlu.out.step _ hks).congr (fun j _ => cov_step _ _ _ _)
          · exact Blk.other (w := wr.drewN nq) hsu.out (by simp) _
          · exact Below.setCell (w := wr.drewN nq) ⟨hBu.os, hBu.tape, hBu.output, hBu.size, hBu.block⟩ (by exact hsz) _
          · exact hKo.trans (KeepsOthers.trans (show KeepsOthers wr (wr.drewN nq) from ⟨Nat.le_refl _, fun _ _ h _ => h⟩) (KeepsOthers.setCell _ _ _))
          · exact keepsBlk_t hKb (keepsBlk_t (show KeepsBlk _ wr (wr.drewN nq) from fun _ _ h => h) (KeepsBlk.set _ _ _ (by simp; omega)))
        case measure => simp [intOf]; omega
      · obtain rfl : k = x.1.2.size := by omega
        have hnew := (hlu.out.congr (q := covered (labPre (pre ++ [x]))) (fun j _ => by rw [labPre_snoc, covered_snoc]))
        have HN := Lib.hid hnew
        clear hnew
        gi_wp2
        exact ⟨hKo, hKb, ⟨⟨u, hbu.out, HN.out⟩, hsu.out⟩, hBu⟩
  case done =>
    rintro D ys W hD hS ⟨⟨⟨t, hb, hlow⟩, hs1⟩, hB⟩ hK
    rw [hS] at hlow
    have hcell : W.cell? ⟨w1.heap.size + 1, 0, none⟩ = some (.slice (some ⟨w1.heap.size, 0, none⟩) s.size s.size) := hs1.cell 0
    have hcv := conv_bytes_string W w1.heap.size s.size s.size t hb hlow.1.symm
    have HL := Lib.hid hlow
    clear hlow hS hb hs1
    gi_wp2
    refine ⟨by simp, .inl ⟨_, _, rfl, run_takeDeferred hK, ?_⟩⟩
    exact ⟨_, results_tmp rfl _ _ _, ⟨t, rfl, HL.out⟩, hB.trans (belowK_b (w := w) (Nat.le_refl _) W D _ _ (by simp at hD; omega) hK rfl rfl)⟩
  case stop =>
    rintro D c pre W _ _ h _
    exact h.elim

theorem endOf_cons (x : Nat × ByteArray) (l : List (Nat × ByteArray)) : endOf (x :: l) = if l = [] then x.1 + 1 + x.2.size else endOf l := by
  cases l with
  | nil => simp [endOf]
  | cons y l => simp [endOf]

theorem labs_cover (s : ByteArray) : ∀ (f p : Nat), ∀ j, p ≤ j → j < (if labs s f p = [] then p else endOf (labs s f p)) → covered (labs s f p) j = true ∨ (byt s j).toNat ≤ 63 := by
  intro f
  induction f with
  | zero => intro p j h1 h2; simp [labs] at h2; omega
  | succ f ih =>
    intro p j h1 h2
    rw [labs] at h2 ⊢
    split at h2
    · rename_i hc
      rw [if_pos hc]
      rw [if_neg (by simp), endOf_cons] at h2
      have e : (s.extract (p + 1) (p + 1 + (byt s p).toNat)).size = (byt s p).toNat := by rw [ByteArray.size_extract]; omega
      simp only [e] at h2
      rcases Nat.lt_or_ge j (p + 1 + (byt s p).toNat) with h3 | h3
      · by_cases hj : j = p
        · subst hj; exact .inr hc.2.2.1
        · left
          simp only [covered, List.any_cons, e, Bool.or_eq_true, Bool.and_eq_true, decide_eq_true_eq]
          exact .inl ⟨by omega, h3⟩
      · have := ih (p + 1 + (byt s p).toNat) j h3 (by split at h2 <;> split <;> simp_all)
        rcases this with h4 | h4
        · left
          simp only [covered, List.any_cons, Bool.or_eq_true] at h4 ⊢
          exact .inr h4
        · exact .inr h4
    · rename_i hc
      rw [if_pos rfl] at h2
      omega

theorem right_cover (s : ByteArray) (h : nameRight s = true) (j : Nat) (hj : j < s.size) : covered (labels s) j = true ∨ (byt s j).toNat ≤ 63 := by
  simp only [nameRight, Bool.and_eq_true, decide_eq_true_eq, beq_iff_eq] at h
  rcases Nat.lt_or_ge j (nameEnd s) with h1 | h1
  · refine labs_cover s (s.size + 1) 0 j (Nat.zero_le _) ?_
    change j < if labels s = [] then 0 else endOf (labels s)
    split
    · rename_i he
      simp [nameEnd, he, endOf] at h1
    · exact h1
  · have : j = nameEnd s := by omega
    rw [this, h.2]
    right; simp

/-- A text with small letters. -/
def lowS (s : ByteArray) : ByteArray := ⟨s.data.map smallB⟩
theorem size_lowS (s : ByteArray) : (lowS s).size = s.size := by
  show (s.data.map smallB).size = s.data.size
  simp
theorem byt_lowS (s : ByteArray) (j : Nat) (hj : j < s.size) : byt (lowS s) j = smallB (byt s j) := by
  have h' : j < s.data.size := hj
  simp only [byt, lowS, List.getD, Array.getElem?_toList, Array.getElem?_map, Array.getElem?_eq_getElem h', Option.map_some, Option.getD_some]
def nameLower (s : ByteArray) : ByteArray := if nameRight s then lowS s else s

theorem low_eq (s t : ByteArray) (h : nameRight s = true) (hl : LowAt s t (covered (labels s))) : t = lowS s := by
  refine bytes_ext (by rw [size_lowS]; exact hl.1) (fun j hj => ?_)
  have hj' : j < s.size := by rw [← hl.1]; exact hj
  rw [hl.2 j hj', byt_lowS s j hj']
  split
  · rfl
  · rename_i hc
    rcases right_cover s h j hj' with h1 | h1
    · exact absurd h1 hc
    · exact (smallB_len _ h1).symm

theorem name_lower (s : ByteArray) (w : World) : Calls Tryz.prog 33 #[.string s] w fun e w' => e = .returned (.string (nameLower s)) ∧ Below w.heap.size w w' := by
  cases hr : nameRight s with
  | true =>
    refine (callsIn_wide.1 (name_lower_in s w hr)).mono ?_
    rintro e w' ⟨⟨t, he, hl⟩, hb⟩
    refine ⟨?_, hb⟩
    rw [he, low_eq s t hr hl, nameLower, if_pos hr]
  | false =>
    have hrc := fun w => name_right s w
    rw [hr] at hrc
    have e : nameLower s = s := by rw [nameLower, if_neg (by rw [hr]; simp)]
    rw [e]
    have HR := Lib.hid hrc
    clear hrc hr e
    go_enter Tryz.func33, Tryz.ntmps33
    go_wp2_with (go_at_call 32; refine (HR.out _).mono ?_; rintro e w1 ⟨rfl, hb⟩)
    go_ret
    exact ⟨rfl, hb⟩
end Go.Proofs.YtdmfbcfhfopipaaGreatDoor
