/- The document's own small letters of a name (its chapter 1): it is the program's. -/
import Derived.Test.YtdmfbcfhfopipaaGreatDoorRefLabels
import Derived.Test.YtdmfbcfhfopipaaGreatDoorBlocks
import Derived.Deep.RegionWith
namespace Go.Proofs.YtdmfbcfhfopipaaGreatDoor
open Go.RowKit

theorem OwnS.cell {base : Nat} {v : Value} {l : List ByteArray} {w : World} (h : OwnS base v l w) (hl : l ≠ []) :
    ∃ g c, v = .slice (some ⟨g, 0, none⟩) l.length c ∧ base ≤ g ∧ g < w.heap.size ∧ ∀ i (hi : i < l.length), w.cell? ⟨g, i, none⟩ = some (.string l[i]) := by
  rcases h.2 with ⟨rfl, h0⟩ | ⟨g, cap, cur, rfl, hb, hg, hn, _, hsz, htk⟩
  · exact absurd (List.eq_nil_of_length_eq_zero (by simpa using h0)) hl
  · refine ⟨g, cap, rfl, hb, lt_of_block hg, fun i hi => ?_⟩
    rw [cell_of_row w g i cur 9 (0, 0) hg]
    have e : cur.toList[i]? = (l.map Value.string)[i]? := by
      rw [← htk, List.getElem?_take, if_pos (by simpa using hi)]
    rw [← Array.getElem?_toList, e]
    simp [hi]
theorem OwnS.len {base : Nat} {v : Value} {l : List ByteArray} {w : World} (h : OwnS base v l w) : ∃ A c, v = .slice A l.length c := by
  rcases h.2 with ⟨rfl, h0⟩ | ⟨g, cap, cur, rfl, hb, hg, hn, _, hsz, htk⟩
  · exact ⟨none, 0, by rw [show l.length = 0 by simpa using h0]⟩
  · exact ⟨_, _, rfl⟩

def joinL (l : List ByteArray) : List UInt8 := l.flatMap fun x => UInt8.ofNat x.size :: x.data.toList
def joinS (l : List ByteArray) : List UInt8 := l.flatMap fun x => UInt8.ofNat x.size :: x.data.toList.map smallB
def lowT (l : List ByteArray) (k : Nat) : ByteArray := bs (joinS (l.take k))
theorem lowT_next (l : List ByteArray) (k : Nat) (h : k < l.length) : lowT l (k + 1) = (lowT l k ++ bs [UInt8.ofNat l[k].size]) ++ lowS l[k] := by
  rw [lowT, lowT, List.take_succ_eq_append_getElem h]
  simp only [joinS, List.flatMap_append, List.flatMap_cons, List.flatMap_nil, List.append_nil]
  have e : lowS l[k] = bs (l[k].data.toList.map smallB) := by
    show (⟨l[k].data.map smallB⟩ : ByteArray) = ⟨(l[k].data.toList.map smallB).toArray⟩
    congr 1
    apply Array.toList_inj.1
    rw [Array.toList_map]
  rw [e, bs_append, bs_append, List.append_assoc]
  rfl
theorem smallB_little (n : Nat) (h : n ≤ 63) : smallB (UInt8.ofNat n) = UInt8.ofNat n := by
  unfold smallB
  rw [if_neg]
  intro h1
  have := h1.1
  rw [UInt8.le_iff_toNat_le] at this
  have e : (UInt8.ofNat n).toNat = n := by simp; omega
  rw [e] at this
  have : (65 : UInt8).toNat = 65 := rfl
  omega
theorem joinS_eq (l : List ByteArray) (h : ∀ x ∈ l, x.size ≤ 63) : joinS l = (joinL l).map smallB := by
  induction l with
  | nil => rfl
  | cons x l ih =>
    have hx := smallB_little x.size (h x (by simp))
    simp only [joinS, joinL, List.flatMap_cons, List.map_append, List.map_cons, hx] at *
    rw [ih (fun y hy => h y (by simp [hy]))]
theorem labs_join (s : ByteArray) : ∀ (f p : Nat), p ≤ s.size → ∃ e, p ≤ e ∧ e ≤ s.size ∧ (labs s f p = [] → e = p) ∧ (labs s f p ≠ [] → e = endOf (labs s f p)) ∧ joinL ((labs s f p).map (·.2)) = (s.data.toList.drop p).take (e - p) := by
  intro f
  induction f with
  | zero => intro p hp; exact ⟨p, Nat.le_refl _, hp, fun _ => rfl, fun h => absurd rfl h, by simp [labs, joinL]⟩
  | succ f ih =>
    intro p hp
    by_cases hc : p < s.size ∧ byt s p ≠ 0 ∧ (byt s p).toNat ≤ 63 ∧ p + 1 + (byt s p).toNat ≤ s.size
    · have e1 : labs s (f + 1) p = (p, s.extract (p + 1) (p + 1 + (byt s p).toNat)) :: labs s f (p + 1 + (byt s p).toNat) := by rw [labs, if_pos hc]
      obtain ⟨e, h1, h2, h3, h4, h5⟩ := ih (p + 1 + (byt s p).toNat) hc.2.2.2
      have hsz : (s.extract (p + 1) (p + 1 + (byt s p).toNat)).size = (byt s p).toNat := by rw [ByteArray.size_extract]; omega
      refine ⟨e, by omega, h2, (by rw [e1]; intro h; cases h), ?_, ?_⟩
      · intro _
        rw [e1]
        by_cases hr : labs s f (p + 1 + (byt s p).toNat) = []
        · rw [hr, h3 hr]
          show _ = p + 1 + (s.extract (p + 1) (p + 1 + (byt s p).toNat)).size
          rw [hsz]
        · rw [h4 hr]
          unfold endOf
          obtain ⟨y, ys, hy⟩ := List.exists_cons_of_ne_nil hr
          rw [hy, List.getLast?_cons_cons]
      · rw [e1]
        have hn : (s.extract (p + 1) (p + 1 + (byt s p).toNat)).data.toList = (s.data.toList.drop (p + 1)).take (byt s p).toNat := by
          rw [ByteArray.data_extract, Array.toList_extract, List.extract_eq_take_drop]
          congr 1; omega
        have h6 : joinL (((p, s.extract (p + 1) (p + 1 + (byt s p).toNat)) :: labs s f (p + 1 + (byt s p).toNat)).map (·.2)) = (UInt8.ofNat (byt s p).toNat :: (s.data.toList.drop (p + 1)).take (byt s p).toNat) ++ joinL ((labs s f (p + 1 + (byt s p).toNat)).map (·.2)) := by
          simp only [joinL, List.map_cons, List.flatMap_cons, hsz, hn]
        rw [h6, h5]
        have hd : s.data.toList.drop p = byt s p :: s.data.toList.drop (p + 1) := by
          rw [List.drop_eq_getElem_cons (by simpa using hc.1)]
          congr 1
          simp [byt, List.getD, List.getElem?_eq_getElem (show p < s.data.toList.length by simpa using hc.1)]
        rw [hd, show e - p = (e - (p + 1 + (byt s p).toNat)) + (byt s p).toNat + 1 by omega, List.take_succ_cons]
        have hof : UInt8.ofNat (byt s p).toNat = byt s p := by simp
        rw [hof, List.cons_append]
        congr 1
        rw [Nat.add_comm (e - _) (byt s p).toNat, List.take_add, List.drop_drop]
    · have e1 : labs s (f + 1) p = [] := labs_stop hc
      rw [e1]
      exact ⟨p, Nat.le_refl _, hp, fun _ => rfl, fun h => absurd rfl h, by simp [joinL]⟩
theorem joinS_len (l : List ByteArray) : l.length ≤ (joinS l).length := by
  induction l with
  | nil => simp
  | cons x l ih => simp only [joinS, List.flatMap_cons, List.length_append, List.length_cons, List.length_map] at *; omega
theorem lowT_size (l : List ByteArray) (h : ∀ x ∈ l, x.size ≤ 63) (k : Nat) (hk : k ≤ l.length) : (lowT l k).size ≤ 64 * k := by
  rw [lowT, bs_size]
  induction k with
  | zero => simp [joinS]
  | succ k ih =>
    have h1 := ih (by omega)
    have h2 := h _ (List.getElem_mem (show k < l.length by omega))
    rw [List.take_succ_eq_append_getElem (by omega)]
    simp only [joinS, List.flatMap_append, List.flatMap_cons, List.flatMap_nil, List.append_nil, List.length_append, List.length_cons, List.length_map] at *
    have e : (l[k].data.toList).length = l[k].size := by simp
    omega
theorem lowT_room {s : ByteArray} {ls : List ByteArray} (h : lowT ls ls.length ++ ⟨#[0]⟩ = lowS s) (hs : s.size ≤ 255) : ls.length ≤ 255 := by
  have h1 := congrArg ByteArray.size h
  rw [ByteArray.size_append, size_lowS, lowT, bs_size, List.take_length] at h1
  have := joinS_len ls
  omega
theorem labels_len (s : ByteArray) : ∀ x ∈ (labels s).map (·.2), x.size ≤ 63 := by
  intro x hx
  obtain ⟨y, hy, rfl⟩ := List.mem_map.1 hx
  exact (labels_le s y hy).2.2.2.1
theorem lowT_all {s : ByteArray} (h : nameRight s = true) : lowT ((labels s).map (·.2)) ((labels s).map (·.2)).length ++ ⟨#[0]⟩ = lowS s := by
  obtain ⟨e, h1, h2, h3, h4, h5⟩ := labs_join s (s.size + 1) 0 (Nat.zero_le _)
  have he : e = nameEnd s := by
    show e = endOf (labels s)
    by_cases hn : labels s = []
    · rw [h3 hn, hn]; rfl
    · exact h4 hn
  have hj : joinL ((labels s).map (·.2)) = s.data.toList.take (nameEnd s) := by
    have := h5
    rw [he, Nat.sub_zero, List.drop_zero] at this
    exact this
  simp only [nameRight, Bool.and_eq_true, decide_eq_true_eq, beq_iff_eq] at h
  obtain ⟨⟨_, hz⟩, h0⟩ := h
  have hs : s.data.toList = s.data.toList.take (nameEnd s) ++ [0] := by
    have hl : nameEnd s < s.data.toList.length := by simp; omega
    have h7 := List.take_succ_eq_append_getElem hl
    rw [List.take_of_length_le (by simp; omega)] at h7
    have h8 : s.data.toList[nameEnd s] = 0 := by simpa [byt, List.getD, List.getElem?_eq_getElem hl] using h0
    rw [h8] at h7
    exact h7
  rw [lowT, List.take_length, joinS_eq _ (labels_len s), hj]
  have e2 : (⟨#[0]⟩ : ByteArray) = bs [0] := rfl
  rw [e2, bs_append]
  show bs _ = ⟨s.data.map smallB⟩
  have e3 : s.data.map smallB = (s.data.toList.map smallB).toArray := by
    apply Array.toList_inj.1
    rw [Array.toList_map]
  rw [e3]
  show bs _ = bs _
  congr 1
  have e4 := congrArg (List.map smallB) hs
  rw [e4, List.map_append]
  rfl

theorem held_alloc {W : World} {g k : Nat} {v : Value} {o : Obj} (h : W.cell? ⟨g, k, none⟩ = some v) (hg : g < W.heap.size) : (W.alloc o).drew.cell? ⟨g, k, none⟩ = some v := by
  show (W.alloc o).cell? _ = _
  rw [World.cell?_alloc_old _ _ _ (Nat.ne_of_lt hg)]; exact h
theorem held_lt {W : World} {g : Nat} {o : Obj} (hg : g < W.heap.size) : g < (W.alloc o).drew.heap.size := by simp; omega
theorem held_call {W W' : World} {g k : Nat} {v : Value} (h : W.cell? ⟨g, k, none⟩ = some v) (hg : g < W.heap.size) (hb : Below W.heap.size W W') : W'.cell? ⟨g, k, none⟩ = some v ∧ g < W'.heap.size :=
  ⟨by rw [hb.cell (p := ⟨g, k, none⟩) hg]; exact h, Nat.lt_of_lt_of_le hg hb.size⟩
theorem held_new {W W' : World} {v : Value} {t : TypeId} (hb : Below (W.alloc (.cells #[v] t)).drew.heap.size (W.alloc (.cells #[v] t)).drew W') : W'.cell? ⟨W.heap.size, 0, none⟩ = some v := by
  have h := (Blk.new W #[v] t).drew.below hb (by simp)
  exact h.cell 0
theorem held_end1 {W0 W W' : World} {o : Obj} (h : Below W0.heap.size W0 W) (hb : Below (W.alloc o).drew.heap.size (W.alloc o).drew W') : Below W0.heap.size W0 W' := by
  have h1 := (h.alloc h.size o).drew
  exact h1.trans (hb.mono h1.size)
theorem held_end2 {W0 W W' : World} (h : Below W0.heap.size W0 W) (hb : Below W.drew.heap.size W.drew W') (o : Obj) : Below W0.heap.size W0 (W'.alloc o) := by
  have h1 := h.drew.trans (hb.mono h.drew.size)
  exact h1.alloc h1.size o
theorem conv_one (x : ByteArray) (W : World) (g : Nat) (hc : W.cell? ⟨g, 0, none⟩ = some (.int .u8 (x.size : Int))) :
    (convert 41 9 (.slice (some ⟨g, 0, none⟩) 1 1)).run Tryz.prog W = .ok (.string (bs [UInt8.ofNat x.size])) W := by
  have := run_convert_bytes_arg (P := Tryz.prog) W 41 5 Tryz.underlying41 Tryz.underlying5 g 0 1 1 [(x.size : Int)] (by simp) (by
    intro i hi
    obtain rfl : i = 0 := by omega
    rw [Nat.zero_add, hc]; rfl) 9 Tryz.underlying9
  rw [this]
  rfl

set_option maxRecDepth 100000 in
set_option maxHeartbeats 1000000 in
theorem ref_lower (s : ByteArray) (w : World) : Calls Tryz.prog 36 #[.string s] w fun e w' => e = .returned (.string (nameLower s)) ∧ Below w.heap.size w w' := by
  have hl := fun w => ref_labels s w
  have HL := Lib.hid hl
  clear hl
  cases hq : nameRight s
  · have hn : nameLower s = s := by rw [nameLower, hq]; rfl
    rw [hn]
    have HQ := Lib.hid hq
    clear hq hn
    go_enter Tryz.func36, Tryz.ntmps36
    go_wp2_with (go_at_call 64; refine (HL.out _).mono ?_; rintro e w1 ⟨hb, v, rfl, _⟩; rw [HQ.out])
    go_ret
    exact ⟨rfl, hb⟩
  · have hn : nameLower s = lowS s := by rw [nameLower, hq]; rfl
    rw [hn]
    have HQ := Lib.hid hq
    clear hq hn
    go_enter Tryz.func36, Tryz.ntmps36
    go_wp2_with (go_at_call 64; refine (HL.out _).mono ?_; rintro e w1 ⟨hb, v, rfl, hO⟩; rw [HQ.out]; replace hO := Lib.hid (hO HQ.out); replace hb := Lib.hid hb)
    have hall := lowT_all HQ.out
    have hlen := labels_len s
    generalize (labels s).map (·.2) = ls at hO hall hlen
    have hz255 : s.size ≤ 255 := by have := HQ.out; simp only [nameRight, Bool.and_eq_true, decide_eq_true_eq] at this; exact this.1.1.2
    have HZ := Lib.hid hz255
    have HA := Lib.hid hall; have LL := Lib.hid hlen
    clear hall hlen hz255
    obtain ⟨A, c, rfl⟩ := hO.out.len
    go_loopw [5, 6] (fun v i wr => ∃ (k : Nat) (t : ByteArray), i = .int .i64 k ∧ v = .string t ∧ k ≤ ls.length ∧ Hid (t = lowT ls k) ∧ Hid (Below w1.heap.size w1 wr)) (fun _ i _ => ls.length - (intOf i).toNat)
    case atStart => exact ⟨0, ⟨#[]⟩, rfl, rfl, Nat.zero_le _, Lib.hid rfl, Lib.hid (Below.refl _ _)⟩
    case round =>
      obtain ⟨k, t, rfl, rfl, hk, ht, hB⟩ := hrel
      by_cases hlt : k < ls.length
      · obtain ⟨g, c', e, hb0, hgl, hcell⟩ := hO.out.cell (by intro h; rw [h] at hlt; simp at hlt)
        cases e
        have c0 : wr.cell? ⟨g, k, none⟩ = some (.string ls[k]) := by rw [hB.out.cell (p := ⟨g, k, none⟩) hgl]; exact hcell k hlt
        have hxs : ls[k].size ≤ 63 := LL.out _ (List.getElem_mem hlt)
        have hnx := lowT_next ls k hlt
        generalize ls[k] = x at c0 hxs hnx
        have hgr : g < wr.heap.size := Nat.lt_of_lt_of_le hgl hB.out.size
        rw [← ht.out] at hnx
        have HN := Lib.hid hnx; have HS := Lib.hid hxs
        have hts := lowT_size ls LL.out k (by omega)
        rw [← ht.out] at hts
        have hrm := lowT_room HA.out HZ.out
        have hn1 : ¬ 9223372036854775807 < t.size + (bs [UInt8.ofNat x.size]).size := by rw [bs_size]; simp; omega
        have hn2 : ¬ 9223372036854775807 < t.size + (bs [UInt8.ofNat x.size]).size + (lowS x).size := by rw [bs_size, size_lowS]; simp; omega
        have hsm := fun w => ref_small x (by omega) w
        have HSM := Lib.hid hsm
        have hw8 : IntKind.u8.wrap (x.size : Int) = (x.size : Int) := IntWalk.u8_in _ (by omega)
        have hcb := conv_one x
        have hc1 := fun W : World => hcb (W.alloc (.cells #[.int .u8 (x.size : Int)] 5)) W.heap.size (Blk.cell (Blk.new W _ _) 0)
        have hc2 := fun W : World => hcb (W.alloc (.cells #[.int .u8 (x.size : Int)] 5)).drew W.heap.size (Blk.cell (Blk.new W _ _).drew 0)
        clear hnx hcell hsm
        go_wp2
        go_region_with (first
          | (go_at_call 69; refine (HSM.out _).mono ?_; rintro e W' ⟨rfl, hb'⟩; first
            | (have hS := held_call (W := wr.drew) c0 hgr hb')
            | (have hS := held_call (W := (wr.alloc (.cells #[.int .u8 (x.size : Int)] 5)).drew) (held_alloc c0 hgr) (held_lt hgr) hb'
               have hT := held_new hb')))
        all_goals
          have HN2 := Lib.hid HN.out.symm
          first
            | (have bl := Lib.hid (held_end1 hB.out hb'))
            | (have bl := Lib.hid (held_end2 hB.out hb' (.cells #[.int .u8 (x.size : Int)] 5)))
          clear hcb hc1 hc2 hb' hS
          go_wp2
          go_roundw
          case rel => exact ⟨k + 1, _, by go_num, rfl, by omega, HN2, bl⟩
          case measure => simp [intOf]; omega
      · obtain rfl : k = ls.length := by omega
        have hsz : t.size ≤ 16320 := by
          have h1 := lowT_size ls LL.out ls.length (by omega)
          have h2 := lowT_room HA.out HZ.out
          rw [← ht.out] at h1
          omega
        have hn3 : ¬ 9223372036854775807 < t.size + 1 := by omega
        have hn4 : ¬ 9223372036854775807 < t.size + ByteArray.size ⟨#[0]⟩ := hn3
        go_wp2
        go_ret
        refine ⟨?_, hb.out.trans (hB.out.mono hb.out.size)⟩
        rw [ht.out, HA.out]
        rfl
end Go.Proofs.YtdmfbcfhfopipaaGreatDoor
