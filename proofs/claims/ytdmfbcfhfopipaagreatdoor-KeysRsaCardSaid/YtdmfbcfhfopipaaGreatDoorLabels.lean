/- name.labels: the iterator over a name's labels, and its contract. -/
import Derived.Test.YtdmfbcfhfopipaaGreatDoorBase
import Derived.Test.YtdmfbcfhfopipaaGreatDoorBits
import Derived.RangeFuncNested
import Derived.RangeFuncBound
import Derived.RangeFuncCalls
import Derived.RangeFuncLeaves
import Derived.Shelf.Abstract
import Derived.Shelf.RegionOpen
import Derived.OwnWalkIn
import Derived.TacticsInMore
import Derived.LoopNIn
import Derived.LoopIn
namespace Go.Proofs.YtdmfbcfhfopipaaGreatDoor
open Go.RowKit Go.Shelf
attribute [local go_sem] Oper.semAt_some

/-- The labels of a text from a place on, each with its place, as long as there are some. -/
def labs (s : ByteArray) : Nat → Nat → List (Nat × ByteArray)
  | 0, _ => []
  | f + 1, p => if p < s.size ∧ byt s p ≠ 0 ∧ (byt s p).toNat ≤ 63 ∧ p + 1 + (byt s p).toNat ≤ s.size then
      (p, s.extract (p + 1) (p + 1 + (byt s p).toNat)) :: labs s f (p + 1 + (byt s p).toNat) else []
def labels (s : ByteArray) : List (Nat × ByteArray) := labs s (s.size + 1) 0

/-- One of the labels of s. -/
def Lab (s : ByteArray) : Type := { x : Nat × ByteArray // x ∈ labels s }
def encLab {s : ByteArray} (x : Lab s) : Array Value := #[.int .i64 (x.1.1 : Int), .string x.1.2]
def labPre {s : ByteArray} (l : List (Lab s)) : List (Nat × ByteArray) := l.map (·.1)
theorem labPre_snoc {s : ByteArray} (l : List (Lab s)) (x : Lab s) : labPre (l ++ [x]) = labPre l ++ [x.1] := by simp [labPre]

/-- What a round of the loop must keep for the iterator: the block that holds the name. -/
def KeepsBlk (b : Nat) (W W' : World) : Prop := ∀ cs t, Blk W b cs t → Blk W' b cs t
theorem keepsBlk_t {b : Nat} {A B C : World} (h : KeepsBlk b A B) (k : KeepsBlk b B C) : KeepsBlk b A C := fun cs t hb => k cs t (h cs t hb)
theorem keepsBlk_b {b : Nat} {w : World} (W : World) (l : Nat) (o o' : Obj) (_ : w.heap.size ≤ l) (h : W.heap[l]? = some o) (ho : o.isCells = false) (_ : o.isWalk = false) : KeepsBlk b W (W.putObj l o') := by
  intro cs t hb
  have hne : l ≠ b := by
    intro e
    subst e
    unfold Blk at hb
    rw [hb] at h
    cases h
    simp [Obj.isCells] at ho
  unfold Blk at hb ⊢
  rw [World.putObj_heap_other (by omega)]
  exact hb
theorem KeepsBlk.refl (b : Nat) (W : World) : KeepsBlk b W W := fun _ _ h => h
theorem KeepsBlk.set {b : Nat} (W : World) (p : Addr) (v : Value) (h : b ≠ p.block) : KeepsBlk b W (W.setCell p v) := fun _ _ hb => hb.other h v

theorem byt_get (s : ByteArray) (k : Nat) (h : k < s.size) : s.data[k]'(by simpa using h) = byt s k := by
  simp [byt, List.getD, List.getElem?_eq_getElem (show k < s.data.toList.length by simpa using h)]

theorem labels1_stops (F : Fence) (n : Nat) (h6 : F.fn 152) (hro : F.round = none) (hn : 1 ≤ n) (Bn : Nat) (s : ByteArray) (w : World) (hs : s.size ≤ 9223372036854775000) (hB : Blk w Bn #[.string s] 9) :
    SeqStopsK F n Tryz.prog 152 #[.pointer (some ⟨Bn, 0, none⟩)] encLab (KeepsBlk Bn) (fun (xs : List (Lab s)) => labPre xs = labels s) (fun pre => labPre pre <+: labels s) (labels s).length w := by
  intro l J Jx W hW hJ hJx hY h0
  have hBW := hB.below hW hB.lt
  refine callsIn_of_wp Tryz.func152 rfl h6 ?_ hro
  simp only [Tryz.ntmps152, List.size_toArray, List.length_cons, List.length_nil, Nat.reduceAdd, Nat.reduceSub, Array.replicate_succ, Array.replicate_zero, List.push_toArray, List.append_toArray, List.nil_append, List.cons_append]
  have HB := Lib.hid hBW; have HY := Lib.hid hY; clear hBW hB hY
  gi_wp2
  gi_loopw [3] (fun i wr => ∃ (p f : Nat) (pre : List (Lab s)), i = .int .i64 p ∧ Hid (labels s = labPre pre ++ labs s f p) ∧ s.size < p + f ∧ Blk wr Bn #[.string s] 9 ∧ J pre wr)
    (fun i _ => s.size - (intOf i).toNat)
  case atStart => exact ⟨0, s.size + 1, [], rfl, rfl, by omega, HB.out, h0⟩
  case round =>
    obtain ⟨p, f, pre, rfl, hx, hf, hb, hj⟩ := hrel
    have hc : wr.cell? ⟨Bn, 0, none⟩ = some (.string s) := hb.cell 0
    have HBr := Lib.hid hb; clear hb
    by_cases h1 : p < s.size
    · have hg : s[p] = byt s p := byt_get s p h1
      have h255 : ((s[p]).toNat : Int) ≤ 255 := by have := (s[p]).toNat_lt; omega
      obtain ⟨f, rfl⟩ : ∃ g, f = g + 1 := ⟨f - 1, by omega⟩
      have hlab : labs s (f + 1) p = if p < s.size ∧ byt s p ≠ 0 ∧ (byt s p).toNat ≤ 63 ∧ p + 1 + (byt s p).toNat ≤ s.size then (p, s.extract (p + 1) (p + 1 + (byt s p).toNat)) :: labs s f (p + 1 + (byt s p).toNat) else [] := rfl
      rw [← hg] at hlab
      have hzero : s[p] = 0 ↔ (s[p]).toNat = 0 := by
        constructor
        · intro h; rw [h]; rfl
        · intro h; exact UInt8.toNat_inj.1 (by rw [h]; rfl)
      by_cases hgo : (s[p]).toNat ≠ 0 ∧ (s[p]).toNat ≤ 63 ∧ p + 1 + (s[p]).toNat ≤ s.size
      · rw [if_pos ⟨h1, fun h => hgo.1 (hzero.1 h), hgo.2.1, hgo.2.2⟩] at hlab
        have hx1 : labels s = (labPre pre ++ [(p, s.extract (p + 1) (p + 1 + (s[p]).toNat))]) ++ labs s f (p + 1 + (s[p]).toNat) := by rw [hx.out, hlab]; simp
        obtain ⟨X, hX⟩ : ∃ X : Lab s, X.1 = (p, s.extract (p + 1) (p + 1 + (s[p]).toNat)) := ⟨⟨(p, s.extract (p + 1) (p + 1 + (s[p]).toNat)), by rw [hx1]; simp⟩, rfl⟩
        have hx2 : labels s = labPre (pre ++ [X]) ++ labs s f (p + 1 + (s[p]).toNat) := by rw [labPre_snoc, hX]; exact hx1
        have hlen : pre.length < (labels s).length := by rw [hx2]; simp [labPre]
        have hy0 := HY.out pre X wr hj hlen
        simp only [encLab, hX] at hy0
        clear hX hx1
        have HX := Lib.hid hx2
        have q1 : (((s[p]).toNat : Int) != 0) = true := by simp; omega
        have q2 : ((s[p]).toNat : Int) ≤ 63 := by omega
        have q3 : (p : Int) + 1 + ((s[p]).toNat : Int) ≤ s.size := by omega
        have hxt : ((p : Int) + 1 + ((s[p]).toNat : Int)).toNat = p + 1 + (s[p]).toNat := by omega
        have hxt2 : ((p : Int) + 1).toNat = p + 1 := by omega
        obtain ⟨fn, tmps, assign, body, hy, hR⟩ := hy0
        have HR := Lib.hid hR
        clear hx2 hlen hlab hzero hgo hx hg hR
        gi_wp2_with fail
        refine HR.out.mono ?_
        rintro e W3 (⟨rfl, hJ3, hk3⟩ | ⟨rfl, hJx3⟩)
        · have hb3 := hk3 _ _ HBr.out
          have HB3 := Lib.hid hb3
          clear hb3 hk3
          gi_wp2
          go_roundw
          case rel => exact ⟨p + 1 + (s[p]).toNat, f, pre ++ [X], by go_num, HX, by omega, HB3.out, hJ3⟩
          case measure => simp [intOf]; omega
        · gi_wp2
          refine bodyPost_ret (results_none rfl _ _ _) rfl ?_
          exact ⟨⟨_, rfl⟩, .inr ⟨pre ++ [X], ⟨labs s f (p + 1 + (s[p]).toNat), HX.out.symm⟩, hJx3⟩⟩
      · rw [if_neg (fun h => hgo ⟨fun e => h.2.1 (hzero.2 e), h.2.2.1, h.2.2.2⟩)] at hlab
        have hfin : labels s = labPre pre := by rw [hx.out, hlab, List.append_nil]
        have HF := Lib.hid hfin
        clear hfin hlab hx hf hg
        by_cases hz : (s[p]).toNat = 0
        · have q1 : (((s[p]).toNat : Int) != 0) = false := by simp; omega
          clear hzero hgo hz
          gi_wp2
          go_end0
          exact ⟨⟨_, rfl⟩, .inl ⟨pre, HF.out.symm, hj⟩⟩
        · have q1 : (((s[p]).toNat : Int) != 0) = true := by simp; omega
          by_cases h63 : (s[p]).toNat ≤ 63
          · have q2 : ((s[p]).toNat : Int) ≤ 63 := by omega
            have q3 : (s.size : Int) < (p : Int) + 1 + ((s[p]).toNat : Int) := by omega
            clear hzero hgo hz h63
            gi_wp2
            refine ⟨fun _ h => (by cases h), ?_⟩
            gi_wp2
            refine bodyPost_ret (results_none rfl _ _ _) rfl ?_
            exact ⟨⟨_, rfl⟩, .inl ⟨pre, HF.out.symm, hj⟩⟩
          · have q2 : (63 : Int) < ((s[p]).toNat : Int) := by omega
            clear hzero hgo hz h63
            gi_wp2
            refine ⟨fun _ h => (by cases h), ?_⟩
            gi_wp2
            refine bodyPost_ret (results_none rfl _ _ _) rfl ?_
            exact ⟨⟨_, rfl⟩, .inl ⟨pre, HF.out.symm, hj⟩⟩
    · have e : labs s f p = [] := by
        cases f with
        | zero => rfl
        | succ f => simp [labs, h1]
      have hfin : labels s = labPre pre := by rw [hx.out, e, List.append_nil]
      have HF := Lib.hid hfin; clear hfin e hx hf
      gi_wp2
      go_end0
      exact ⟨⟨_, rfl⟩, .inl ⟨pre, HF.out.symm, hj⟩⟩

theorem labels_any (s : ByteArray) (w : World) : Calls Tryz.prog 62 #[.string s] w fun e w' => e = .returned (.func (.func 152) #[] #[.pointer (some ⟨w.heap.size, 0, none⟩)]) ∧ w' = w.alloc (.cells #[.string s] 9) := by
  have hmf := makeFunc_run
  go_enter Tryz.func62, Tryz.ntmps62
  go_wp2
  go_ret
  exact ⟨rfl, rfl⟩

/-- Is a text a name? -/
def endOf (l : List (Nat × ByteArray)) : Nat := match l.getLast? with | none => 0 | some x => x.1 + 1 + x.2.size
def nameEnd (s : ByteArray) : Nat := endOf (labels s)
def nameRight (s : ByteArray) : Bool := decide (s.size ≠ 0 ∧ s.size ≤ 255) && decide (nameEnd s + 1 = s.size) && (byt s (nameEnd s) == 0)
theorem endOf_snoc (l : List (Nat × ByteArray)) (x : Nat × ByteArray) : endOf (l ++ [x]) = x.1 + 1 + x.2.size := by simp [endOf]

theorem labs_le (s : ByteArray) : ∀ (f p : Nat) (x : Nat × ByteArray), x ∈ labs s f p → p ≤ x.1 ∧ x.1 + 1 + x.2.size ≤ s.size ∧ x.2 = s.extract (x.1 + 1) (x.1 + 1 + x.2.size) ∧ 1 ≤ x.2.size ∧ x.2.size ≤ 63 ∧ (byt s x.1).toNat = x.2.size := by
  intro f
  induction f with
  | zero => intro p x h; simp [labs] at h
  | succ f ih =>
    intro p x h
    rw [labs] at h
    split at h
    · rename_i hc
      rcases List.mem_cons.1 h with h | h
      · subst h
        have e : (s.extract (p + 1) (p + 1 + (byt s p).toNat)).size = (byt s p).toNat := by rw [ByteArray.size_extract]; omega
        have hz : (byt s p).toNat ≠ 0 := fun h => hc.2.1 (UInt8.toNat_inj.1 (by rw [h]; rfl))
        simp only [e]
        exact ⟨Nat.le_refl _, by omega, trivial, by omega, by omega, trivial⟩
      · have := ih _ x h
        exact ⟨by omega, this.2⟩
    · simp at h
theorem labels_le (s : ByteArray) (x : Nat × ByteArray) (h : x ∈ labels s) : x.1 + 1 + x.2.size ≤ s.size ∧ x.2 = s.extract (x.1 + 1) (x.1 + 1 + x.2.size) ∧ 1 ≤ x.2.size ∧ x.2.size ≤ 63 ∧ (byt s x.1).toNat = x.2.size := (labs_le s _ 0 x h).2
theorem nameEnd_le (s : ByteArray) : nameEnd s ≤ s.size := by
  unfold nameEnd endOf
  cases h : (labels s).getLast? with
  | none => simp
  | some x => exact (labels_le s x (List.mem_of_getLast? h)).1

/-- Blocks abide what turns others than cells. -/
theorem Blk.kept {W W' : World} {row : Option Nat} {b : Nat} {cs : Array Value} {t : TypeId} (h : Blk W b cs t) (hg : W.grownBy W' row) (hrow : ∀ r, row = some r → ∃ o : Obj, W.heap[r]? = some o ∧ o.isCells = false) : Blk W' b cs t := by
  unfold Blk
  rw [hg.block b h.lt]
  · exact h
  · intro e
    obtain ⟨o, ho, hc⟩ := hrow b e.symm
    unfold Blk at h
    rw [h] at ho
    cases ho
    simp [Obj.isCells] at hc
end Go.Proofs.YtdmfbcfhfopipaaGreatDoor
