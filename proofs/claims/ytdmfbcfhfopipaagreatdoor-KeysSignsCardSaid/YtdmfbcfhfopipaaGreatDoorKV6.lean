import Derived.StillTailTactics
import Derived.Test.YtdmfbcfhfopipaaGreatDoorProg
import Derived.Test.YtdmfbcfhfopipaaGreatDoorKV5
import Derived.Test.YtdmfbcfhfopipaaGreatDoorKV1
import Derived.ArgAppend
import Derived.Test.YtdmfbcfhfopipaaGreatDoorKV2
import Derived.Laws.CopyRow
import Derived.Test.YtdmfbcfhfopipaaGreatDoorKV3
/- A region that draws its order: first an operation that yields in whatever world and that the end alone waits for ('out = append(out, ..)': the move of out); then operations that read; then a forced end. -/
namespace Go.Proofs.YtdmfbcfhfopipaaGreatDoor
open Go

section
variable {P : Program} {md : Region.Mode} {ops : Array Oper} {w : World} {n m : Nat}

def sinkFrom (md : Region.Mode) (ops : Array Oper) (m n : Nat) : Bool :=
  (List.range n).all fun i => decide (i < m) || (List.range (n + 1)).any fun j => decide (i < j) && Region.waitsFor md ops j i
structure InvFrom (md : Region.Mode) (ops : Array Oper) (m n : Nat) (listed : Array Bool) : Prop where
  head : HeadInv md ops n listed
  low : ∀ i, i < m → listed.getD i false = true
theorem InvFrom.set {i : Nat} {listed : Array Bool} (h : InvFrom md ops m n listed) (hi : i ∈ Region.ready md ops listed) (hn : i < n) : InvFrom md ops m n (listed.setIfInBounds i true) :=
  ⟨h.head.set hi hn, fun k hk => by
    by_cases e : i = k
    · subst e; exact getD_set_true (h.low i hk)
    · rw [getD_set_ne false e]; exact h.low k hk⟩

theorem waits_from (hs : sinkFrom md ops m n = true) (hc : Region.chainB md ops n = true) {listed : Array Bool} (inv : InvFrom md ops m n listed) :
    ∀ (d i : Nat), n - i = d → i < n → listed.getD i true = false → ∀ t, n ≤ t → t ∉ Region.ready md ops listed := by
  intro d
  induction d using Nat.strongRecOn with
  | _ d ih =>
    intro i hd hi hun t ht hr
    obtain ⟨_, ot, hot, hall⟩ := mem_ready.1 hr
    have htl : t < ops.size := (Array.getElem?_eq_some_iff.1 hot).1
    rcases Nat.eq_or_lt_of_le ht with e | hlt
    · subst e
      have h1 := List.all_eq_true.1 hs i (List.mem_range.2 hi)
      simp only [Bool.or_eq_true, decide_eq_true_eq] at h1
      rcases h1 with h1 | h1
      · have h3 := getD_both hun
        rw [inv.low i h1] at h3; cases h3
      · obtain ⟨j, hj, h2⟩ := List.any_eq_true.1 h1
        simp only [Bool.and_eq_true, decide_eq_true_eq] at h2
        have hjn := List.mem_range.1 hj
        obtain ⟨oj, hoj, e, he, hb, hon⟩ := Region.waitsFor_spec h2.2
        by_cases hjt : j = n
        · subst hjt
          obtain rfl := Option.some.inj (hoj.symm.trans hot)
          have h3 := hall e he hb
          rw [hon, getD_both hun] at h3; cases h3
        · cases hl : listed.getD j false with
          | true =>
            have h3 := inv.head.closed j oj hoj hl e he hb
            rw [hon, getD_both hun] at h3; cases h3
          | false => exact ih (n - j) (by omega) j rfl (by omega) (getD_in (by rw [inv.head.size]; omega) hl) n (Nat.le_refl _) hr
    · have h1 := List.all_eq_true.1 hc t (List.mem_range.2 htl)
      simp only [Bool.or_eq_true, decide_eq_true_eq] at h1
      rcases h1 with h1 | h1
      · omega
      · obtain ⟨o', ho', e, he, hb, hon⟩ := Region.waitsFor_spec h1
        obtain rfl := Option.some.inj (ho'.symm.trans hot)
        have h2 := hall e he hb
        rw [hon, getD_both (inv.head.tail (t - 1) (by omega) (by omega))] at h2; cases h2

theorem head_first {i : Nat} {oi : Oper} {v : Value} {L : Array Bool → Act → Prop} (hi : ops[i]? = some oi) (hsel : ∀ (j : Nat) (o : Oper) cs b, ops[j]? = some o → o.op ≠ .select cs b)
    (hs : sinkFrom md ops m n = true) (hc : Region.chainB md ops n = true) (hin : i < n) (hdone : ∀ listed a, L listed a → ∀ j ∈ Region.ready md ops listed, n ≤ j) :
    ∀ (f : Nat) (listed : Array Bool) (a : Act), InvFrom md ops m n listed →
      (∀ j oj, ops[j]? = some oj → j ≠ i → listed.getD j true = false → (∀ e ∈ oj.after, Region.binds md e = true → e.on ≠ i) → oi.apart ops oj = true) →
      i ∈ Region.ready md ops listed → YieldsAt P ops w oi v a →
      wpAnyL P md ops w n L f (listed.setIfInBounds i true) (a.put oi.dst v) → wpAnyL P md ops w n L (f + 1) listed a := by
  intro f
  induction f with
  | zero =>
    intro listed a inv _ hr hy H
    have hun := (mem_ready.1 hr).1
    refine ⟨fun h => (by rw [h] at hr; cases hr), fun j hj => ?_⟩
    have hjn : j < n := Nat.lt_of_not_le fun h => waits_from hs hc inv _ i rfl hin hun j h hj
    refine ⟨hjn, ?_⟩
    by_cases hji : j = i
    · subst hji; exact hy.stOp hi H
    · have := hdone _ _ H j (ready_mono hj hji)
      omega
  | succ f ih =>
    intro listed a inv hfree hr hy H
    have hun := (mem_ready.1 hr).1
    refine ⟨fun h => (by rw [h] at hr; cases hr), fun j hj => ?_⟩
    have hjn : j < n := Nat.lt_of_not_le fun h => waits_from hs hc inv _ i rfl hin hun j h hj
    refine ⟨hjn, ?_⟩
    by_cases hji : j = i
    · subst hji; exact hy.stOp hi H
    · have h1 := (H.2 j (ready_mono hj hji)).2
      obtain ⟨hjun, oj, hoj, hall⟩ := mem_ready.1 hj
      have hnot : ∀ e ∈ oj.after, Region.binds md e = true → e.on ≠ i := fun e he hb heq => by
        have h3 := hall e he hb
        rw [heq, getD_both hun] at h3
        cases h3
      have h2 := stOp_put hoj (hfree j oj hoj hji hjun hnot) (fun cs b => hsel i oi cs b hi) (fun cs b => hsel j oj cs b hoj) hy h1
      have hfree' : ∀ k ok, ops[k]? = some ok → k ≠ i → (listed.setIfInBounds j true).getD k true = false →
          (∀ e ∈ ok.after, Region.binds md e = true → e.on ≠ i) → oi.apart ops ok = true := fun k ok hk hki hkun hno => by
        refine hfree k ok hk hki ?_ hno
        by_cases hjk : j = k
        · subst hjk; exact hjun
        · rw [getD_set_ne true hjk] at hkun; exact hkun
      refine stOp_mono (fun a' h3 => ih (listed.setIfInBounds j true) a' (inv.set hj hjn) hfree' (ready_mono hr (Ne.symm hji)) h3.1 ?_) h2
      rw [Array.setIfInBounds_comm _ _ hji]
      exact h3.2

theorem heads_lex {g : Nat} {Lq : Act → Prop} (hsel : Region.noSelect ops = true) (hs : sinkFrom md ops m n = true) (hc : Region.chainB md ops n = true) :
    ∀ (l : List Oper) (k : Nat) (listed : Array Bool) (a : Act), (∀ j, j < l.length → l[j]? = ops[k + j]?) → k + l.length = n → InvFrom md ops m n listed →
    Region.lexHead md ops g l.length k listed = true → wpStill P ops w Lq l a →
    wpAnyL P md ops w n (fun listed' a' => Region.seqB md ops g n listed' = true ∧ Lq a') l.length listed a := by
  intro l
  induction l with
  | nil =>
    intro k listed a _ hk _ hB h
    simp only [List.length_nil, Nat.add_zero] at hk
    subst hk
    exact ⟨hB, h⟩
  | cons o l ih =>
    intro k listed a hl hk inv hB h
    have h0 : ops[k]? = some o := by simpa using (hl 0 (by simp)).symm
    simp only [List.length_cons, Region.lexHead, Bool.and_eq_true] at hB
    have hkn : k < n := by simp only [List.length_cons] at hk; omega
    have hr : k ∈ Region.ready md ops listed := by simpa using hB.1.1
    have hst : stOp P ops w k (wpStill P ops w Lq l) a := by unfold stOp; simp only [h0]; exact h
    obtain ⟨v, hy, hK⟩ := yieldsAt_of_stOp h0 hst
    exact head_first h0 (Region.noSelect_spec hsel) hs hc hkn (fun listed' a' hL => seqB_ready hL.1) l.length listed a inv (Region.free_spec h0 hB.1.2) hr hy
      (ih (k + 1) _ _ (fun j hj => by have := hl (j + 1) (by simp; omega); simpa [Nat.add_assoc, Nat.add_comm 1 j] using this) (by simp only [List.length_cons] at hk; omega) (inv.set hr hkn) hB.2 hK)

def oneThenB (md : Region.Mode) (ops : Array Oper) (n : Nat) : Bool :=
  Region.noSelect ops && decide (1 < n) && decide (n < ops.size) && sinkFrom md ops 1 n && Region.chainB md ops n && (Region.ready md ops (Array.replicate ops.size false)).contains 0 && Region.free md ops (Array.replicate ops.size false) 0
    && (match ops[0]? with | some o => o.after.isEmpty | none => false)
    && Region.lexHead md ops (ops.size - n) (n - 1) 1 ((Array.replicate ops.size false).setIfInBounds 0 true)

theorem wp_one_then {id : Nat} {Q : Exit → Act → World → Prop} {a : Act} {l : List Oper} {o0 : Oper} (n : Nat) (v : Value) (hm : P.follows .mixedOrders = true) (h0 : l.toArray[0]? = some o0) (hB : oneThenB .any l.toArray n = true)
    (hQ : ∀ c a w, Q (.panic c) (a.put o0.dst v) w → Q (.panic c) a w) (hy : Yields P l.toArray o0 v a)
    (h : wpStill P l.toArray { w with drawn := w.drawn + 1 } (fun a' => wpList P l.toArray Q (l.drop n) a' { w with drawn := w.drawn + 1 }) ((l.take n).drop 1) (a.put o0.dst v)) : (Code.region id l.toArray true).wp P Q a w := by
  simp only [oneThenB, Bool.and_eq_true, decide_eq_true_eq] at hB
  obtain ⟨⟨⟨⟨⟨⟨⟨⟨hsel, h1n⟩, hn⟩, hs⟩, hc⟩, hr⟩, hf⟩, haf⟩, hlex⟩ := hB
  have hsz : l.toArray.size = l.length := by simp
  have hn' : n < l.length := by rw [← hsz]; exact hn
  have htl : ((l.take n).drop 1).length = n - 1 := by simp; omega
  have hdl : (l.drop n).length = l.toArray.size - n := by simp
  have hr' : 0 ∈ Region.ready .any l.toArray (Array.replicate l.toArray.size false) := by simpa using hr
  have inv0 : HeadInv .any l.toArray n (Array.replicate l.toArray.size false) :=
    ⟨by simp, fun j oj _ hl => (by rw [getD_replicate_false] at hl; cases hl), fun t _ ht => getD_in (by simpa using ht) (getD_replicate_false _ _)⟩
  have inv1 : InvFrom .any l.toArray 1 n ((Array.replicate l.toArray.size false).setIfInBounds 0 true) :=
    ⟨inv0.set hr' (by omega), fun i hi => by
      obtain rfl : i = 0 := by omega
      simp [show 0 < l.length by omega]⟩
  have H := heads_lex (P := P) (w := { w with drawn := w.drawn + 1 }) (md := .any) (g := l.toArray.size - n) hsel hs hc ((l.take n).drop 1) 1 _ (a.put o0.dst v) (fun j hj => by
    rw [htl] at hj
    rw [List.getElem?_drop, List.getElem?_take, if_pos (by omega)]
    simp) (by rw [htl]; omega) inv1 (by rw [htl]; exact hlex) h
  have H2 := wpAny_of_head (Q' := Q) (g := l.toArray.size - n) (fun listed a' hL => by
    have := wpAny_of_seq (md := .any) (Q' := Q) (l.drop n) n listed a' { w with drawn := w.drawn + 1 } (fun j => by simp [List.getElem?_drop]) (by rw [hdl]; exact hL.1) hL.2
    rwa [hdl] at this) _ _ _ H
  rw [htl] at H2
  refine wp_region_any hm ?_
  have e : l.toArray.size = (n - 1 + (l.toArray.size - n)) + 1 := by omega
  rw [e]
  have H3 := wpAny_take h0 hsel hf hr hQ hy H2
  simpa [show n - 1 + (l.length - n) + 1 = l.length by omega] using H3
end
end Go.Proofs.YtdmfbcfhfopipaaGreatDoor

/- The document's own digest's bytes (its chapter 4): tell, padded. -/
namespace Go.Proofs.YtdmfbcfhfopipaaGreatDoor
open Go.RowKit

set_option maxRecDepth 100000 in
set_option maxHeartbeats 400000 in
theorem ref_tell (l : List W32) (g c : Nat) (t : TypeId) (w : World) (hl : l.length ≤ 1000) (hb : Blk w g (encW l) t) : Calls Tryz.prog 68 #[.slice (some ⟨g, 0, none⟩) l.length c] w fun e w' => e = .returned (.string (bs (tellW l))) ∧ Below w.heap.size w w' := by
  have HC := Lib.hid (fun W (h : Below w.heap.size w W) i (hi : i < l.length) => show W.cell? ⟨g, i, none⟩ = some (.int .u32 (wd (l.getD i 0))) from by rw [(hb.below h hb.lt).cell i, encW_get l i hi])
  clear hb
  have hmix : Tryz.prog.follows .mixedOrders = true := by kernel_rfl
  go_enter Tryz.func68, Tryz.ntmps68
  go_wp2
  go_loopw [3, 4] (fun v i wr => ∃ k : Nat, k ≤ l.length ∧ i = .int .i64 k ∧ Hid (OwnB w.heap.size v (tellW (l.take k)) wr) ∧ Hid (Below w.heap.size w wr ∧ w.heap.size ≤ wr.heap.size)) (fun _ i _ => l.length - (intOf i).toNat)
  case atStart => exact ⟨0, Nat.zero_le _, rfl, Lib.hid (OwnB.nil _ _), Lib.hid ⟨Below.refl _ _, Nat.le_refl _⟩⟩
  case round =>
    obtain ⟨k, hk, rfl, hO, hB⟩ := hrel
    by_cases hlt : k < l.length
    · have hcell := HC.out wr hB.out.1 k hlt
      generalize hx : l.getD k 0 = x at hcell
      have Hx := Lib.hid hx; clear hx
      have s1 : wd x / (16777216 : Int) = wd (x >>> (24 : Nat)) := wd_shr x 24
      have s2 : wd x / (65536 : Int) = wd (x >>> (16 : Nat)) := wd_shr x 16
      have s3 : wd x / (256 : Int) = wd (x >>> (8 : Nat)) := wd_shr x 8
      have s4 := by8_int
      have hlk := (tellW_len (l.take k)).trans (by rw [List.length_take, Nat.min_eq_left hk])
      have HL := Lib.hid hlk; clear hlk
      have info := info_u8b
      go_wp2_with fail
      refine wp_one_then 24 u3 hmix rfl (by kernel_rfl) (fun _ _ _ h => h) (.inl ⟨rfl, fun _ => rfl⟩) ?_
      simp only [List.take_succ_cons, List.take_zero, List.drop_succ_cons, List.drop_zero]
      repeat still_step
      refine wpStill_nil ?_
      change wpList _ _ _ _ _ wr.drew
      have hO1 : Hid (OwnB w.heap.size u3 (tellW (l.take k)) wr.drew) := hO
      have hB1 : Hid (Below w.heap.size w wr.drew ∧ w.heap.size ≤ wr.drew.heap.size) := Lib.hid ⟨⟨hB.out.1.os, hB.out.1.tape, hB.out.1.output, hB.out.1.size, hB.out.1.block⟩, hB.out.2⟩
      generalize wr.drew = W1 at hO1 hB1
      clear hcell hO hB
      go_wp2_with (at_builtin; go_loud (refine ownB_append hO1.out hB1.out.1 hB1.out.2 (four x) (by have := HL.out; simp only [four, List.length_cons, List.length_nil]; omega) rfl _ _ rfl _ 4 4 rfl rfl rfl rfl ?_))
      intro v1 w1 h1 h2 h3
      have ht : tellW (l.take (k + 1)) = tellW (l.take k) ++ four x := by rw [tellW_take l k hlt, Hx.out]
      rw [← ht] at h1
      have H1 := Lib.hid h1; have H2 := Lib.hid (And.intro h2 h3)
      clear h1 h2 h3 ht hO1 hB1
      go_wp2
      go_roundw
      case rel => exact ⟨k + 1, by omega, by go_num, H1, H2⟩
      case measure => simp [intOf]; omega
    · obtain rfl : k = l.length := by omega
      rw [List.take_length] at hO
      have hcv := hO.out.string
      have HV := Lib.hid hB.out.1
      go_wp2
      go_ret
      exact ⟨rfl, HV.out⟩
end Go.Proofs.YtdmfbcfhfopipaaGreatDoor

/- A row of bytes that the call made ('[]byte(s)' or an append's), told by its cells: a byte appended to it; its text. -/
namespace Go.Proofs.YtdmfbcfhfopipaaGreatDoor
open Go.RowKit

/-- v is a row of the call's own that holds these bytes; what lies behind them may be written. -/
def ByAt (base : Nat) (v : Value) (l : List UInt8) (w : World) : Prop :=
  ∃ g cap, v = .slice (some ⟨g, 0, none⟩) l.length cap ∧ base ≤ g ∧ g < w.heap.size ∧ l.length ≤ cap ∧ cap ≤ maxLen ∧ (∀ j, j < l.length → w.cell? ⟨g, j, none⟩ = some (bv (l.getD j 0))) ∧
    ∀ j, l.length ≤ j → j < cap → (w.cell? ⟨g, j, none⟩).isSome = true ∧ w.frozen? ⟨g, j, none⟩ = false
theorem byAt_new (w : World) (s : ByteArray) (hs : s.size ≤ 140737488351232) : ByAt w.heap.size (.slice (some ⟨w.heap.size, 0, none⟩) s.size (grownCap w s.size 0 5)) s.data.toList (Lib.bytesWorld w 5 s) := by
  have hge := grownCap_ge w s.size 0 5
  have hle := grownCap_le_maxLen w s.size 0 5 (by simp only [maxLen]; omega)
  have hl : s.data.toList.length = s.size := by simp
  have hsz : (Lib.bytesCells w 5 s).size = grownCap w s.size 0 5 := by
    simp only [Lib.bytesCells, Array.size_append, Array.size_map, Array.size_replicate]
    show s.size + _ = _; omega
  refine ⟨w.heap.size, _, by rw [hl], Nat.le_refl _, by rw [Lib.bytesWorld_size]; omega, by rw [hl]; exact hge, hle, fun j hj => ?_, fun j h1 h2 => ⟨?_, ?_⟩⟩
  · exact Lib.bytesWorld_cell w 5 s j (by rw [hl] at hj; exact hj)
  · simp only [World.cell?, Lib.bytesWorld_at_new]
    simp [hsz, h2]
  · simp only [World.frozen?, Lib.bytesWorld_at_new, hsz]
    simp; omega
theorem ByAt.string {base : Nat} {v : Value} {l : List UInt8} {w : World} (h : ByAt base v l w) : (convert 41 9 v).run Tryz.prog w = .ok (.string ⟨l.toArray⟩) w := by
  obtain ⟨g, cap, rfl, _, _, _, _, hc, _⟩ := h
  have := run_convert_bytes_arg (P := Tryz.prog) w 41 5 Tryz.underlying41 Tryz.underlying5 g 0 l.length cap (l.map fun b => (b.toNat : Int)) (by simp) (by
    intro i hi
    rw [Nat.zero_add, hc i hi]
    simp [bv, List.getD, List.getElem?_eq_getElem hi]) 9 Tryz.underlying9
  have e : strOfNums (l.map fun b => (b.toNat : Int)) = ⟨l.toArray⟩ := by
    show (⟨((l.map fun b => (b.toNat : Int)).map fun n => UInt8.ofNat n.toNat).toArray⟩ : ByteArray) = ⟨l.toArray⟩
    rw [List.map_map]
    have e : ((fun n : Int => UInt8.ofNat n.toNat) ∘ fun b : UInt8 => (b.toNat : Int)) = id := by
      funext b
      simp
    rw [e, List.map_id]
  rw [this, e]
theorem ByAt.slice {base : Nat} {v : Value} {l : List UInt8} {w : World} (h : ByAt base v l w) : ∃ g cap, v = .slice (some ⟨g, 0, none⟩) l.length cap := by
  obtain ⟨g, cap, e, _⟩ := h
  exact ⟨g, cap, e⟩
theorem byAt_append {ops : Array Oper} {rest : List Oper} {o : Oper} {a : Act} {Q : Exit → Act → World → Prop} {base : Nat} {v : Value} {l : List UInt8} {w0 W : World} (HO : ByAt base v l W) (HB : Below base w0 W) (hbase : base ≤ W.heap.size) (x : UInt8) (hl : l.length < 140737488355328)
    (hgd : o.guard = none) (s y : Operand) (ho : o.op = .call { callee := .builtin .append, args := #[s, y], argTypes := #[41, 41] }) (cs : Array Value) (m c : Nat) (hs : a.eval s = v) (hx : a.eval y = .slice (some ⟨W.heap.size, 0, none⟩) m c) (hcs : cs = #[bv x]) (hm : m = 1)
    (h : ∀ v1 w1, ByAt base v1 (l ++ [x]) w1 → Below base w0 w1 → base ≤ w1.heap.size → wpList Tryz.prog ops Q rest (a.put o.dst v1) w1) : wpList Tryz.prog ops Q (o :: rest) a (W.alloc (.cells cs 5)) := by
  subst hcs hm
  obtain ⟨g, cap, rfl, hg, hlt, hlc, hmax, hc, hf⟩ := HO
  obtain ⟨i0, hi, hzz⟩ := Option.map_eq_some_iff.1 info_u8b
  simp only [Prod.mk.injEq] at hzz
  obtain ⟨hz0, hz1, hz2⟩ := hzz
  have hne : g ≠ W.heap.size := by omega
  have hcell : ∀ j, (W.alloc (.cells #[bv x] 5)).cell? ⟨g, j, none⟩ = W.cell? ⟨g, j, none⟩ := fun j => World.cell?_alloc_old _ _ _ hne
  have hfro : ∀ j, (W.alloc (.cells #[bv x] 5)).frozen? ⟨g, j, none⟩ = W.frozen? ⟨g, j, none⟩ := fun j =>
    World.frozen?_of_block (w := W) (a := ⟨g, j, none⟩) (Below.heap_alloc _ _ _ hlt)
  have hnew : ∀ j u, [bv x][j]? = some u → (W.alloc (.cells #[bv x] 5)).cell? ((⟨W.heap.size, 0, none⟩ : Addr).add j) = some u :=
    World.news_of_block (cs := #[bv x]) (t := 5) (fr := (0, 0)) (heap_alloc_new W _)
  have h1 : ∀ u ∈ [bv x], u.oneCell' = true := by intro u hu; simp at hu; obtain rfl := hu; rfl
  have hll : (l ++ [x]).length = l.length + 1 := by simp
  have hB1 := HB.alloc hbase (.cells #[bv x] 5)
  refine wpList_plain hgd fun K hK => ?_
  by_cases hroom : l.length + 1 ≤ cap
  · have hr := run_append_room_cells (P := Tryz.prog) (W.alloc (.cells #[bv x] 5)) 41 o.type 5 i0 Tryz.underlying41 hi g 0 l.length cap ⟨W.heap.size, 0, none⟩ 1 c [bv x] (by simp [hz1]) hnew h1 hroom
      (by intro j hj; obtain rfl : j = 0 := by simpa using hj
          rw [hz1, Nat.mul_one, Nat.zero_add, Nat.add_zero, hcell]; exact (hf _ (Nat.le_refl _) (by omega)).1)
      (by intro j hj; obtain rfl : j = 0 := by simpa using hj
          rw [hz1, Nat.mul_one, Nat.zero_add, Nat.add_zero, hfro]; exact (hf _ (Nat.le_refl _) (by omega)).2)
    rw [hz1, Nat.mul_one, Nat.zero_add] at hr
    unfold Oper.wp execOp
    simp only [ho, resolve, invoke, builtin, Sem.run_bind, Sem.run_pure, Result.andThen_ok, List.map_toArray, List.map_cons, List.map_nil, hs, hx, hr]
    refine hK _ _ (h _ _ ⟨g, cap, by rw [hll], hg, ?_, by rw [hll]; exact hroom, hmax, fun j hj => ?_, fun j h1 h2 => ?_⟩ (hB1.setCell (p := ⟨g, l.length, none⟩) hg _) ?_)
    · show g < ((W.alloc _).setCell _ _).heap.size
      simp; omega
    · show ((W.alloc _).setCell ⟨g, l.length, none⟩ (bv x)).cell? _ = _
      rw [hll] at hj
      by_cases e : j = l.length
      · subst e
        obtain ⟨u, hu⟩ := Option.isSome_iff_exists.1 (hf _ (Nat.le_refl _) (by omega)).1
        rw [World.cell?_setCell_same _ _ _ ((hcell _).trans hu)]
        simp [List.getD]
      · rw [World.cell?_setCell_other _ _ _ _ (by intro h; cases h; exact e rfl), hcell, hc j (by omega)]
        simp [List.getD, List.getElem?_append_left (show j < l.length by omega)]
    · show (((W.alloc _).setCell ⟨g, l.length, none⟩ (bv x)).cell? _).isSome = true ∧ ((W.alloc _).setCell ⟨g, l.length, none⟩ (bv x)).frozen? _ = false
      rw [hll] at h1
      rw [World.cell?_setCell_other _ _ _ _ (by intro h; cases h; omega), World.frozen?_setCell, hcell, hfro]
      exact hf j (by omega) h2
    · show base ≤ ((W.alloc _).setCell _ _).heap.size
      simp; omega
  · have holds : ∀ j u, (l.map bv)[j]? = some u → (W.alloc (.cells #[bv x] 5)).cell? ((⟨g, 0, none⟩ : Addr).add j) = some u := by
      intro j u hu
      have hj : j < l.length := by
        rcases Nat.lt_or_ge j l.length with h | h
        · exact h
        · rw [List.getElem?_eq_none (by simpa using h)] at hu; cases hu
      have e : (⟨g, 0, none⟩ : Addr).add j = ⟨g, j, none⟩ := by unfold Addr.add; split <;> simp_all
      rw [e, hcell, hc j hj, ← hu]
      simp [List.getD, List.getElem?_eq_getElem hj]
    have hr := run_append_grow (P := Tryz.prog) (W.alloc (.cells #[bv x] 5)) 41 o.type 5 i0 (.int .u8 0) Tryz.underlying41 hi hz0 ⟨g, 0, none⟩ l.length cap (l.map bv) (by simp [hz1]) holds ⟨W.heap.size, 0, none⟩ 1 c [bv x] (by simp [hz1]) hnew
      (by omega) (by omega) (growslice_fits (by omega) (by rw [hz2]; omega))
    have hge := grownCap_ge (W.alloc (.cells #[bv x] 5)) (l.length + 1) cap 5
    have hle := grownCap_le_maxLen (W.alloc (.cells #[bv x] 5)) (l.length + 1) cap 5 (by simp only [maxLen]; omega)
    generalize grownCap (W.alloc (.cells #[bv x] 5)) (l.length + 1) cap 5 = cap' at hr hge hle
    unfold Oper.wp execOp
    simp only [ho, resolve, invoke, builtin, Sem.run_bind, Sem.run_pure, Result.andThen_ok, List.map_toArray, List.map_cons, List.map_nil, hs, hx, hr]
    have hz : (Builtin.zeroCells (Value.int .u8 0).cells (cap' - (l.length + 1))).size = cap' - (l.length + 1) := by rw [size_zeroCells]; simp [Value.cells]
    generalize hcs : ((l.map bv).toArray ++ [bv x].toArray ++ Builtin.zeroCells (Value.int .u8 0).cells (cap' - (l.length + 1))) = cs
    have hcsz : cs.size = cap' := by rw [← hcs]; simp only [Array.size_append, hz]; simp; omega
    have hblk : Blk ((W.alloc (.cells #[bv x] 5)).drew.alloc (.cells cs 5)) (W.alloc (.cells #[bv x] 5)).heap.size cs 5 := Blk.new (W.alloc (.cells #[bv x] 5)).drew cs 5
    refine hK _ _ (h _ _ ⟨(W.alloc (.cells #[bv x] 5)).heap.size, cap', by rw [hll], by simp; omega, hblk.lt, by rw [hll]; exact hge, hle, fun j hj => ?_, fun j h1 h2 => ⟨?_, hblk.free j⟩⟩ ((hB1.drew).alloc (by show base ≤ (W.alloc _).heap.size; simp; omega) _) (by show base ≤ ((W.alloc (.cells #[bv x] 5)).drew.alloc (.cells cs 5)).heap.size; simp; omega))
    · rw [hblk.cell j, ← hcs]
      rw [hll] at hj
      rw [Array.getElem?_append_left (by simp; omega)]
      by_cases e : j = l.length
      · subst e
        rw [Array.getElem?_append_right (by simp)]
        simp [List.getD]
      · rw [Array.getElem?_append_left (by simp; omega)]
        simp [List.getD, List.getElem?_append_left (show j < l.length by omega), show j < l.length by omega]
    · rw [hblk.cell j, Array.getElem?_eq_getElem (by omega)]; rfl
end Go.Proofs.YtdmfbcfhfopipaaGreatDoor

/- The document's own text made up to blocks (its chapter 4). -/
namespace Go.Proofs.YtdmfbcfhfopipaaGreatDoor
open Go.RowKit

def lenV : Value → Nat
  | .slice _ n _ => n
  | _ => 0
def zerosOf (n : Nat) : Nat := (119 - n % 64) % 64
theorem zerosOf_lt (n k : Nat) (h : k < zerosOf n) : (n + 1 + k) % 64 ≠ 56 := by unfold zerosOf at h; omega
theorem zerosOf_eq (n : Nat) : (n + 1 + zerosOf n) % 64 = 56 := by unfold zerosOf; omega
theorem lenB_next (N m : Nat) : lenB N (m + 1) = lenB N m ++ [UInt8.ofNat (N / 2 ^ (56 - 8 * m))] := by simp [lenB, List.range_succ]

set_option maxRecDepth 100000 in
set_option maxHeartbeats 600000 in
theorem ref_padded (s : ByteArray) (hs : s.size ≤ 140737488351232) (w : World) : Calls Tryz.prog 65 #[.string s] w fun e w' => e = .returned (.string (bs (padL s.data.toList))) ∧ Below w.heap.size w w' := by
  have hcv := conv_string_bytes w s
  have hst := byAt_new w s hs
  have hbl := below_bytesWorld w 5 s
  have hsz := Lib.bytesWorld_size w 5 s
  have hl : s.data.toList.length = s.size := by simp
  have hp : padL s.data.toList = s.data.toList ++ (padT s.size ++ lenB (8 * s.size) 8) := by
    rw [padL, hl, Nat.mod_eq_of_lt (by omega)]
  generalize padL s.data.toList = P at hp ⊢
  generalize s.data.toList = l at hst hl hp
  generalize Lib.bytesWorld w 5 s = W0 at hcv hst hbl hsz
  generalize grownCap w s.size 0 5 = cap at hcv hst
  have H0 : Hid (ByAt w.heap.size (.slice (some ⟨w.heap.size, 0, none⟩) s.size cap) l W0 ∧ Below w.heap.size w W0 ∧ w.heap.size ≤ W0.heap.size) := Lib.hid ⟨hst, hbl, by omega⟩
  have HP := Lib.hid hp; have HL := Lib.hid hl
  have info := info_u8b
  clear hst hbl hsz hp hl
  go_enter Tryz.func65, Tryz.ntmps65
  go_wp2_with (at_builtin; go_loud (refine byAt_append H0.out.1 H0.out.2.1 H0.out.2.2 128 (by rw [HL.out]; omega) rfl _ _ rfl _ 1 1 rfl rfl rfl rfl ?_))
  intro v1 w1 a1 a2 a3
  have A1 := Lib.hid (And.intro a1 (And.intro a2 a3))
  clear a1 a2 a3
  clear H0 hcv
  have hA1 : Hid (ByAt w.heap.size v1 (l ++ 128 :: List.replicate 0 0) w1 ∧ Below w.heap.size w w1 ∧ w.heap.size ≤ w1.heap.size) := A1
  clear A1
  go_wp2_with fail
  go_loopw [4] (fun v wr => ∃ k : Nat, k ≤ zerosOf s.size ∧ Hid (ByAt w.heap.size v (l ++ 128 :: List.replicate k 0) wr ∧ Below w.heap.size w wr ∧ w.heap.size ≤ wr.heap.size)) (fun v _ => s.size + 1 + zerosOf s.size - lenV v)
  case atStart => exact ⟨0, Nat.zero_le _, hA1⟩
  case round =>
    obtain ⟨k, hk, hA⟩ := hrel
    have hlen : (l ++ 128 :: List.replicate k 0).length = s.size + 1 + k := by simp [HL.out]; omega
    obtain ⟨g, cap', e⟩ := hA.out.1.slice
    rw [hlen] at e
    generalize hn : s.size + 1 + k = n at e hlen
    have HN := Lib.hid hn
    have HLen := Lib.hid hlen
    subst e
    by_cases hz : k < zerosOf s.size
    · have hq : ((n : Int) % 64 != 56) = true := by have := zerosOf_lt _ _ hz; simp; omega
      clear hn hlen
      go_wp2_with (at_builtin; go_loud (refine byAt_append hA.out.1 hA.out.2.1 hA.out.2.2 0 (by rw [HLen.out]; have := HN.out; have : zerosOf s.size < 64 := Nat.mod_lt _ (by omega); omega) rfl _ _ rfl _ 1 1 rfl rfl rfl rfl ?_))
      intro v1 w1 a1 a2 a3
      have A1 := Lib.hid (And.intro a1 (And.intro a2 a3))
      clear a1 a2 a3
      have A2 : Hid (ByAt w.heap.size v1 (l ++ 128 :: List.replicate (k + 1) 0) w1 ∧ Below w.heap.size w w1 ∧ w.heap.size ≤ w1.heap.size) := by
        have h := A1.out
        rw [← List.replicate_succ'] at h
        exact Lib.hid h
      obtain ⟨g2, cap2, e2⟩ := A2.out.1.slice
      have hl2 : (l ++ 128 :: List.replicate (k + 1) 0).length = n + 1 := by have := HN.out; simp [HL.out]; omega
      rw [hl2] at e2
      have E2 := Lib.hid e2
      clear A1 e2 hA
      go_wp2_with fail
      go_roundw
      case rel => exact ⟨k + 1, by omega, A2⟩
      case measure =>
        have h1 := HN.out
        rw [E2.out]
        simp only [lenV]
        omega
    · obtain rfl : k = zerosOf s.size := by omega
      have hq : ((n : Int) % 64 != 56) = false := by have := zerosOf_eq s.size; simp; omega
      have hB : Hid (ByAt w.heap.size (.slice (some ⟨g, 0, none⟩) n cap') (l ++ (padT s.size ++ lenB (8 * s.size) 0)) wr ∧ Below w.heap.size w wr ∧ w.heap.size ≤ wr.heap.size) := by
        have h := hA.out
        rw [show padT s.size ++ lenB (8 * s.size) 0 = 128 :: List.replicate (zerosOf s.size) 0 by simp [padT, lenB, zerosOf]]
        exact Lib.hid h
      clear hA hn hlen
      have HN2 : Hid (n = s.size + 1 + zerosOf s.size) := Lib.hid HN.out.symm
      clear HN HLen
      go_wp2_with fail
      go_loopw [4, 5] (fun v z wr => ∃ (j : Nat) (zi : Int), j ≤ 8 ∧ Hid (zi = 7 - (j : Int)) ∧ z = .int .i64 zi ∧ Hid (ByAt w.heap.size v (l ++ (padT s.size ++ lenB (8 * s.size) j)) wr ∧ Below w.heap.size w wr ∧ w.heap.size ≤ wr.heap.size)) (fun _ z _ => (intOf z + 1).toNat)
      case atStart => exact ⟨0, 7, by omega, Lib.hid (by omega), rfl, hB⟩
      case round =>
        obtain ⟨j, zi, hj, hz7, rfl, hA⟩ := hrel
        by_cases hlt : j < 8
        · obtain ⟨kk, hkk⟩ : ∃ kk : Nat, kk = 7 - j := ⟨_, rfl⟩
          obtain rfl : zi = (kk : Int) := by have := hz7.out; omega
          obtain ⟨sh, hsh⟩ : ∃ sh : Nat, sh = 8 * kk := ⟨_, rfl⟩
          have h8 : (8 : Int) * (kk : Int) = (sh : Int) := by omega
          have hsl : sh ≤ 56 := by omega
          have hkl : kk ≤ 7 := by omega
          have hm : min sh 64 = sh := by omega
          have hbv : 8 * (s.size : Int) / 2 ^ sh % 256 = ((UInt8.ofNat (8 * s.size / 2 ^ sh)).toNat : Int) := by
            have e1 : (8 * (s.size : Int) / 2 ^ sh) = ((8 * s.size / 2 ^ sh : Nat) : Int) := by push_cast; rfl
            rw [e1]
            simp
          have hnx : lenB (8 * s.size) (j + 1) = lenB (8 * s.size) j ++ [UInt8.ofNat (8 * s.size / 2 ^ sh)] := by rw [lenB_next, show 56 - 8 * j = sh by omega]
          generalize UInt8.ofNat (8 * s.size / 2 ^ sh) = by_ at hbv hnx
          have hlen : (l ++ (padT s.size ++ lenB (8 * s.size) j)).length ≤ 140737488352000 := by
            have : zerosOf s.size < 64 := Nat.mod_lt _ (by omega)
            simp [padT, lenB, HL.out]; omega
          have HLN := Lib.hid hlen
          have HNX := Lib.hid hnx
          have HKK := Lib.hid hkk
          clear hlen hnx hkk hsh
          go_wp2_with (at_builtin; go_loud (refine byAt_append hA.out.1 hA.out.2.1 hA.out.2.2 by_ (by exact Nat.lt_of_le_of_lt HLN.out (by omega)) rfl _ _ rfl _ 1 1 rfl rfl rfl rfl ?_))
          intro v1 w1 a1 a2 a3
          have A1 := Lib.hid (And.intro a1 (And.intro a2 a3))
          clear a1 a2 a3
          have A2 : Hid (ByAt w.heap.size v1 (l ++ (padT s.size ++ lenB (8 * s.size) (j + 1))) w1 ∧ Below w.heap.size w w1 ∧ w.heap.size ≤ w1.heap.size) := by
            have h := A1.out
            rw [← HNX.out] at h
            exact Lib.hid h
          clear A1 hA
          go_wp2_with fail
          go_roundw
          case rel => exact ⟨j + 1, (kk : Int) - 1, by omega, Lib.hid (by have := HKK.out; omega), rfl, A2⟩
          case measure => simp [intOf]
        · obtain rfl : j = 8 := by omega
          obtain rfl : zi = -1 := by have := hz7.out; omega
          have hcs := hA.out.1.string
          rw [← HP.out] at hcs
          have HV := Lib.hid hA.out.2.1
          clear hA
          go_wp2_with fail
          go_ret
          exact ⟨rfl, HV.out⟩
end Go.Proofs.YtdmfbcfhfopipaaGreatDoor

/- The document's own SHA-256 (its chapter 4): it is the program's. -/
namespace Go.Proofs.YtdmfbcfhfopipaaGreatDoor
open Go.RowKit

theorem ref_ror_at (x : W32) (k : Int) (h0 : 0 ≤ k) (h : k < 32) (w : World) : Calls Tryz.prog 71 #[.int .u32 (wd x), .int .i64 k] w fun e w' => e = .returned (.int .u32 (wd (rorW x k.toNat))) ∧ ∃ m, w' = w.drewN m := by
  have := ref_ror x k.toNat (by omega) w
  rw [Int.toNat_of_nonneg h0] at this
  exact this
theorem ref_left_at (x : W32) (k : Int) (h0 : 0 ≤ k) (h : k < 32) (w : World) : Calls Tryz.prog 67 #[.int .u32 (wd x), .int .i64 k] w fun e w' => e = .returned (.int .u32 (wd (rotW x k.toNat))) ∧ ∃ m, w' = w.drewN m := by
  have := ref_left x k.toNat (by omega) w
  rw [Int.toNat_of_nonneg h0] at this
  exact this

/-- The rows of a digest: what is so far, the words of the rounds. -/
structure R2 (w : World) (hb kb : Nat) (st : List W32) (W : World) : Prop where
  len : st.length = 8
  h : Blk W hb (encW st) 64
  k : Blk W kb (encW K256) 64
  below : Below w.heap.size w W
  hlo : w.heap.size ≤ hb
  ne : hb ≠ kb
theorem R2.next {w W W' : World} {hb kb : Nat} {st : List W32} (h : R2 w hb kb st W) (hB : Below W.heap.size W W') : R2 w hb kb st W' :=
  ⟨h.len, h.h.below hB h.h.lt, h.k.below hB h.k.lt, h.below.trans (hB.mono h.below.size), h.hlo, h.ne⟩
theorem R2.drewN {w W : World} {hb kb : Nat} {st : List W32} (h : R2 w hb kb st W) (n : Nat) : R2 w hb kb st (W.drewN n) := ⟨h.len, h.h, h.k, ⟨h.below.os, h.below.tape, h.below.output, h.below.size, h.below.block⟩, h.hlo, h.ne⟩
theorem R2.set {w W : World} {hb kb : Nat} {st : List W32} (h : R2 w hb kb st W) (p : Addr) (v : Value) (h1 : hb ≠ p.block) (h2 : kb ≠ p.block) (h3 : w.heap.size ≤ p.block) : R2 w hb kb st (W.setCell p v) :=
  ⟨h.len, h.h.other h1 v, h.k.other h2 v, h.below.setCell h3 v, h.hlo, h.ne⟩
/-- The words, so far. -/
def soFar (b : List W32) (f : List W32 → Nat → W32) (m j : Nat) : List W32 := schedW b f j ++ List.replicate (m - j) 0
theorem soFar_len (b : List W32) (f : List W32 → Nat → W32) (m j : Nat) (h : j ≤ m) : (soFar b f m j).length = m := by simp [soFar, schedW_len]; omega
theorem soFar_get (b : List W32) (f : List W32 → Nat → W32) (m j k : Nat) (h : k < j) : (soFar b f m j).getD k 0 = (schedW b f j).getD k 0 := by
  rw [soFar, List.getD_eq_getElem?_getD, List.getElem?_append_left (by rw [schedW_len]; exact h), ← List.getD_eq_getElem?_getD]
theorem soFar_next (b : List W32) (f : List W32 → Nat → W32) (m j : Nat) (h : j < m) (x : W32) (hx : (if j < 16 then b.getD j 0 else f (schedW b f j) j) = x) : soFar b f m (j + 1) = (soFar b f m j).set j x := by
  rw [soFar, soFar, show m - j = (m - (j + 1)) + 1 by omega, List.replicate_succ, List.set_append, if_neg (by rw [schedW_len]; omega), schedW_len, Nat.sub_self, List.set_cons_zero, schedW, hx]
  simp
theorem soFar_all (b : List W32) (f : List W32 → Nat → W32) (m : Nat) : soFar b f m m = schedW b f m := by simp [soFar]

def zer (n : Nat) : List W32 := List.replicate n 0
theorem make_zer (n : Nat) (h : n ≤ 1000) (w : World) : (Instr.makeSlice 43 (.int .i64 (n : Int)) (.int .i64 (n : Int))).run Tryz.prog w = .ok (.slice (some ⟨w.heap.size, 0, none⟩) n n) (w.alloc (.cells (encW (zer n)) 64)) := by
  rw [zer, ← made_enc]
  exact run_make_row' 43 64 (.int .u32 0) 4 Tryz.underlying43 info_u32 rfl .i64 .i64 n (by omega) (by omega) w
theorem make64 (w : World) : (Instr.makeSlice 43 (.int .i64 64) (.int .i64 64)).run Tryz.prog w = .ok (.slice (some ⟨w.heap.size, 0, none⟩) 64 64) (w.alloc (.cells (encW (zer 64)) 64)) := make_zer 64 (by omega) w
theorem make8 (w : World) : (Instr.makeSlice 43 (.int .i64 8) (.int .i64 8)).run Tryz.prog w = .ok (.slice (some ⟨w.heap.size, 0, none⟩) 8 8) (w.alloc (.cells (encW (zer 8)) 64)) := make_zer 8 (by omega) w
theorem make80 (w : World) : (Instr.makeSlice 43 (.int .i64 80) (.int .i64 80)).run Tryz.prog w = .ok (.slice (some ⟨w.heap.size, 0, none⟩) 80 80) (w.alloc (.cells (encW (zer 80)) 64)) := make_zer 80 (by omega) w

theorem copy8 (st : List W32) (h8 : st.length = 8) (W : World) (hb : Nat) (hB : Blk W hb (encW st) 64) : (Builtin.copy_ #[43, 43] 3 #[.slice (some ⟨W.heap.size, 0, none⟩) 8 8, .slice (some ⟨hb, 0, none⟩) 8 8]).run Tryz.prog (W.alloc (.cells (encW (zer 8)) 64)) = .ok (.int .i64 8) (W.alloc (.cells (encW st) 64)) := by
  have hz : (encW (zer 8)).size = 8 := by rw [encW_size]; rfl
  have hl : (st.map vw).length = 8 := by simp [h8]
  have h := run_copy_row (P := Tryz.prog) (W.alloc (.cells (encW (zer 8)) 64)) 43 43 3 64 W.heap.size 0 8 8 ⟨hb, 0, none⟩ 8 8 (encW (zer 8)) 64 (st.map vw) Tryz.underlying43 (by kernel_rfl) (Blk.new W _ _) hl
    (World.news_of_block (cs := encW st) (t := 64) (fr := (0, 0)) (hB.alloc _)) (by rw [hl, hz]; omega) (by intro v hv; obtain ⟨x, _, rfl⟩ := List.mem_map.1 hv; rfl)
  rw [h, hl]
  have e : ((encW (zer 8)).toList.take 0 ++ st.map vw ++ (encW (zer 8)).toList.drop (0 + 8)).toArray = encW st := by
    rw [List.take_zero, List.nil_append, List.drop_of_length_le (by simp [hz]), List.append_nil]; rfl
  rw [e, World.setRow_alloc_new]
  rfl
theorem eight_cells (v0 v1 v2 v3 v4 v5 v6 v7 : W32) (W : World) (b : Nat) (h : Blk W b (encW [v0, v1, v2, v3, v4, v5, v6, v7]) 64) :
    W.cell? ⟨b, 0, none⟩ = some (.int .u32 (wd v0)) ∧ W.cell? ⟨b, 1, none⟩ = some (.int .u32 (wd v1)) ∧ W.cell? ⟨b, 2, none⟩ = some (.int .u32 (wd v2)) ∧ W.cell? ⟨b, 3, none⟩ = some (.int .u32 (wd v3)) ∧
    W.cell? ⟨b, 4, none⟩ = some (.int .u32 (wd v4)) ∧ W.cell? ⟨b, 5, none⟩ = some (.int .u32 (wd v5)) ∧ W.cell? ⟨b, 6, none⟩ = some (.int .u32 (wd v6)) ∧ W.cell? ⟨b, 7, none⟩ = some (.int .u32 (wd v7)) :=
  ⟨h.cell 0, h.cell 1, h.cell 2, h.cell 3, h.cell 4, h.cell 5, h.cell 6, h.cell 7⟩
theorem next_eight {v0 v1 v2 v3 v4 v5 v6 v7 : W32} (W : World) (vb wb hb kb : Nat) (w : World) (st nv bl : List W32) (cs : Array Value) (hcs : encW nv = cs) (h : Blk W vb (encW [v0, v1, v2, v3, v4, v5, v6, v7]) 64 ∧ Blk W wb (encW (schedW bl f2 64)) 64 ∧ R2 w hb kb st W) :
    Blk (W.alloc (.cells cs 64)) W.heap.size (encW nv) 64 ∧ Blk (W.alloc (.cells cs 64)) wb (encW (schedW bl f2 64)) 64 ∧ R2 w hb kb st (W.alloc (.cells cs 64)) ∧ hb < W.heap.size := by
  subst hcs
  exact ⟨Blk.new _ _ _, h.2.1.alloc _, h.2.2.next ((Below.refl _ W).alloc (Nat.le_refl _) _), h.2.2.h.lt⟩
theorem eight_enc (a b c d e f g h : W32) : encW [a, b, c, d, e, f, g, h] = #[.int .u32 (wd a), .int .u32 (wd b), .int .u32 (wd c), .int .u32 (wd d), .int .u32 (wd e), .int .u32 (wd f), .int .u32 (wd g), .int .u32 (wd h)] := rfl
theorem row_cell (b : List W32) (f : List W32 → Nat → W32) (m j k : Nat) (hj : j ≤ m) (h : k < j) (W : World) (wb : Nat) (hA : Blk W wb (encW (soFar b f m j)) 64) : W.cell? ⟨wb, k, none⟩ = some (.int .u32 (wd ((schedW b f j).getD k 0))) := by
  rw [hA.cell, encW_get _ _ (by rw [soFar_len _ _ _ _ hj]; omega), soFar_get _ _ _ _ _ h]
theorem block_word (S : ByteArray) (P : List UInt8) (p : Nat) (hSD : S.data.toList = P) (hpl : p + 64 ≤ S.size) (hSle : S.size ≤ 140737488355328) (j : Nat) (hj : j < 16) (W : World) :
    Calls Tryz.prog 66 #[.string S, .int .i64 ((p : Int) + 4 * (j : Int))] W fun e w' => e = .returned (.int .u32 (wd ((wordsN (P.drop p) 16).getD j 0))) ∧ ∃ m, w' = W.drewN m := by
  have h := ref_word S (p + 4 * j) (by omega) (by omega) W
  have hd : ∀ k, P.getD (p + k) 0 = (P.drop p).getD k 0 := fun k => by simp [List.getD, List.getElem?_drop]
  have hw : (wordsN (P.drop p) 16).getD j 0 = word4 ((P.drop p).getD (4 * j) 0) ((P.drop p).getD (4 * j + 1) 0) ((P.drop p).getD (4 * j + 2) 0) ((P.drop p).getD (4 * j + 3) 0) := by
    rw [wordsN, List.getD_eq_getElem?_getD, List.getElem?_map, List.getElem?_range hj]
    rfl
  rw [hSD, show p + 4 * j + 1 = p + (4 * j + 1) by omega, show p + 4 * j + 2 = p + (4 * j + 2) by omega, show p + 4 * j + 3 = p + (4 * j + 3) by omega, hd, hd, hd, hd, ← hw] at h
  have e2 : ((p + 4 * j : Nat) : Int) = (p : Int) + 4 * (j : Int) := by push_cast; rfl
  rw [e2] at h
  exact h

set_option maxRecDepth 100000 in
set_option maxHeartbeats 600000 in
theorem ref_sum256 (s : ByteArray) (hs : s.size ≤ 140737488351232) (w : World) : Calls Tryz.prog 37 #[.string s] w fun e w' => e = .returned (.string (bs (sum256 s.data.toList))) ∧ Below w.heap.size w w' := by
  have hpd := fun w => ref_padded s hs w
  have hP64 := padL_len s.data.toList
  have hPle : (padL s.data.toList).length ≤ 140737488355328 := by
    have : zerosOf s.size < 64 := Nat.mod_lt _ (by omega)
    have hl : s.data.toList.length = s.size := by simp
    simp [padL, padT, lenB]; omega
  have hfin : foldB comp2 ((padL s.data.toList).length / 64) H256 (padL s.data.toList) = sha2 s.data.toList := rfl
  have hsum : sum256 s.data.toList = tellW (sha2 s.data.toList) := rfl
  have hfl : (sha2 s.data.toList).length = 8 := foldB_len _ comp2_len _ _ _
  rw [hsum]
  clear hsum
  generalize sha2 s.data.toList = fin at hfin hfl ⊢
  generalize padL s.data.toList = P at hpd hP64 hPle hfin
  obtain ⟨N, hN⟩ : ∃ N, P.length = 64 * N := ⟨P.length / 64, by omega⟩
  rw [hN, Nat.mul_div_cancel_left _ (by omega)] at hfin
  have hSz : (bs P).size = 64 * N := by rw [bs_size, hN]
  have hSd : (bs P).data.toList = P := by simp [bs]
  generalize bs P = S at hpd hSz hSd
  have HSZ := Lib.hid hSz; have HPD := Lib.hid hpd; have HSD := Lib.hid hSd; have HPN := Lib.hid hN; have HFL := Lib.hid hfl
  have hSle : S.size ≤ 140737488355328 := by omega
  have hke := H256_enc
  have HRo := Lib.hid ref_rounds
  have hmix : Tryz.prog.follows .mixedOrders = true := by kernel_rfl
  have hxor := wd_xor
  have hadd := wd_add
  have hand := wd_and
  clear hpd hP64 hPle hSd hN hfl hs hSz
  go_enter Tryz.func37, Tryz.ntmps37
  go_wp2_with (first
    | (go_at_call 70; refine (HRo.out _).mono ?_; rintro e w1 ⟨rfl, rfl⟩)
    | (go_at_call 65; refine (HPD.out _).mono ?_; rintro e w2 ⟨rfl, hB2⟩; replace hB2 := Lib.hid hB2))
  have hR0 : R2 w w.heap.size (w.heap.size + 1) H256 w2 := by
    have b1 : Blk ((w.alloc (.cells (encW H256) 64)).alloc (.cells (encW K256) 64)) w.heap.size (encW H256) 64 := (Blk.new w _ _).alloc _
    have b2 : Blk ((w.alloc (.cells (encW H256) 64)).alloc (.cells (encW K256) 64)) (w.heap.size + 1) (encW K256) 64 := by
      have := Blk.new (w.alloc (.cells (encW H256) 64)) (encW K256) 64
      simpa using this
    have bl : Below w.heap.size w ((w.alloc (.cells (encW H256) 64)).alloc (.cells (encW K256) 64)) := ((Below.refl _ w).alloc (Nat.le_refl _) _).alloc (by simp) _
    exact ⟨rfl, b1.below hB2.out b1.lt, b2.below hB2.out b2.lt, bl.trans (hB2.out.mono bl.size), Nat.le_refl _, by omega⟩
  have HR := Lib.hid hR0
  clear hR0 hB2
  have hkbh : w.heap.size ≤ w.heap.size + 1 := by omega
  obtain ⟨hb, hbe⟩ : ∃ hb, hb = w.heap.size := ⟨_, rfl⟩
  obtain ⟨kb, kbe⟩ : ∃ kb, kb = w.heap.size + 1 := ⟨_, rfl⟩
  rw [← kbe, ← hbe] at HR
  have HWB := Lib.hid hbe
  have HKB := Lib.hid kbe
  rw [show (⟨w.heap.size + 1, 0, none⟩ : Addr) = ⟨kb, 0, none⟩ by rw [kbe], show (⟨w.heap.size, 0, none⟩ : Addr) = ⟨hb, 0, none⟩ by rw [hbe]]
  clear hbe kbe hkbh
  have hmk := make64
  go_loopw [6] (fun i wr => ∃ (n p : Nat) (st : List W32), n ≤ N ∧ i = .int .i64 (p : Int) ∧ Hid (p = 64 * n) ∧ Hid (foldB comp2 (N - n) st (P.drop p) = fin) ∧ Hid (R2 w hb kb st wr)) (fun i _ => S.size - (intOf i).toNat)
  case atStart => exact ⟨0, 0, H256, Nat.zero_le _, rfl, Lib.hid rfl, Lib.hid hfin, HR⟩
  case round =>
    obtain ⟨n, p, st, hn, rfl, hpn, hfo, hR⟩ := hrel
    by_cases hlt : n < N
    · have hpl : p + 64 ≤ S.size := by have := hpn.out; have := HSZ.out; omega
      have hps : (p : Int) < (S.size : Int) := by omega
      repeat (first | (fail) | go_values | go_skip | go_guarded | go_step | go_upon | go_back)
      have hb16 : (wordsN (P.drop p) 16).length = 16 := by simp [wordsN]
      have hwd := fun j hj W => block_word S P p HSD.out hpl hSle j hj W
      generalize hbl : wordsN (P.drop p) 16 = bl at hb16 hwd
      have HBL := Lib.hid hbl; have HWD := Lib.hid hwd; have H16 := Lib.hid hb16
      obtain ⟨wb, hwb⟩ : ∃ wb, wb = wr.heap.size := ⟨_, rfl⟩
      have hw0 : Blk (wr.alloc (.cells (encW (zer 64)) 64)) wb (encW (soFar bl f2 64 0)) 64 := by
        rw [hwb]; exact Blk.new wr (encW (zer 64)) 64
      have hR1 := hR.out.next ((Below.refl _ wr).alloc (Nat.le_refl _) (.cells (encW (zer 64)) 64))
      have hbw : hb ≠ wb := by have := hR.out.h.lt; omega
      have kbw : kb ≠ wb := by have := hR.out.k.lt; omega
      have hlw : w.heap.size ≤ wb := by have := hR.out.below.size; omega
      rw [show (⟨wr.heap.size, 0, none⟩ : Addr) = ⟨wb, 0, none⟩ by rw [hwb]]
      generalize wr.alloc (.cells (encW (zer 64)) 64) = Wa at hw0 hR1 ⊢
      have HA0 := Lib.hid (And.intro hw0 hR1)
      clear hbl hwd hb16 hw0 hR1 hR hwb hmk
      go_loopw [8] (fun i wr => ∃ j : Nat, j ≤ 64 ∧ i = .int .i64 j ∧ Hid (Blk wr wb (encW (soFar bl f2 64 j)) 64 ∧ R2 w hb kb st wr)) (fun i _ => 64 - (intOf i).toNat)
      case atStart => exact ⟨0, Nat.zero_le _, rfl, HA0⟩
      case round =>
        obtain ⟨j, hj, rfl, hA⟩ := hrel
        by_cases hj64 : j < 64
        · by_cases hj16 : j < 16
          · have hd1 : decide ((j : Int) < 64) = true := decide_eq_true (by omega)
            have hd2 : decide ((j : Int) < 16) = true := decide_eq_true (by omega)
            have hix : (j : Int) < 64 := by omega
            have hjl : j < 64 := hj64
            have hp4 : (p : Int) + 4 * (j : Int) ≤ 140737488355328 := by omega
            have hcw := HWD.out j hj16
            have HC := Lib.hid hcw
            clear hcw
            have hnx := soFar_next bl f2 64 j hj64 (bl.getD j 0) (by rw [if_pos hj16])
            generalize bl.getD j 0 = x at HC hnx
            have HNX := Lib.hid hnx
            clear hnx
            repeat (first | (fail) | go_values | go_skip | go_guarded | go_step | go_upon | go_back)
            refine (HC.out _).mono ?_
            rintro e w3 ⟨rfl, m, rfl⟩
            simp only []
            have hA1 : Hid (Blk (wr.drewN m) wb (encW (soFar bl f2 64 j)) 64 ∧ R2 w hb kb st (wr.drewN m)) := Lib.hid ⟨hA.out.1, hA.out.2.drewN m⟩
            generalize wr.drewN m = W1 at hA1 ⊢
            have hc : W1.cell? ⟨wb, j, none⟩ = some (.int .u32 (wd ((soFar bl f2 64 j).getD j 0))) := by rw [hA1.out.1.cell, encW_get _ _ (by rw [soFar_len _ _ _ _ hj]; exact hj64)]
            have hf := hA1.out.1.free j
            clear HC hA
            repeat (first | (fail) | go_values | go_skip | go_guarded | go_step | go_upon | go_back)
            have hA2 : Hid (Blk (W1.setCell ⟨wb, j, none⟩ (.int .u32 (wd x))) wb (encW (soFar bl f2 64 (j + 1))) 64 ∧ R2 w hb kb st (W1.setCell ⟨wb, j, none⟩ (.int .u32 (wd x)))) :=
              Lib.hid ⟨by rw [HNX.out, ← encW_set]; exact hA1.out.1.set j _, hA1.out.2.set ⟨wb, j, none⟩ _ hbw kbw hlw⟩
            clear hA1 hc hf
            repeat (first | (fail) | go_values | go_skip | go_guarded | go_step | go_upon | go_back)
            go_roundw
            case rel => exact ⟨j + 1, by omega, by go_num, hA2⟩
            case measure => simp [intOf]; omega
          · have hd1 : decide ((j : Int) < 64) = true := decide_eq_true (by omega)
            have hd2 : decide ((j : Int) < 16) = false := decide_eq_false (by omega)
            have hix : (j : Int) < 64 := by omega
            obtain ⟨k15, m15, e15⟩ : ∃ k : Nat, (j : Int) - 15 = (k : Int) ∧ k = j - 15 := ⟨j - 15, by omega, rfl⟩
            obtain ⟨k2, m2, e2⟩ : ∃ k : Nat, (j : Int) - 2 = (k : Int) ∧ k = j - 2 := ⟨j - 2, by omega, rfl⟩
            obtain ⟨k7, m7, e7⟩ : ∃ k : Nat, (j : Int) - 7 = (k : Int) ∧ k = j - 7 := ⟨j - 7, by omega, rfl⟩
            obtain ⟨k16, m16, e16⟩ : ∃ k : Nat, (j : Int) - 16 = (k : Int) ∧ k = j - 16 := ⟨j - 16, by omega, rfl⟩
            have b15 : (k15 : Int) < 64 := by omega
            have b2 : (k2 : Int) < 64 := by omega
            have b7 : (k7 : Int) < 64 := by omega
            have b16 : (k16 : Int) < 64 := by omega
            have hnx := soFar_next bl f2 64 j hj64 (((((schedW bl f2 j).getD k16 0 + r0 ((schedW bl f2 j).getD k15 0)) + (schedW bl f2 j).getD k7 0) + r1 ((schedW bl f2 j).getD k2 0))) (by rw [if_neg hj16, f2, e15, e2, e7, e16])
            have rc := fun k (h : k < j) W (hA : Blk W wb (encW (soFar bl f2 64 j)) 64) => row_cell bl f2 64 j k hj h W wb hA
            obtain ⟨x15, X15⟩ : ∃ x, (schedW bl f2 j).getD k15 0 = x := ⟨_, rfl⟩
            obtain ⟨x2, X2⟩ : ∃ x, (schedW bl f2 j).getD k2 0 = x := ⟨_, rfl⟩
            obtain ⟨x7, X7⟩ : ∃ x, (schedW bl f2 j).getD k7 0 = x := ⟨_, rfl⟩
            obtain ⟨x16, X16⟩ : ∃ x, (schedW bl f2 j).getD k16 0 = x := ⟨_, rfl⟩
            have c15 := rc k15 (by omega) wr hA.out.1
            have c2 := rc k2 (by omega) wr hA.out.1
            have c7 := rc k7 (by omega) wr hA.out.1
            have c16 := rc k16 (by omega) wr hA.out.1
            rw [X15, X2, X7, X16] at hnx
            rw [X15] at c15
            rw [X2] at c2
            rw [X7] at c7
            rw [X16] at c16
            have s3 : wd x15 / (8 : Int) = wd (x15 >>> (3 : Nat)) := wd_shr x15 3
            have s10 : wd x2 / (1024 : Int) = wd (x2 >>> (10 : Nat)) := wd_shr x2 10
            have HNX := Lib.hid hnx
            clear hnx rc X15 X2 X7 X16 e15 e2 e7 e16
            repeat (first | (fail) | go_values | go_skip | go_guarded | go_step | go_upon | go_back)
            refine wp_draw 31 (C := fun w' => ∃ n, w' = wr.drewN n) hmix (by kernel_rfl) (by kernel_rfl) (by kernel_rfl) (by simp) ⟨1, rfl⟩ ?_
            simp only [List.take_succ_cons, List.take_zero, List.drop_succ_cons, List.drop_zero]
            repeat (go_big_quiet_step ((go_at_call 71; exact Calls.quiet_of (ref_ror_at _ _ (by omega) (by omega) _))))
            refine wpQuiet_nil ?_
            intro _ hw'
            obtain ⟨nq, hw''⟩ := hw'
            subst hw''
            have hA1 : Hid (Blk (wr.drewN nq) wb (encW (soFar bl f2 64 j)) 64 ∧ R2 w hb kb st (wr.drewN nq)) := Lib.hid ⟨hA.out.1, hA.out.2.drewN nq⟩
            generalize wr.drewN nq = W1 at hA1 ⊢
            have hc : W1.cell? ⟨wb, j, none⟩ = some (.int .u32 (wd ((soFar bl f2 64 j).getD j 0))) := by rw [hA1.out.1.cell, encW_get _ _ (by rw [soFar_len _ _ _ _ hj]; exact hj64)]
            have hf := hA1.out.1.free j
            clear hA c15 c2 c7 c16 s3 s10
            have hA2 : Hid (Blk (W1.setCell ⟨wb, j, none⟩ (.int .u32 (wd (((x16 + r0 x15) + x7) + r1 x2)))) wb (encW (soFar bl f2 64 (j + 1))) 64 ∧ R2 w hb kb st (W1.setCell ⟨wb, j, none⟩ (.int .u32 (wd (((x16 + r0 x15) + x7) + r1 x2))))) :=
              Lib.hid ⟨by rw [HNX.out, ← encW_set]; exact hA1.out.1.set j _, hA1.out.2.set ⟨wb, j, none⟩ _ hbw kbw hlw⟩
            have hA3 : Hid (Blk (W1.setCell ⟨wb, j, none⟩ (.int .u32 (wd (((x16 + ((rorW x15 7 ^^^ rorW x15 18) ^^^ x15 >>> (3 : Nat))) + x7) + ((rorW x2 17 ^^^ rorW x2 19) ^^^ x2 >>> (10 : Nat)))))) wb (encW (soFar bl f2 64 (j + 1))) 64 ∧ R2 w hb kb st (W1.setCell ⟨wb, j, none⟩ (.int .u32 (wd (((x16 + ((rorW x15 7 ^^^ rorW x15 18) ^^^ x15 >>> (3 : Nat))) + x7) + ((rorW x2 17 ^^^ rorW x2 19) ^^^ x2 >>> (10 : Nat))))))) := hA2
            clear hA1 hA2
            go_wp2_with fail
            go_roundw
            case rel => exact ⟨j + 1, by omega, by go_num, hA3⟩
            case measure => simp [intOf]; omega
        · obtain rfl : j = 64 := by omega
          have hd1 : decide ((64 : Int) < 64) = false := rfl
          rw [show ((64 : Nat) : Int) = 64 from rfl]
          rw [soFar_all] at hA
          have hmk := make8
          have hcp := fun W hB => copy8 st hA.out.2.len W hb hB
          have hcw := hcp wr hA.out.2.h
          clear hcp
          repeat (first | (fail) | go_values | go_skip | go_guarded | go_step | go_upon | go_back)
          obtain ⟨vb0, hvb⟩ : ∃ vb, vb = wr.heap.size := ⟨_, rfl⟩
          have hv0 : Blk (wr.alloc (.cells (encW st) 64)) vb0 (encW (run2 st bl 0).1) 64 := by rw [hvb]; exact Blk.new wr (encW st) 64
          have hB0 : Below wr.heap.size wr (wr.alloc (.cells (encW st) 64)) := (Below.refl _ wr).alloc (Nat.le_refl _) _
          have hA0 := Lib.hid (And.intro hv0 (And.intro (hA.out.1.below hB0 hA.out.1.lt) (hA.out.2.next hB0)))
          have hlv : w.heap.size ≤ vb0 := by have := hA.out.2.below.size; omega
          have hbv : hb < vb0 := by have := hA.out.2.h.lt; omega
          rw [show (⟨wr.heap.size, 0, none⟩ : Addr) = ⟨vb0, 0, none⟩ by rw [hvb]]
          generalize wr.alloc (.cells (encW st) 64) = Wv at hA0 ⊢
          clear hmk hcw hvb hv0 hB0 hA
          go_loopw [11, 12] (fun v i wr => ∃ (k vb : Nat), k ≤ 64 ∧ v = .slice (some ⟨vb, 0, none⟩) 8 8 ∧ i = .int .i64 k ∧ hb < vb ∧ Hid (Blk wr vb (encW (run2 st bl k).1) 64 ∧ Blk wr wb (encW (schedW bl f2 64)) 64 ∧ R2 w hb kb st wr)) (fun _ i _ => 64 - (intOf i).toNat)
          case atStart => exact ⟨0, vb0, Nat.zero_le _, rfl, rfl, hbv, hA0⟩
          case round =>
            obtain ⟨k, vb, hk, rfl, rfl, hbv1, hA⟩ := hrel
            by_cases hk64 : k < 64
            · have hd1 : decide ((k : Int) < 64) = true := decide_eq_true (by omega)
              have hki : (k : Int) < 64 := by omega
              have hst := run2_word st bl H16.out k
              have hl8 : (run2 st bl k).1.length = 8 := (run2_len st bl k).1.trans hA.out.2.2.len
              obtain ⟨y, Y⟩ : ∃ y, atW bl f2 k = y := ⟨_, rfl⟩
              obtain ⟨kk, KK⟩ : ∃ y, K256.getD k 0 = y := ⟨_, rfl⟩
              rw [Y, KK] at hst
              generalize (run2 st bl k).1 = v at hst hl8 hA
              obtain ⟨v0, v1, v2, v3, v4, v5, v6, v7, rfl⟩ := len8 v hl8
              rw [step2_ref] at hst
              have HST := Lib.hid hst
              have hrow := fun W (h : Blk W vb (encW [v0, v1, v2, v3, v4, v5, v6, v7]) 64) => eight_cells v0 v1 v2 v3 v4 v5 v6 v7 W vb h
              have hky := fun W (h1 : Blk W wb (encW (schedW bl f2 64)) 64) => (by rw [h1.cell, encW_get _ _ (by rw [schedW_len]; exact hk64), schedW_get _ _ _ _ hk64, Y] : W.cell? ⟨wb, k, none⟩ = some (.int .u32 (wd y)))
              have hkk := fun W (h1 : R2 w hb kb st W) => (by rw [h1.k.cell, encW_get _ _ hk64, KK] : W.cell? ⟨kb, k, none⟩ = some (.int .u32 (wd kk)))
              have HROW := Lib.hid hrow; have HKY := Lib.hid hky; have HKK := Lib.hid hkk
              clear hst hl8 hrow hky hkk Y KK
              obtain ⟨a0, a1, a2, a3, a4, a5, a6, a7⟩ := HROW.out wr hA.out.1
              repeat (first | (fail) | go_values | go_skip | go_guarded | go_step | go_upon | go_back)
              have ay := HKY.out wr hA.out.2.1
              have ak := HKK.out wr hA.out.2.2
              have hx4 : ∀ x : W32, bits .xor .u32 (wd x) 4294967295 = wd (x ^^^ 4294967295#32) := fun x => wd_xor x 4294967295#32
              go_quiet ((go_at_call 71; exact Calls.quiet_of (ref_ror_at _ _ (by omega) (by omega) _)))
              have hA1 : Hid (Blk (wr.drewN nq) vb (encW [v0, v1, v2, v3, v4, v5, v6, v7]) 64 ∧ Blk (wr.drewN nq) wb (encW (schedW bl f2 64)) 64 ∧ R2 w hb kb st (wr.drewN nq)) := Lib.hid ⟨hA.out.1, hA.out.2.1, hA.out.2.2.drewN nq⟩
              generalize wr.drewN nq = W1 at hA1 ⊢
              clear a0 a1 a2 a3 a4 a5 a6 a7 ay ak hA
              obtain ⟨a0, a1, a2, a3, a4, a5, a6, a7⟩ := HROW.out W1 hA1.out.1
              repeat (first | (fail) | go_values | go_skip | go_guarded | go_step | go_upon | go_back)
              go_quiet ((go_at_call 71; exact Calls.quiet_of (ref_ror_at _ _ (by omega) (by omega) _)))
              have hA2 : Hid (Blk (W1.drewN nq) vb (encW [v0, v1, v2, v3, v4, v5, v6, v7]) 64 ∧ Blk (W1.drewN nq) wb (encW (schedW bl f2 64)) 64 ∧ R2 w hb kb st (W1.drewN nq)) := Lib.hid ⟨hA1.out.1, hA1.out.2.1, hA1.out.2.2.drewN nq⟩
              generalize W1.drewN nq = W2 at hA2 ⊢
              clear a0 a1 a2 a3 a4 a5 a6 a7 hA1
              obtain ⟨a0, a1, a2, a3, a4, a5, a6, a7⟩ := HROW.out W2 hA2.out.1
              repeat (first | (fail) | go_values | go_skip | go_guarded | go_step | go_upon | go_back)
              go_still_tail 26, (by kernel_rfl)
              change wpList _ _ _ _ _ W2.drew
              have hA3 : Hid (Blk W2.drew vb (encW [v0, v1, v2, v3, v4, v5, v6, v7]) 64 ∧ Blk W2.drew wb (encW (schedW bl f2 64)) 64 ∧ R2 w hb kb st W2.drew) := Lib.hid ⟨hA2.out.1, hA2.out.2.1, hA2.out.2.2.drewN 1⟩
              generalize W2.drew = W3 at hA3 ⊢
              clear a0 a1 a2 a3 a4 a5 a6 a7 hA2 HROW HKY HKK hx4
              have hst : (run2 st bl (k + 1)).1 = [((((v7 + ((rorW v4 6 ^^^ rorW v4 11) ^^^ rorW v4 25)) + ((v4 &&& v5) ^^^ ((v4 ^^^ 4294967295#32) &&& v6))) + kk) + y) + (((rorW v0 2 ^^^ rorW v0 13) ^^^ rorW v0 22) + (((v0 &&& v1) ^^^ (v0 &&& v2)) ^^^ (v1 &&& v2))), v0, v1, v2, v3 + ((((v7 + ((rorW v4 6 ^^^ rorW v4 11) ^^^ rorW v4 25)) + ((v4 &&& v5) ^^^ ((v4 ^^^ 4294967295#32) &&& v6))) + kk) + y), v4, v5, v6] := HST.out
              have hA4 := next_eight W3 vb wb hb kb w st [((((v7 + ((rorW v4 6 ^^^ rorW v4 11) ^^^ rorW v4 25)) + ((v4 &&& v5) ^^^ ((v4 ^^^ 4294967295#32) &&& v6))) + kk) + y) + (((rorW v0 2 ^^^ rorW v0 13) ^^^ rorW v0 22) + (((v0 &&& v1) ^^^ (v0 &&& v2)) ^^^ (v1 &&& v2))), v0, v1, v2, v3 + ((((v7 + ((rorW v4 6 ^^^ rorW v4 11) ^^^ rorW v4 25)) + ((v4 &&& v5) ^^^ ((v4 ^^^ 4294967295#32) &&& v6))) + kk) + y), v4, v5, v6] bl _ (eight_enc _ _ _ _ _ _ _ _) hA3.out
              rw [← hst] at hA4
              have HA4 := Lib.hid hA4
              clear hA4 hst HST hA3
              repeat (first | (fail) | go_values | go_skip | go_guarded | go_step | go_upon | go_back)
              go_roundw
              case rel =>
                exact ⟨k + 1, W3.heap.size, by omega, rfl, by go_num, HA4.out.2.2.2, Lib.hid ⟨HA4.out.1, HA4.out.2.1, HA4.out.2.2.1⟩⟩
              case measure => simp [intOf]; omega
            · --MARK3
              obtain rfl : k = 64 := by omega
              have hd1 : decide ((64 : Int) < 64) = false := rfl
              have hl8 : (run2 st bl 64).1.length = 8 := (run2_len st bl 64).1.trans hA.out.2.2.len
              have hcp : comp2 st bl = part2 st (run2 st bl 64).1 8 := (part2_all st _ hA.out.2.2.len hl8).symm
              have hnx : foldB comp2 (N - (n + 1)) (comp2 st bl) (P.drop (p + 64)) = fin := by
                have h := hfo.out
                rw [show N - n = (N - (n + 1)) + 1 by omega, foldB_succ, HBL.out, List.drop_drop] at h
                exact h
              generalize (run2 st bl 64).1 = v at hA hl8 hcp
              have hs8 := hA.out.2.2.len
              have hA3 : Hid (Blk wr hb (encW (part2 st v 0)) 64 ∧ Blk wr vb (encW v) 64 ∧ Blk wr kb (encW K256) 64 ∧ Below w.heap.size w wr) := Lib.hid ⟨hA.out.2.2.h, hA.out.1, hA.out.2.2.k, hA.out.2.2.below⟩
              have hne := hA.out.2.2.ne
              have hlo := hA.out.2.2.hlo
              have HCP := Lib.hid hcp; have HNX := Lib.hid hnx
              clear hA hcp hnx
              repeat (first | (fail) | go_values | go_skip | go_guarded | go_step | go_upon | go_back)
              go_loopw [17] (fun i wr => ∃ j : Nat, j ≤ 8 ∧ i = .int .i64 j ∧ Hid (Blk wr hb (encW (part2 st v j)) 64 ∧ Blk wr vb (encW v) 64 ∧ Blk wr kb (encW K256) 64 ∧ Below w.heap.size w wr)) (fun i _ => 8 - (intOf i).toNat)
              case atStart => exact ⟨0, Nat.zero_le _, rfl, hA3⟩
              case round =>
                obtain ⟨j, hj, rfl, hA⟩ := hrel
                by_cases hj8 : j < 8
                · have hd2 : decide ((j : Int) < 8) = true := decide_eq_true (by omega)
                  have hji : (j : Int) < 8 := by omega
                  have cp : wr.cell? ⟨hb, j, none⟩ = some (.int .u32 (wd (st.getD j 0))) := by rw [hA.out.1.cell, encW_get _ _ (by rw [part2_len _ _ _ (by omega) (by omega)]; omega), part2_get _ _ _ (by omega) (by omega)]
                  have cv : wr.cell? ⟨vb, j, none⟩ = some (.int .u32 (wd (v.getD j 0))) := by rw [hA.out.2.1.cell, encW_get _ _ (by omega)]
                  have hx : part2 st v (j + 1) = (part2 st v j).set j (st.getD j 0 + v.getD j 0) := part2_step st v j (by omega) (by omega)
                  generalize st.getD j 0 = x at cp hx
                  generalize v.getD j 0 = y at cv hx
                  have HX := Lib.hid hx
                  clear hx
                  repeat (first | (fail) | go_values | go_skip | go_guarded | go_step | go_upon | go_back)
                  refine wp_draw 11 (C := fun w' => ∃ n, w' = wr.drewN n) hmix (by kernel_rfl) (by kernel_rfl) (by kernel_rfl) (by simp) ⟨1, rfl⟩ ?_
                  simp only [List.take_succ_cons, List.take_zero, List.drop_succ_cons, List.drop_zero]
                  repeat (go_big_quiet_step (fail))
                  refine wpQuiet_nil ?_
                  intro _ hw'
                  obtain ⟨nq, hw''⟩ := hw'
                  subst hw''
                  have hA1 : Hid (Blk (wr.drewN nq) hb (encW (part2 st v j)) 64 ∧ Blk (wr.drewN nq) vb (encW v) 64 ∧ Blk (wr.drewN nq) kb (encW K256) 64 ∧ Below w.heap.size w (wr.drewN nq)) :=
                    Lib.hid ⟨hA.out.1, hA.out.2.1, hA.out.2.2.1, ⟨hA.out.2.2.2.os, hA.out.2.2.2.tape, hA.out.2.2.2.output, hA.out.2.2.2.size, hA.out.2.2.2.block⟩⟩
                  have cp1 : (wr.drewN nq).cell? ⟨hb, j, none⟩ = some (.int .u32 (wd x)) := cp
                  generalize wr.drewN nq = W1 at hA1 cp1 ⊢
                  have hf := hA1.out.1.free j
                  clear hA cp cv
                  have hA2 : Hid (Blk (W1.setCell ⟨hb, j, none⟩ (.int .u32 (wd (x + y)))) hb (encW (part2 st v (j + 1))) 64 ∧ Blk (W1.setCell ⟨hb, j, none⟩ (.int .u32 (wd (x + y)))) vb (encW v) 64 ∧ Blk (W1.setCell ⟨hb, j, none⟩ (.int .u32 (wd (x + y)))) kb (encW K256) 64 ∧ Below w.heap.size w (W1.setCell ⟨hb, j, none⟩ (.int .u32 (wd (x + y))))) :=
                    Lib.hid ⟨by rw [HX.out, ← encW_set]; exact hA1.out.1.set j _, hA1.out.2.1.other (by show vb ≠ hb; omega) _, hA1.out.2.2.1.other (by show kb ≠ hb; omega) _, hA1.out.2.2.2.setCell (p := ⟨hb, j, none⟩) hlo _⟩
                  clear hA1
                  go_wp2_with fail
                  go_roundw
                  case rel => exact ⟨j + 1, by omega, by go_num, hA2⟩
                  case measure => simp [intOf]; omega
                · obtain rfl : j = 8 := by omega
                  have hd2 : decide ((8 : Int) < 8) = false := rfl
                  have hRn : Hid (R2 w hb kb (comp2 st bl) wr) := Lib.hid ⟨by rw [comp2_len]; exact hs8, by rw [HCP.out]; exact hA.out.1, hA.out.2.2.1, hA.out.2.2.2, hlo, hne⟩
                  have hp64 : (p : Int) + 64 = ((p + 64 : Nat) : Int) := by push_cast; rfl
                  have hp2 : p + 64 ≤ 140737488355328 := by omega
                  have HP64 := Lib.hid hp64
                  clear hA hp64
                  repeat (first | (fail) | go_values | go_skip | go_guarded | go_step | go_upon | go_back)
                  go_roundw
                  case rel => exact ⟨n + 1, p + 64, comp2 st bl, by omega, by rw [← HP64.out], Lib.hid (by have := hpn.out; omega), HNX, hRn⟩
                  case measure => simp [intOf]; omega
    · --MARK4
      obtain rfl : n = N := by omega
      have hpS : ¬ ((p : Int) < (S.size : Int)) := by have := hpn.out; have := HSZ.out; omega
      have hst : st = fin := by
        have h := hfo.out
        rw [Nat.sub_self] at h
        exact h
      subst hst
      have htl := fun W h => ref_tell st hb 8 64 W (by rw [HFL.out]; omega) h
      rw [HFL.out] at htl
      have HTL := Lib.hid htl
      clear htl
      repeat (first | (fail) | go_values | go_skip | go_guarded | go_step | go_upon | go_back)
      refine (HTL.out _ hR.out.h).mono ?_
      rintro e w9 ⟨rfl, hB9⟩
      simp only []
      have HB9 := Lib.hid (hR.out.below.trans (hB9.mono hR.out.below.size))
      clear hB9
      go_wp2_with fail
      go_ret
      exact ⟨rfl, HB9.out⟩
end Go.Proofs.YtdmfbcfhfopipaaGreatDoor

/- The document's own block that is signed (its chapter 6): Block. -/
namespace Go.Proofs.YtdmfbcfhfopipaaGreatDoor
open Go.RowKit

theorem tail_cat (l : List UInt8) : (⟨#[0, 48, 49, 48, 13, 6, 9, 96, 134, 72, 1, 101, 3, 4, 2, 1, 5, 0, 4, 32]⟩ : ByteArray) ++ bs (sum256 l) = bs (sigTail l) := bs_append _ _
theorem sigTail_len (l : List UInt8) : (sigTail l).length = 52 := by simp [sigTail, sum256_len]
theorem ff_cat (k : Nat) : bs ([0, 1] ++ List.replicate k 255) ++ (⟨#[255]⟩ : ByteArray) = bs ([0, 1] ++ List.replicate (k + 1) 255) := by
  rw [show (⟨#[255]⟩ : ByteArray) = bs [255] from rfl, bs_append, List.append_assoc, ← List.replicate_succ']
set_option maxRecDepth 100000 in
set_option maxHeartbeats 1000000 in
theorem ref_block (text : ByteArray) (m : Nat) (w : World) (hm : 54 ≤ m) (hm2 : m ≤ 100000) (ht : text.size ≤ 140737488351232) :
    Calls Tryz.prog 47 #[.string text, .int .i64 m] w fun e w' => e = .returned (.string (bs (blockL text.data.toList m))) ∧ Below w.heap.size w w' := by
  have hs := fun w => ref_sum256 text ht w
  have hc := tail_cat text.data.toList
  have hT : (bs (sigTail text.data.toList)).size = 52 := by rw [bs_size, sigTail_len]
  have hZ : (bs (sum256 text.data.toList)).size = 32 := by rw [bs_size, sum256_len]
  have hfin : bs ([0, 1] ++ List.replicate (m - 54) 255) ++ bs (sigTail text.data.toList) = bs (blockL text.data.toList m) := bs_append _ _
  generalize bs (blockL text.data.toList m) = R at hfin ⊢
  generalize bs (sigTail text.data.toList) = T at hc hT hfin
  generalize bs (sum256 text.data.toList) = S0 at hs hc hZ
  have HS := Lib.hid hs; have HFIN := Lib.hid hfin
  clear hs hfin
  have hmi : (m : Int) ≤ 100000 := by omega
  go_enter Tryz.func47, Tryz.ntmps47
  repeat (first | (go_at_call 37; refine (Hid.out (p := _) ?_)) | go_values | go_skip | go_guarded | go_step | go_upon | go_back)
  refine Lib.hid ?_
  refine (HS.out _).mono ?_
  rintro e w1 ⟨rfl, hb⟩
  have HB := Lib.hid hb
  clear hb HS
  simp only []
  go_wp2_with fail
  go_loopw [5] (fun v wr => ∃ (k : Nat) (S : ByteArray), k ≤ m - 54 ∧ v = .string S ∧ Hid (S = bs ([0, 1] ++ List.replicate k 255)) ∧ wr = w1) (fun v _ => m - (match v with | .string S => S.size | _ => 0))
  case atStart => exact ⟨0, _, Nat.zero_le _, rfl, Lib.hid rfl, rfl⟩
  case round =>
    obtain ⟨k, S, hk, rfl, hS, rfl⟩ := hrel
    have hsz : S.size = k + 2 := by rw [hS.out, bs_size]; simp
    by_cases hlt : k < m - 54
    · have hnx := ff_cat k
      rw [← hS.out] at hnx
      have t1 : (k : Int) + 2 + 52 < (m : Int) := by omega
      have hsz2 : (bs ([0, 1] ++ List.replicate (k + 1) 255)).size = k + 3 := by rw [bs_size]; simp
      generalize hS2 : bs ([0, 1] ++ List.replicate (k + 1) 255) = S2 at hnx hsz2
      have HS2 := Lib.hid hS2.symm; have HLT := Lib.hid hlt; have HZ := Lib.hid (And.intro hsz hsz2)
      clear hS2 hlt hS hsz2
      repeat (first | (fail) | go_values | go_skip | go_guarded | go_step | go_upon | go_back)
      go_roundw
      case rel => exact ⟨k + 1, S2, HLT.out, rfl, HS2, by trivial⟩
      case measure => have := HLT.out; have := HZ.out.1; have := HZ.out.2; simp only []; omega
    · obtain rfl : k = m - 54 := by omega
      have t1 : ¬ (((m - 54 : Nat) : Int) + 2 + 52 < (m : Int)) := by omega
      have hkb : ((m - 54 : Nat) : Int) ≤ 100000 := by omega
      have hf := HFIN.out
      rw [← hS.out] at hf
      generalize hk2 : m - 54 = kk at *
      clear hk2 hS HFIN
      repeat (first | (fail) | go_values | go_skip | go_guarded | go_step | go_upon | go_back)
      go_ret
      exact ⟨rfl, HB.out⟩
end Go.Proofs.YtdmfbcfhfopipaaGreatDoor

/- The document's own check of a signature (its chapter 6): Verify. -/
namespace Go.Proofs.YtdmfbcfhfopipaaGreatDoor
open Go.RowKit

theorem bs_beq (a b : List UInt8) : ((bs a).toList == (bs b).toList) = decide (a = b) := by
  rw [ByteArray.toList_eq, ByteArray.toList_eq]
  simp only [bs]
  by_cases h : a = b <;> simp [h]
set_option maxRecDepth 100000 in
set_option maxHeartbeats 4000000 in
theorem ref_verify (p text sign : ByteArray) (w : World) (hp : p.size ≤ 9223372036854775807) (ht : text.size ≤ 140737488351232) (hs : sign.size ≤ 9223372036854775807) :
    Calls Tryz.prog 22 #[.string p, .string text, .string sign] w fun e w' => e = .returned (.bool (verifyB p.data.toList text.data.toList sign.data.toList)) ∧ Below w.heap.size w w' := by
  have h1 := fun w => ref_rsa_all p w hp
  have hbs : bs sign.data.toList = sign := bs_toList sign
  have hsl : sign.data.toList.length = sign.size := by simp
  have hE := rsaE_nd p.data.toList
  have hN := rsaN_nd p.data.toList
  rw [hE, hN] at h1
  have hsi : (sign.size : Int) ≤ 9223372036854775807 := by omega
  cases hg : rsaGood p.data.toList with
  | false =>
    rw [hg] at h1
    have hv := ver_bad (text := text.data.toList) (sign := sign.data.toList) hg
    rw [hv]
    have H1 := Lib.hid h1
    clear h1 hbs hsl hE hN hg hv
    go_enter Tryz.func22, Tryz.ntmps22
    repeat (first | (go_at_call 19; refine (Hid.out (p := _) ?_)) | go_values | go_skip | go_guarded | go_step | go_upon | go_back)
    refine Lib.hid ?_
    refine (H1.out _).mono ?_
    rintro e w1 ⟨hb, A, c, B, d, rfl, _, _, _, _⟩
    have HB := Lib.hid hb
    clear hb H1
    simp only []
    repeat (first | (fail) | go_values | go_skip | go_guarded | go_step | go_upon | go_back)
    go_ret
    exact ⟨rfl, HB.out⟩
  | true =>
    rw [hg] at h1
    obtain ⟨g1, g2, g3, b, g4, g5, g6, g7⟩ := rsa_good hg
    have hlen := ver_len (p := p.data.toList) (text := text.data.toList) (sign := sign.data.toList)
    have hbig := ver_big (p := p.data.toList) (text := text.data.toList) (sign := sign.data.toList)
    have hend := fun a c => ver_end (text := text.data.toList) (sign := sign.data.toList) hg a c
    have hblk := fun w => ref_block text (vMany p.data.toList) w (by omega) (by omega) ht
    generalize verifyB p.data.toList text.data.toList sign.data.toList = V at hlen hbig hend ⊢
    generalize vMany p.data.toList = M at *
    generalize (rsaNum p.data.toList).1 = E at *
    generalize (rsaNum p.data.toList).2 = N at *
    have hq : ((b : Int) + 7) / 8 = (M : Int) := by omega
    have hqe := g7
    have hbi : (b : Int) ≤ 2048 := by omega
    have H1 := Lib.hid h1; have HEND := Lib.hid hend; have HBLK := Lib.hid hblk; have HB4 := Lib.hid g4; have HG := Lib.hid (And.intro g1 (And.intro g2 g3)); have HQ := Lib.hid (And.intro hqe (And.intro g5 g6))
    by_cases hl : sign.size = M
    · have hno : ((sign.size : Int) != (M : Int)) = false := by rw [bne_eq_false_iff_eq]; omega
      have hof := fun W => ref_of5 sign.data.toList W (by omega)
      rw [hbs, num_be] at hof
      have hle := be_len sign.data.toList (by omega)
      have HOF := Lib.hid hof; have HLE := Lib.hid hle; have HLL := Lib.hid (show sign.data.toList.length = M by omega)
      generalize be sign.data.toList = s at *
      clear h1 hend hblk g1 g2 g3 g4 g5 g6 g7 hqe hof hle hbs hlen hE hN hsl
      rw [hl] at hno
      go_enter Tryz.func22, Tryz.ntmps22
      repeat (first | (go_at_call 19; refine (Hid.out (p := _) ?_)) | go_values | go_skip | go_guarded | go_step | go_upon | go_back)
      refine Lib.hid ?_
      refine (H1.out _).mono ?_
      rintro e w1 ⟨hb, A, c, B, d, rfl, k1, k2, k3, k4⟩
      have HB1 := Lib.hid hb; have KE := Lib.hid (And.intro k1 k3); have KN := Lib.hid (And.intro k2 k4)
      clear hb H1 k1 k2 k3 k4
      simp only []
      have hbits := ref_bits B d (nd N) w1 KN.out.1 (by have := HG.out.2.2; omega) _ KN.out.2
      rw [HB4.out] at hbits
      have HBI := Lib.hid hbits
      clear hbits
      repeat (first | (go_at_call 21; refine (Hid.out (p := _) ?_)) | go_values | go_skip | go_guarded | go_step | go_upon | go_back)
      refine Lib.hid ?_
      refine HBI.out.mono ?_
      rintro e w2 ⟨rfl, rfl⟩
      simp only []
      repeat (first | (go_at_call 41; refine (Hid.out (p := _) ?_)) | go_values | go_skip | go_guarded | go_step | go_upon | go_back)
      refine Lib.hid ?_
      refine (HOF.out _).mono ?_
      rintro e w3 ⟨hb3, A3, c3, rfl, k1, k2⟩
      have HB3 := Lib.hid (HB1.out.trans (hb3.mono HB1.out.size)); have KS := Lib.hid (And.intro k1 k2); have KE3 := Lib.hid (KE.out.2.below hb3); have KN3 := Lib.hid (KN.out.2.below hb3)
      clear hb3 k1 k2 HOF HBI HB1
      simp only []
      have hcm := ref_cmp s N A3 B c3 d w3 (by have := HLE.out; omega) _ _ KS.out.2 KN3.out
      have HCM := Lib.hid hcm
      clear hcm
      repeat (first | (go_at_call 44; refine (Hid.out (p := _) ?_)) | go_values | go_skip | go_guarded | go_step | go_upon | go_back)
      refine Lib.hid ?_
      refine HCM.out.mono ?_
      rintro e w4 ⟨rfl, hb4⟩
      have HB4' := Lib.hid (HB3.out.trans (hb4.mono HB3.out.size)); have KS4 := Lib.hid (KS.out.2.below hb4); have KE4 := Lib.hid (KE3.out.below hb4); have KN4 := Lib.hid (KN3.out.below hb4)
      clear hb4 HCM HB3 KE3 KN3
      simp only []
      by_cases hlt : s < N
      · rw [cmpI_lt hlt]
        have hV := HEND.out HLL.out hlt
        have hpw := ref_pow s E N HG.out.1 A3 A B c3 c d w4 KS.out.1 KE.out.1 KN.out.1 (by have := HLE.out; omega) (by have := HG.out.2.1; omega) (by have := HG.out.2.2; omega) _ _ _ KS4.out KE4.out KN4.out
        have HPW := Lib.hid hpw; have HV := Lib.hid hV
        clear hpw hV hlt hbig
        repeat (first | (go_at_call 46; refine (Hid.out (p := _) ?_)) | go_values | go_skip | go_guarded | go_step | go_upon | go_back)
        refine Lib.hid ?_
        refine HPW.out.mono ?_
        rintro e w5 ⟨hb5, v5, rfl, A5, c5, rfl, k1, k2⟩
        have hpl : (nd (s ^ E % N)).length ≤ 64 := Nat.le_trans (nd_len_mono (Nat.le_of_lt (Nat.mod_lt _ (by have := HG.out.1; omega)))) HG.out.2.2
        have hwd := ref_wide A5 c5 (nd (s ^ E % N)) M w5 k1 (by omega) (by have := HQ.out; omega) _ k2
        rw [wideS_nd] at hwd
        have HWD := Lib.hid hwd; have HB5 := Lib.hid (HB4'.out.trans (hb5.mono HB4'.out.size))
        clear hb5 k1 k2 hpl hwd HPW HB4'
        simp only []
        generalize s ^ E % N = P at *
        repeat (first | (go_at_call 45; refine (Hid.out (p := _) ?_)) | go_values | go_skip | go_guarded | go_step | go_upon | go_back)
        refine Lib.hid ?_
        refine HWD.out.mono ?_
        rintro e w6 ⟨rfl, hb6⟩
        have HB6 := Lib.hid (HB5.out.trans (hb6.mono HB5.out.size))
        clear hb6 HB5 HWD
        simp only []
        repeat (first | (go_at_call 47; refine (Hid.out (p := _) ?_)) | go_values | go_skip | go_guarded | go_step | go_upon | go_back)
        refine Lib.hid ?_
        refine (HBLK.out _).mono ?_
        rintro e w7 ⟨rfl, hb7⟩
        have HB7 := Lib.hid (HB6.out.trans (hb7.mono HB6.out.size))
        clear hb7 HB6
        simp only []
        repeat (first | (fail) | go_values | go_skip | go_guarded | go_step | go_upon | go_back)
        go_ret
        refine ⟨?_, HB7.out⟩
        rw [HV.out, bs_beq]
        rfl
      · have hge : (0 : Int) ≤ cmpI s N := cmpI_nonneg.2 (by omega)
        generalize cmpI s N = cm at hge ⊢
        have HV := Lib.hid (hbig hlt)
        clear hbig hlt HEND
        repeat (first | (fail) | go_values | go_skip | go_guarded | go_step | go_upon | go_back)
        go_ret
        exact ⟨by rw [HV.out]; rfl, HB4'.out⟩
    · have hyes : ((sign.size : Int) != (M : Int)) = true := by rw [bne_iff_ne]; omega
      have hV := hlen (by omega)
      rw [hV]
      clear h1 hend hblk g1 g2 g3 g4 g5 g6 g7 hqe hbs hlen hbig hE hN hsl hl HEND HBLK hV
      go_enter Tryz.func22, Tryz.ntmps22
      repeat (first | (go_at_call 19; refine (Hid.out (p := _) ?_)) | go_values | go_skip | go_guarded | go_step | go_upon | go_back)
      refine Lib.hid ?_
      refine (H1.out _).mono ?_
      rintro e w1 ⟨hb, A, c, B, d, rfl, k1, k2, k3, k4⟩
      have HB1 := Lib.hid hb; have KN := Lib.hid (And.intro k2 k4)
      clear hb H1 k1 k2 k3 k4
      simp only []
      have hbits := ref_bits B d (nd N) w1 KN.out.1 (by have := HG.out.2.2; omega) _ KN.out.2
      rw [HB4.out] at hbits
      have HBI := Lib.hid hbits
      clear hbits
      repeat (first | (go_at_call 21; refine (Hid.out (p := _) ?_)) | go_values | go_skip | go_guarded | go_step | go_upon | go_back)
      refine Lib.hid ?_
      refine HBI.out.mono ?_
      rintro e w2 ⟨rfl, rfl⟩
      simp only []
      repeat (first | (fail) | go_values | go_skip | go_guarded | go_step | go_upon | go_back)
      go_ret
      exact ⟨rfl, HB1.out⟩
end Go.Proofs.YtdmfbcfhfopipaaGreatDoor

/- slices.Backward over words: the iterator over a row from its end, and its contract. -/
namespace Go.Proofs.YtdmfbcfhfopipaaGreatDoor
open Go.RowKit Go.Shelf
attribute [local go_sem] Oper.semAt_some

/-- The places of a row, the last first. -/
def down : Nat → List Nat
  | 0 => []
  | n + 1 => n :: down n
theorem down_len (n : Nat) : (down n).length = n := by
  induction n with
  | zero => rfl
  | succ n ih => simp [down, ih]
theorem down_lt {n i : Nat} (h : i ∈ down n) : i < n := by
  induction n with
  | zero => cases h
  | succ n ih =>
    rcases List.mem_cons.1 h with rfl | h
    · omega
    · have := ih h; omega
theorem down_mem {n i : Nat} (h : i < n) : i ∈ down n := by
  induction n with
  | zero => omega
  | succ n ih =>
    by_cases e : i = n
    · subst e; exact List.mem_cons_self
    · exact List.mem_cons_of_mem _ (ih (by omega))
theorem down_above {n d : Nat} {pre rest : List Nat} (h : down n = pre ++ d :: rest) : ∀ i, d < i → i < n → i ∈ pre := by
  induction n generalizing pre with
  | zero => intro i _ hi; omega
  | succ n ih =>
    intro i hd hi
    cases pre with
    | nil =>
      simp [down] at h
      omega
    | cons p pre =>
      simp only [down, List.cons_append, List.cons.injEq] at h
      obtain ⟨rfl, h⟩ := h
      by_cases e : i = n
      · subst e; exact List.mem_cons_self
      · exact List.mem_cons_of_mem _ (ih h i hd (by omega))
/-- A place of l. -/
def Bk (l : List W32) : Type := { i : Nat // i < l.length }
def encBk {l : List W32} (x : Bk l) : Array Value := #[.int .i64 (x.1 : Int), .int .u32 ((l.getD x.1 0).toNat : Int)]
def bkPre {l : List W32} (xs : List (Bk l)) : List Nat := xs.map (·.1)
theorem bkPre_snoc {l : List W32} (xs : List (Bk l)) (x : Bk l) : bkPre (xs ++ [x]) = bkPre xs ++ [x.1] := by simp [bkPre]

set_option maxRecDepth 100000 in
set_option maxHeartbeats 1000000 in
theorem backward_stops (F : Fence) (n : Nat) (h6 : F.fn 149) (hro : F.round = none) (hn : 1 ≤ n) (Bn : Nat) (l : List W32) (A : Option Addr) (c : Nat) (w : World) (hl : l.length ≤ 1000000) (hB : Blk w Bn #[.slice A l.length c] 43) (lo : Nat) (hA : DigsAt lo w A l) :
    SeqStopsK F n Tryz.prog 149 #[.pointer (some ⟨Bn, 0, none⟩)] encBk (Below w.heap.size) (fun (xs : List (Bk l)) => bkPre xs = down l.length) (fun pre => bkPre pre <+: down l.length) l.length w := by
  intro lp J Jx W hW hJ hJx hY h0
  refine callsIn_of_wp Tryz.func149 rfl h6 ?_ hro
  simp only [Tryz.ntmps149, List.size_toArray, List.length_cons, List.length_nil, Nat.reduceAdd, Nat.reduceSub, Array.replicate_succ, Array.replicate_zero, List.push_toArray, List.append_toArray, List.nil_append, List.cons_append]
  have c0 : W.cell? ⟨Bn, 0, none⟩ = some (.slice A l.length c) := (hB.below hW hB.lt).cell 0
  have HB := Lib.hid hB; have HY := Lib.hid hY; have HA := Lib.hid hA; have HL := Lib.hid hl
  have hli : (l.length : Int) ≤ 1000000 := by omega
  clear hB hY hA hl
  gi_wp2
  gi_loopw [3] (fun i wr => ∃ (j : Nat) (z : Int) (pre : List (Bk l)), j ≤ l.length ∧ i = .int .i64 z ∧ Hid (z = (j : Int) - 1) ∧ Hid (down l.length = bkPre pre ++ down j) ∧ Below w.heap.size w wr ∧ J pre wr)
    (fun i _ => (intOf i + 1).toNat)
  case atStart => exact ⟨l.length, _, [], Nat.le_refl _, rfl, Lib.hid rfl, Lib.hid rfl, hW, h0⟩
  case round =>
    clear c0
    obtain ⟨j, z, pre, hj, rfl, hz, hx, hb, hjj⟩ := hrel
    cases j with
    | zero =>
      obtain rfl : z = -1 := by have := hz.out; omega
      have hfin : bkPre pre = down l.length := by rw [hx.out, down, List.append_nil]
      have HF := Lib.hid hfin
      clear hfin hx hz
      gi_wp2
      go_end0
      exact ⟨⟨_, rfl⟩, .inl ⟨pre, HF.out, hjj⟩⟩
    | succ k =>
      obtain rfl : z = (k : Int) := by have := hz.out; omega
      obtain ⟨b1, rfl, _, hb1, hc1⟩ := HA.out.cells (by omega)
      have hkl : k < l.length := hj
      have c0 : wr.cell? ⟨Bn, 0, none⟩ = some (.slice (some ⟨b1, 0, none⟩) l.length c) := (HB.out.below hb HB.out.lt).cell 0
      have q1 : wr.cell? ⟨b1, k, none⟩ = some (.int .u32 ((l.getD k 0).toNat : Int)) := by rw [hb.cell (p := ⟨b1, k, none⟩) hb1]; exact hc1 k hkl
      obtain ⟨X, hX⟩ : ∃ X : Bk l, X.1 = k := ⟨⟨k, hkl⟩, rfl⟩
      have hx2 : down l.length = bkPre (pre ++ [X]) ++ down k := by rw [bkPre_snoc, hX, hx.out, down]; simp
      have hlen : pre.length < l.length := by
        have := congrArg List.length hx.out
        rw [down_len, List.length_append, down_len] at this
        simp [bkPre] at this
        omega
      have hy0 := HY.out pre X wr hjj hlen
      simp only [encBk, hX] at hy0
      have hki : (k : Int) < (l.length : Int) := by omega
      have hkl2 := toNat_lt32 (l.getD k 0)
      generalize (l.getD k 0).toNat = dk at q1 hy0 hkl2
      have HX := Lib.hid hx2; have HBW := Lib.hid hb; have HK := Lib.hid hkl
      obtain ⟨fn, tmps, assign, body, hy, hR⟩ := hy0
      have HR := Lib.hid hR
      clear hx2 hlen hx hR hX hc1 hb hz hkl
      gi_wp2_with fail
      refine HR.out.mono ?_
      rintro e W3 (⟨rfl, hJ3, hk3⟩ | ⟨rfl, hJx3⟩)
      · have hb3 := HBW.out.trans hk3
        have HB3 := Lib.hid hb3
        clear hb3 hk3 q1 c0
        gi_wp2
        go_roundw
        case rel => exact ⟨k, (k : Int) - 1, pre ++ [X], by have := HK.out; omega, by go_num, Lib.hid rfl, HX, HB3.out, hJ3⟩
        case measure => simp [intOf]
      · gi_wp2
        refine bodyPost_ret (results_none rfl _ _ _) rfl ?_
        exact ⟨⟨_, rfl⟩, .inr ⟨pre ++ [X], ⟨down k, HX.out.symm⟩, hJx3⟩⟩
theorem backward_any (A : Option Addr) (n c : Nat) (w : World) : Calls Tryz.prog 58 #[.slice A n c] w fun e w' => e = .returned (.func (.func 149) #[] #[.pointer (some ⟨w.heap.size, 0, none⟩)]) ∧ w' = w.alloc (.cells #[.slice A n c] 43) := by
  have hmf := makeFunc_run
  go_enter Tryz.func58, Tryz.ntmps58
  go_wp2
  go_ret
  exact ⟨rfl, rfl⟩
end Go.Proofs.YtdmfbcfhfopipaaGreatDoor

