/- A region that draws its order: its first n operations only read (and call what only reads), in whatever order; what stands behind them waits for all of them, one behind the other. One walk serves every order; of a fence, too. -/
import Derived.WalkKit
import Derived.Deep.QuietTactic
import Derived.BigQuiet
import Derived.OrdersIn
import Derived.TacticsIn
import Derived.RangeFuncCalls
namespace Go.Proofs.YtdmfbcfhfopipaaGreatDoor
open Go.RowKit

section
variable {md : Region.Mode} {ops : Array Oper}

/-- wpAny and its fenced twin, over whatever a step is. -/
def anyG (md : Region.Mode) (ops : Array Oper) (Op1 : Nat → (Act → World → Prop) → Act → World → Prop) (Qn : Act → World → Prop) : Nat → Array Bool → Act → World → Prop
  | 0, listed, a, w => Region.ready md ops listed = [] ∧ Qn a w
  | f + 1, listed, a, w => (Region.ready md ops listed = [] → Qn a w) ∧ ∀ i ∈ Region.ready md ops listed, Op1 i (anyG md ops Op1 Qn f (listed.setIfInBounds i true)) a w

theorem anyG_wpAny {P : Program} {Q : Exit → Act → World → Prop} : ∀ (f : Nat) (listed : Array Bool), anyG md ops (wpOp P ops Q) (Q .normal) f listed = wpAny P md ops Q f listed
  | 0, _ => rfl
  | f + 1, listed => by
    funext a w
    simp only [anyG, wpAny, anyG_wpAny f]
theorem anyG_wpAnyIn {F : Fence} {n : Nat} {P : Program} {Q : Exit → Act → World → Prop} : ∀ (f : Nat) (listed : Array Bool), anyG md ops (wpOpIn F n P ops Q) (Q .normal) f listed = wpAnyIn F n P md ops Q f listed
  | 0, _ => rfl
  | f + 1, listed => by
    funext a w
    simp only [anyG, wpAnyIn, anyG_wpAnyIn f]

/-- Each operation from n on waits for every one ahead of it; the edges lead back. -/
def tailB (md : Region.Mode) (ops : Array Oper) (n : Nat) : Bool :=
  (List.range ops.size).all fun t => match ops[t]? with
    | none => true
    | some o => o.after.all (fun e => decide (e.on < t)) && (decide (t < n) || (List.range t).all fun i => o.after.any fun e => Region.binds md e && e.on == i)

theorem tailB_back {n t : Nat} {o : Oper} (h : tailB md ops n = true) (ho : ops[t]? = some o) : ∀ e ∈ o.after, e.on < t := by
  have hlt : t < ops.size := (Array.getElem?_eq_some_iff.1 ho).1
  have h1 := List.all_eq_true.1 h t (List.mem_range.2 hlt)
  simp only [ho, Bool.and_eq_true] at h1
  intro e he
  have := Array.all_eq_true'.1 h1.1 e he
  simpa using this
theorem tailB_waits {n t : Nat} {o : Oper} (h : tailB md ops n = true) (ho : ops[t]? = some o) (hn : n ≤ t) : ∀ i, i < t → ∃ e ∈ o.after, Region.binds md e = true ∧ e.on = i := by
  have hlt : t < ops.size := (Array.getElem?_eq_some_iff.1 ho).1
  have h1 := List.all_eq_true.1 h t (List.mem_range.2 hlt)
  simp only [ho, Bool.and_eq_true, Bool.or_eq_true, decide_eq_true_eq] at h1
  intro i hi
  rcases h1.2 with h2 | h2
  · omega
  · obtain ⟨e, he, hb⟩ := Array.any_eq_true'.1 (List.all_eq_true.1 h2 i (List.mem_range.2 hi))
    simp only [Bool.and_eq_true, beq_iff_eq] at hb
    exact ⟨e, he, hb.1, hb.2⟩

/-- What stands behind the first n, one behind the other. -/
def tailG (Op1 : Nat → (Act → World → Prop) → Act → World → Prop) (Qn : Act → World → Prop) (size : Nat) : Nat → Act → World → Prop
  | 0 => Qn
  | k + 1 => Op1 (size - (k + 1)) (tailG Op1 Qn size k)

theorem tail_any {Op1 : Nat → (Act → World → Prop) → Act → World → Prop} {Qn : Act → World → Prop} (hmono : ∀ i (K K' : Act → World → Prop) a w, (∀ a w, K a w → K' a w) → Op1 i K a w → Op1 i K' a w)
    {n : Nat} (hB : tailB md ops n = true) : ∀ (k f : Nat) (listed : Array Bool) (a : Act) (w : World), k ≤ f → n + k ≤ ops.size → listed.size = ops.size →
      (∀ i, i < ops.size - k → listed.getD i false = true) → (∀ i, ops.size - k ≤ i → i < ops.size → listed.getD i false = false) →
      tailG Op1 Qn ops.size k a w → anyG md ops Op1 Qn f listed a w := by
  intro k
  induction k with
  | zero =>
    intro f listed a w _ _ hsz hl _ h
    have hr : Region.ready md ops listed = [] := by
      apply List.eq_nil_iff_forall_not_mem.2
      intro i hi
      obtain ⟨hun, o, ho, _⟩ := mem_ready.1 hi
      have hlt : i < ops.size := (Array.getElem?_eq_some_iff.1 ho).1
      have := hl i (by omega)
      have hls : i < listed.size := by omega
      simp [hls] at hun this
      rw [hun] at this
      cases this
    cases f with
    | zero => exact ⟨hr, h⟩
    | succ f => exact ⟨fun _ => h, fun i hi => absurd hi (by rw [hr]; simp)⟩
  | succ k ih =>
    intro f listed a w hf hn hsz hl hu h
    obtain ⟨f, rfl⟩ : ∃ g, f = g + 1 := ⟨f - 1, by omega⟩
    have hm : ops.size - (k + 1) < ops.size := by omega
    have honly : ∀ i ∈ Region.ready md ops listed, i = ops.size - (k + 1) := by
      intro i hi
      obtain ⟨hun, o, ho, hall⟩ := mem_ready.1 hi
      have hlt : i < ops.size := (Array.getElem?_eq_some_iff.1 ho).1
      have hls : i < listed.size := by omega
      rcases Nat.lt_trichotomy i (ops.size - (k + 1)) with h1 | h1 | h1
      · have := hl i h1
        simp [hls] at hun this
        rw [hun] at this
        cases this
      · exact h1
      · obtain ⟨e, he, hb, hon⟩ := tailB_waits hB ho (by omega) _ h1
        have h2 := hall e he hb
        rw [hon, hu _ (Nat.le_refl _) hm] at h2
        cases h2
    have hready : ops.size - (k + 1) ∈ Region.ready md ops listed := by
      refine mem_ready.2 ⟨?_, ops[ops.size - (k + 1)], Array.getElem?_eq_getElem hm, fun e he _ => ?_⟩
      · have := hu _ (Nat.le_refl _) hm
        have hls : ops.size - (k + 1) < listed.size := by omega
        simp [hls] at this ⊢
        exact this
      · exact hl _ (tailB_back hB (Array.getElem?_eq_getElem hm) e he)
    refine ⟨fun h0 => absurd hready (by rw [h0]; simp), fun i hi => ?_⟩
    have hi' := honly i hi
    subst hi'
    refine hmono _ _ _ a w (fun a' w' h' => ih f _ a' w' (by omega) (by omega) (by simpa using hsz) ?_ ?_ h') h
    · intro i hi
      by_cases he : ops.size - (k + 1) = i
      · have hls : i < listed.size := by omega
        simp [he, hls]
      · have := hl i (by omega)
        simp only [Array.getD_eq_getD_getElem?, Array.getElem?_setIfInBounds, he, if_false] at this ⊢
        exact this
    · intro i h1 h2
      have he : ¬ ops.size - (k + 1) = i := by omega
      have := hu i (by omega) h2
      simp only [Array.getD_eq_getD_getElem?, Array.getElem?_setIfInBounds, he, if_false] at this ⊢
      exact this

/-- The first n operations. -/
def headOps (ops : Array Oper) (n : Nat) : Array Oper := (ops.toList.take n).toArray
theorem headOps_get {n i : Nat} (hi : i < n) : (headOps ops n)[i]? = ops[i]? := by simp [headOps, hi]
theorem headOps_size {n : Nat} (hn : n ≤ ops.size) : (headOps ops n).size = n := by simp [headOps]; omega

/-- Guards look back. -/
def guardB (ops : Array Oper) : Bool := (List.range ops.size).all fun i => match ops[i]? with
  | some o => (match o.guard with | some (j, _) => decide (j < i) | none => true)
  | none => true
theorem wanted_head {n i : Nat} {o : Oper} (hg : guardB ops = true) (hi : i < n) (ho : ops[i]? = some o) (t : Array Value) : Region.wanted o (yielded (headOps ops n) t) = Region.wanted o (yielded ops t) := by
  have hlt : i < ops.size := (Array.getElem?_eq_some_iff.1 ho).1
  have h1 := List.all_eq_true.1 hg i (List.mem_range.2 hlt)
  simp only [ho] at h1
  unfold Region.wanted
  split
  · rfl
  · rename_i j want hj
    simp only [hj, decide_eq_true_eq] at h1
    unfold yielded
    rw [headOps_get (by omega)]

theorem all_listed {n : Nat} (hB : tailB md ops n = true) (hn : n ≤ ops.size) {listed : Array Bool} (hsz : listed.size = n) (hr : Region.ready md (headOps ops n) listed = []) : ∀ i, i < n → listed.getD i false = true := by
  intro i
  induction i using Nat.strongRecOn with
  | _ i ih =>
    intro hi
    cases hl : listed.getD i false with
    | true => rfl
    | false =>
      exfalso
      have hlt : i < ops.size := by omega
      have hmem : i ∈ Region.ready md (headOps ops n) listed := by
        refine mem_ready.2 ⟨?_, ops[i], by rw [headOps_get hi]; exact Array.getElem?_eq_getElem hlt, fun e he _ => ?_⟩
        · have hls : i < listed.size := by omega
          simp [hls] at hl ⊢
          exact hl
        · have := tailB_back hB (Array.getElem?_eq_getElem hlt) e he
          exact ih e.on this (by omega)
      rw [hr] at hmem
      cases hmem

theorem getD_head {listed : Array Bool} {n k i : Nat} {d : Bool} (hsz : listed.size = n) (hi : i < n) : (listed ++ Array.replicate k false).getD i d = listed.getD i d := by
  simp only [Array.getD_eq_getD_getElem?]
  rw [Array.getElem?_append_left (by omega)]
theorem getD_tail {listed : Array Bool} {n k i : Nat} (hsz : listed.size = n) (h1 : n ≤ i) : (listed ++ Array.replicate k false).getD i false = false := by
  simp only [Array.getD_eq_getD_getElem?]
  rw [Array.getElem?_append_right (by omega)]
  rcases Nat.lt_or_ge (i - listed.size) k with h | h
  · simp [h]
  · simp [h]
theorem set_head {listed : Array Bool} {n k i : Nat} (hsz : listed.size = n) (hi : i < n) : (listed ++ Array.replicate k false).setIfInBounds i true = listed.setIfInBounds i true ++ Array.replicate k false := by
  apply Array.ext_getElem?
  intro j
  rw [Array.getElem?_setIfInBounds]
  by_cases hj : j < n
  · rw [Array.getElem?_append_left (by omega), Array.getElem?_append_left (by simp; omega), Array.getElem?_setIfInBounds]
    simp only [Array.size_append, Array.size_replicate]
    split
    · rw [if_pos (by omega), if_pos (by omega)]
    · rfl
  · rw [if_neg (by omega), Array.getElem?_append_right (by omega), Array.getElem?_append_right (by simp; omega)]
    simp

theorem head_any {P : Program} {C : World → Prop} {Op1 : Nat → (Act → World → Prop) → Act → World → Prop} {Qn : Act → World → Prop} (hmono : ∀ i (K K' : Act → World → Prop) a w, (∀ a w, K a w → K' a w) → Op1 i K a w → Op1 i K' a w)
    {n : Nat} (hB : tailB md ops n = true) (hn : n ≤ ops.size)
    (hq : ∀ i (K : Act → Prop) (K' : Act → World → Prop) a w, i < n → C w → (∀ a' w', C w' → K a' → K' a' w') → qOp P (headOps ops n) C i K a → Op1 i K' a w)
    {Qh : Act → Prop} (hQ : ∀ a w, C w → Qh a → tailG Op1 Qn ops.size (ops.size - n) a w) :
    ∀ (f : Nat) (listed : Array Bool) (a : Act) (w : World), C w → listed.size = n → wpAnyQ P md (headOps ops n) C Qh f listed a →
      anyG md ops Op1 Qn (f + (ops.size - n)) (listed ++ Array.replicate (ops.size - n) false) a w := by
  have hdone : ∀ (f : Nat) (listed : Array Bool) (a : Act) (w : World), C w → listed.size = n → Region.ready md (headOps ops n) listed = [] → Qh a →
      anyG md ops Op1 Qn (f + (ops.size - n)) (listed ++ Array.replicate (ops.size - n) false) a w := by
    intro f listed a w hC hsz hr h
    have hall := all_listed hB hn hsz hr
    refine tail_any hmono hB (ops.size - n) _ _ a w (by omega) (by omega) (by simp; omega) ?_ ?_ (hQ a w hC h)
    · intro i hi
      rw [getD_head hsz (by omega)]
      exact hall i (by omega)
    · intro i h1 _
      exact getD_tail hsz (by omega)
  intro f
  induction f with
  | zero =>
    intro listed a w hC hsz h
    exact hdone 0 listed a w hC hsz h.1 h.2
  | succ f ih =>
    intro listed a w hC hsz h
    cases hr : Region.ready md (headOps ops n) listed with
    | nil => exact hdone (f + 1) listed a w hC hsz hr (h.1 hr)
    | cons i0 rs =>
      have h0 : i0 ∈ Region.ready md (headOps ops n) listed := by rw [hr]; simp
      obtain ⟨hun0, o0, ho0, hall0⟩ := mem_ready.1 h0
      have hi0 : i0 < n := by have := (Array.getElem?_eq_some_iff.1 ho0).1; rw [headOps_size hn] at this; exact this
      have hls0 : i0 < listed.size := by omega
      have key : ∀ i, i ∈ Region.ready md ops (listed ++ Array.replicate (ops.size - n) false) → i < n ∧ i ∈ Region.ready md (headOps ops n) listed := by
        intro i hi
        obtain ⟨hun, o, ho, hall⟩ := mem_ready.1 hi
        by_cases hin : i < n
        · refine ⟨hin, mem_ready.2 ⟨by rw [getD_head hsz hin] at hun; exact hun, o, by rw [headOps_get hin]; exact ho, fun e he hb => ?_⟩⟩
          have := hall e he hb
          rw [getD_head hsz (by have := tailB_back hB ho e he; omega)] at this
          exact this
        · exfalso
          obtain ⟨e, he, hb, hon⟩ := tailB_waits hB ho (by omega) i0 (by omega)
          have := hall e he hb
          rw [hon, getD_head hsz hi0] at this
          simp [hls0] at hun0 this
          rw [this] at hun0
          cases hun0
      rw [show f + 1 + (ops.size - n) = (f + (ops.size - n)) + 1 by omega]
      refine ⟨fun hnil => ?_, fun i hi => ?_⟩
      · exfalso
        have : i0 ∈ Region.ready md ops (listed ++ Array.replicate (ops.size - n) false) := by
          refine mem_ready.2 ⟨by rw [getD_head hsz hi0]; exact hun0, o0, by rw [headOps_get hi0] at ho0; exact ho0, fun e he hb => ?_⟩
          rw [headOps_get hi0] at ho0
          rw [getD_head hsz (by have := tailB_back hB ho0 e he; omega)]
          exact hall0 e he hb
        rw [hnil] at this
        cases this
      · obtain ⟨hin, hmem⟩ := key i hi
        refine hq i _ _ a w hin hC (fun a' w' hC' h' => ?_) (h.2 i hmem)
        rw [set_head hsz hin]
        exact ih _ a' w' hC' (by simpa using hsz) h'
end

section
variable {P : Program} {C : World → Prop} {Q : Exit → Act → World → Prop} {a : Act} {w : World} {id : Nat} {ops : Array Oper} {n : Nat}

theorem tailG_wp : ∀ (k : Nat) (a : Act) (w : World), k ≤ ops.size → wpList P ops Q (ops.toList.drop (ops.size - k)) a w → tailG (wpOp P ops Q) (Q .normal) ops.size k a w := by
  intro k
  induction k with
  | zero =>
    intro a w _ h
    rw [Nat.sub_zero, List.drop_of_length_le (by simp)] at h
    exact h
  | succ k ih =>
    intro a w hk h
    have hlt : ops.size - (k + 1) < ops.size := by omega
    rw [List.drop_eq_getElem_cons (by simpa using hlt)] at h
    simp only [tailG, wpOp]
    rw [Array.getElem?_eq_getElem hlt]
    simp only [wpList, Array.getElem_toList] at h
    rw [show ops.size - (k + 1) + 1 = ops.size - k by omega] at h
    dsimp only
    split
    · rename_i hw
      rw [if_pos hw] at h
      exact h.imp (Oper.wp_mono (fun a w h => ih a w (by omega) h)) id
    · rename_i hw
      rw [if_neg hw] at h
      exact ih _ _ (by omega) h

theorem qOp_head {i : Nat} {K : Act → Prop} (hg : guardB ops = true) (hi : i < n) (h : qOp P (headOps ops n) C i K a) : qOp P ops C i K a := by
  unfold qOp at *
  rw [headOps_get hi] at h
  cases ho : ops[i]? with
  | none => simpa only [ho] using h
  | some o =>
    simp only [ho] at h ⊢
    rw [wanted_head hg hi ho] at h
    exact h

/-- **A region that draws: n operations that only read; behind them what waits for them.** -/
theorem wp_draw (n : Nat) {l : List Oper} (hm : P.follows .mixedOrders = true) (hB : tailB .any l.toArray n = true) (hG : guardB l.toArray = true) (hL : Region.lexB .any (headOps l.toArray n) = true) (hn : n ≤ l.length)
    (hC : C { w with drawn := w.drawn + 1 }) (h : wpQuiet P (l.take n).toArray C (fun a' => ∀ w', C w' → wpList P l.toArray Q (l.drop n) a' w') (l.take n) a) : (Code.region id l.toArray true).wp P Q a w := by
  simp only [Region.lexB, Bool.and_eq_true] at hL
  have hn' : n ≤ l.toArray.size := by simpa using hn
  rw [show (l.take n).toArray = headOps l.toArray n by simp [headOps]] at h
  refine wp_region_any hm ?_
  have hlen : (l.take n).length = n := by simp; omega
  have h1 := wpAnyQ_lex (P := P) (C := C) (md := .any) hL.1 (l.take n) 0 (Array.replicate n false) a (by intro j; simp [headOps]) (by rw [hlen]; have := hL.2; rw [headOps_size hn'] at this; exact this) h
  rw [hlen] at h1
  have h2 := head_any (P := P) (C := C) (md := .any) (Op1 := wpOp P l.toArray Q) (Qn := Q .normal) (fun i K K' a w hk hh => wpOp_mono hk hh) hB hn'
    (fun i K K' a w hi hC' hk hh => wpOp_of_qOp hC' hk (qOp_head hG hi hh))
    (Qh := fun a' => ∀ w', C w' → wpList P l.toArray Q (l.drop n) a' w')
    (fun a' w' hC' hh => tailG_wp _ a' w' (by omega) (by
      have := hh w' hC'
      rw [show l.toArray.size - (l.toArray.size - n) = n by omega]
      simpa using this)) n (Array.replicate n false) a _ hC (by simp) h1
  rw [anyG_wpAny] at h2
  have e : (Array.replicate n false ++ Array.replicate (l.toArray.size - n) false) = Array.replicate l.toArray.size false := by
    rw [Array.replicate_append_replicate]
    congr 1
    omega
  rw [e, show n + (l.toArray.size - n) = l.toArray.size by omega] at h2
  exact h2
end

section
variable {P : Program} {C : World → Prop} {Q : Exit → Act → World → Prop} {a : Act} {w : World} {id : Nat} {ops : Array Oper} {n : Nat} {F : Fence} {d : Nat}

/-- A fence that lets everything by. -/
structure OpenFence (F : Fence) (d : Nat) (P : Program) : Prop where
  fn : ∀ f, F.fn f
  depth : F.depth = none
  calls : ∀ f args w R, Calls P f args w R → CallsIn F (d - 1) P f args w R
theorem openWide (d : Nat) (P : Program) : OpenFence Fence.wide d P := ⟨fun _ => trivial, rfl, fun _ _ _ _ h => callsIn_wide.2 h⟩
theorem openRound (l d : Nat) (P : Program) : OpenFence (Fence.wide.inRound l) d P := ⟨fun _ => trivial, rfl, fun _ _ _ _ h => CallsIn.inRound l (callsIn_wide.2 h)⟩

theorem wpOpIn_of_qOp (hF : OpenFence F d P) {i : Nat} {K : Act → Prop} {K' : Act → World → Prop} (hC : C w) (h : ∀ a w', C w' → K a → K' a w') (hh : qOp P ops C i K a) : wpOpIn F d P ops Q i K' a w := by
  unfold qOp at hh
  unfold wpOpIn
  split
  · rename_i ho; simp only [ho] at hh; exact h _ _ hC hh
  · rename_i o ho
    simp only [ho] at hh
    split
    · rename_i hw
      simp only [hw, if_true] at hh
      obtain ⟨v, h1, h2⟩ := hh
      have h3 := h1 w hC
      unfold Oper.quietAt at h3
      have hdef : ∀ c, o.op ≠ .defer c := by
        intro c hc
        unfold execOp at h3
        rw [hc] at h3
        simp only [Sem.run_bind] at h3
        cases hr : (resolve a.eval c o.type).run P w with
        | ok x w' => rw [hr] at h3; simp [Oper.quietUpon] at h3
        | halt x w' => rw [hr] at h3; simp [Oper.quietUpon] at h3
      have hs : Oper.semAt F.round a.eval o = execOp a.eval o := by
        cases F.round with
        | none => rfl
        | some l => exact Oper.semAt_some l _ _ hdef
      refine ⟨fun f _ => hF.fn f, ?_⟩
      rw [hs]
      generalize (execOp a.eval o).run P w = r at *
      cases r with
      | ok x w' =>
        cases x <;> simp only [Oper.quietUpon] at h3 <;> simp only [Oper.uponIn]
        case value u =>
          obtain ⟨e1, e2⟩ := h3
          rw [e1, e2]
          exact h _ _ hC h2
        case skip =>
          obtain ⟨e1, e2⟩ := h3
          rw [e1, ← e2]
          exact h _ _ hC h2
        case enter f args =>
          obtain ⟨e1, hc⟩ := h3
          rw [e1]
          refine ⟨fun hd => (by rw [hF.depth] at hd; cases hd), hF.calls _ _ _ _ (hc.mono ?_)⟩
          rintro e w'' ⟨he, hw''⟩
          subst he
          exact h _ _ hw'' h2
      | halt x w' => simp only [Oper.quietUpon] at h3
    · rename_i hw
      simp only [hw] at hh
      exact ⟨fun f _ => hF.fn f, h _ _ hC hh⟩

theorem tailG_wpIn : ∀ (k : Nat) (a : Act) (w : World), k ≤ ops.size → wpListIn F d P ops Q (ops.toList.drop (ops.size - k)) a w → tailG (wpOpIn F d P ops Q) (Q .normal) ops.size k a w := by
  intro k
  induction k with
  | zero =>
    intro a w _ h
    rw [Nat.sub_zero, List.drop_of_length_le (by simp)] at h
    exact h
  | succ k ih =>
    intro a w hk h
    have hlt : ops.size - (k + 1) < ops.size := by omega
    rw [List.drop_eq_getElem_cons (by simpa using hlt)] at h
    simp only [tailG, wpOpIn]
    rw [Array.getElem?_eq_getElem hlt]
    simp only [wpListIn, Array.getElem_toList] at h
    rw [show ops.size - (k + 1) + 1 = ops.size - k by omega] at h
    dsimp only
    split
    · rename_i hw
      rw [if_pos hw] at h
      exact Oper.wpIn_mono (fun a w h => ih a w (by omega) h) h
    · rename_i hw
      rw [if_neg hw] at h
      exact ⟨h.1, ih _ _ (by omega) h.2⟩

theorem wpIn_draw (hF : OpenFence F d P) (n : Nat) {l : List Oper} (hm : P.follows .mixedOrders = true) (hB : tailB .any l.toArray n = true) (hG : guardB l.toArray = true) (hL : Region.lexB .any (headOps l.toArray n) = true) (hn : n ≤ l.length)
    (hC : C { w with drawn := w.drawn + 1 }) (h : wpQuiet P (l.take n).toArray C (fun a' => ∀ w', C w' → wpListIn F d P l.toArray Q (l.drop n) a' w') (l.take n) a) : (Code.region id l.toArray true).wpIn F d P Q a w := by
  simp only [Region.lexB, Bool.and_eq_true] at hL
  have hn' : n ≤ l.toArray.size := by simpa using hn
  rw [show (l.take n).toArray = headOps l.toArray n by simp [headOps]] at h
  refine wpIn_region_any hm ?_
  have hlen : (l.take n).length = n := by simp; omega
  have h1 := wpAnyQ_lex (P := P) (C := C) (md := .any) hL.1 (l.take n) 0 (Array.replicate n false) a (by intro j; simp [headOps]) (by rw [hlen]; have := hL.2; rw [headOps_size hn'] at this; exact this) h
  rw [hlen] at h1
  have h2 := head_any (P := P) (C := C) (md := .any) (Op1 := wpOpIn F d P l.toArray Q) (Qn := Q .normal) (fun i K K' a w hk hh => wpOpIn_mono hk hh) hB hn'
    (fun i K K' a w hi hC' hk hh => wpOpIn_of_qOp hF hC' hk (qOp_head hG hi hh))
    (Qh := fun a' => ∀ w', C w' → wpListIn F d P l.toArray Q (l.drop n) a' w')
    (fun a' w' hC' hh => tailG_wpIn _ a' w' (by omega) (by
      have := hh w' hC'
      rw [show l.toArray.size - (l.toArray.size - n) = n by omega]
      simpa using this)) n (Array.replicate n false) a _ hC (by simp) h1
  rw [anyG_wpAnyIn] at h2
  have e : (Array.replicate n false ++ Array.replicate (l.toArray.size - n) false) = Array.replicate l.toArray.size false := by
    rw [Array.replicate_append_replicate]
    congr 1
    omega
  rw [e, show n + (l.toArray.size - n) = l.toArray.size by omega] at h2
  exact h2
end

/-- The class of the worlds after some draws, for both. -/
abbrev Drawn (w : World) : World → Prop := fun w' => ∃ n, w' = w.drewN n
end Go.Proofs.YtdmfbcfhfopipaaGreatDoor
