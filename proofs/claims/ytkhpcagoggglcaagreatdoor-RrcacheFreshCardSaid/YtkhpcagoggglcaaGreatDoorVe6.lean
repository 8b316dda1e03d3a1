import Derived.Test.YtkhpcagoggglcaaGreatDoorVe2
import Derived.Laws.IdiomCopy
import Derived.Lib.SlBuf
import Derived.ArgAppend
import Derived.StillTailTactics
import Derived.OwnWalk
import Derived.Deep.RegionLaw
import Derived.Lib.AppendStr
import Derived.Test.YtkhpcagoggglcaaGreatDoorVe1
import Derived.Test.YtkhpcagoggglcaaGreatDoorVe3
import Derived.Handy
/- slices.Replace at []byte, where what comes is as long as what goes. -/
namespace Go.Proofs.YtkhpcagoggglcaaGreatDoor
open Go.RowKit

/-- Block g holds these bytes at its beginning, and they may be written. -/
def RowAt (g : Nat) (l : List UInt8) (w : World) : Prop := g < w.heap.size ∧ ∀ k, k < l.length → w.cell? ⟨g, k, none⟩ = some (bv (l.getD k 0)) ∧ w.frozen? ⟨g, k, none⟩ = false
def splice (l : List UInt8) (i : Nat) (x : List UInt8) : List UInt8 := l.take i ++ x ++ l.drop (i + x.length)
theorem splice_len {l : List UInt8} {i : Nat} {x : List UInt8} (h : i + x.length ≤ l.length) : (splice l i x).length = l.length := by simp [splice]; omega
theorem splice_get {l : List UInt8} {i : Nat} {x : List UInt8} (h : i + x.length ≤ l.length) (k : Nat) : (splice l i x).getD k 0 = if i ≤ k ∧ k < i + x.length then x.getD (k - i) 0 else l.getD k 0 := by
  simp only [splice, List.getD]
  by_cases h1 : k < i
  · rw [if_neg (by omega), List.append_assoc, List.getElem?_append_left (by simp; omega), List.getElem?_take, if_pos h1]
  · by_cases h2 : k < i + x.length
    · rw [if_pos ⟨by omega, h2⟩, List.getElem?_append_left (by simp; omega), List.getElem?_append_right (by simp; omega)]
      congr 2; simp; omega
    · rw [if_neg (by omega), List.getElem?_append_right (by simp; omega), List.getElem?_drop]
      congr 2; simp; omega
theorem Only.setCells (g : Nat) : ∀ (vs : List Value) (o : Nat) (w : World), Only g w (w.setCells g o vs)
  | [], _, w => Only.refl g w
  | v :: vs, o, w => (Only.setCell ⟨g, o, none⟩ rfl v).trans (Only.setCells g vs (o + 1) (w.setCell ⟨g, o, none⟩ v))
theorem Only.drewN {g : Nat} {w w' : World} (n : Nat) (h : Only g w w') : Only g w (w'.drewN n) := ⟨h.os, h.tape, h.output, h.size, h.block⟩
theorem RowAt.put {g : Nat} {l : List UInt8} {w : World} (h : RowAt g l w) {i : Nat} {x : List UInt8} (hx : i + x.length ≤ l.length) : RowAt g (splice l i x) (w.setCells g i (x.map bv)) := by
  refine ⟨Nat.lt_of_lt_of_le h.1 (Only.setCells g _ _ w).size, fun k hk => ⟨?_, ?_⟩⟩
  · rw [splice_len hx] at hk
    rw [splice_get hx]
    by_cases hin : i ≤ k ∧ k < i + x.length
    · rw [if_pos hin]
      have := World.cell?_setCells_in g (x.map bv) i w (fun j hj => by rw [(h.2 (i + j) (by simp at hj; omega)).1]; rfl) (k - i) (by simp; omega)
      rw [show i + (k - i) = k by omega] at this
      rw [this]
      simp [List.getD, List.getElem?_eq_getElem (show k - i < x.length by omega)]
    · rw [if_neg hin, World.cell?_setCells_out g _ i w ⟨g, k, none⟩ (fun _ _ => by simp only [List.length_map]; show k < i ∨ i + x.length ≤ k; omega)]
      exact (h.2 k hk).1
  · rw [World.frozen?_setCells]
    rw [splice_len hx] at hk
    exact (h.2 k hk).2
theorem splice_self (l : List UInt8) (j : Nat) (h : j ≤ l.length) : splice l j (l.drop j) = l := by
  unfold splice
  rw [List.take_append_drop, List.length_drop, List.drop_of_length_le (by omega), List.append_nil]
theorem RowAt.srcAt {g : Nat} {l : List UInt8} {w : World} (H : RowAt g l w) (j : Nat) : ∀ k u, ((l.drop j).map bv)[k]? = some u → w.cell? ((⟨g, j, none⟩ : Addr).add k) = some u := by
  intro k u hu
  rw [List.getElem?_map, Option.map_eq_some_iff] at hu
  obtain ⟨b, hb, rfl⟩ := hu
  rw [List.getElem?_drop] at hb
  have hk : j + k < l.length := by
    rcases Nat.lt_or_ge (j + k) l.length with h | h
    · exact h
    · rw [List.getElem?_eq_none h] at hb; cases hb
  have e : (⟨g, j, none⟩ : Addr).add k = ⟨g, j + k, none⟩ := by unfold Addr.add; split <;> simp_all
  rw [e, (H.2 (j + k) hk).1, List.getD, hb]; rfl
theorem zero_u8 (w : World) : (zeroValue 5).run Tryz.prog w = .ok (.int .u8 0) w := by kernel_rfl
theorem clear_none (A : Option Addr) (c : Nat) (ty : TypeId) (w : World) : (Builtin.clear_ #[82] ty #[.slice A 0 c]).run Tryz.prog w = .ok (.tuple #[]) w := by
  have hz := zero_u8
  cases A <;> simp [Builtin.clear_, run_underlying Tryz.underlying82, hz, storeCells]
theorem info_u8s : (Tryz.prog.info? 5).map (·.size) = some 1 := by kernel_rfl
theorem bv_one (x : List UInt8) : ∀ v ∈ x.map bv, v.oneCell' = true := by
  intro v hv
  simp at hv
  obtain ⟨b, _, rfl⟩ := hv
  rfl
theorem add_at (h k : Nat) : (⟨h, 0, none⟩ : Addr).add k = ⟨h, k, none⟩ := by unfold Addr.add; split <;> simp_all
theorem RowAt.src {h : Nat} {x : List UInt8} {w : World} (H : RowAt h x w) : ∀ j u, (x.map bv)[j]? = some u → w.cell? ((⟨h, 0, none⟩ : Addr).add j) = some u := by
  intro j u hu
  rw [List.getElem?_map, Option.map_eq_some_iff] at hu
  obtain ⟨b, hb, rfl⟩ := hu
  have hj : j < x.length := by
    rcases Nat.lt_or_ge j x.length with h | h
    · exact h
    · rw [List.getElem?_eq_none h] at hb; cases hb
  rw [add_at, (H.2 j hj).1, List.getD, hb]; rfl
theorem RowAt.only {g h : Nat} {x : List UInt8} {w w' : World} (H : RowAt h x w) (hb : Only g w w') (hne : h ≠ g) : RowAt h x w' := by
  refine ⟨Nat.lt_of_lt_of_le H.1 hb.size, fun k hk => ?_⟩
  have e := hb.block h H.1 hne
  rw [World.cell?_of_block (w := w) (a := ⟨h, k, none⟩) e, World.frozen?_of_block (w := w) (a := ⟨h, k, none⟩) e]
  exact H.2 k hk

theorem wpList_append_run {P : Program} (w : World) {ops : Array Oper} {rest : List Oper} {o : Oper} {a : Act} {Q : Exit → Act → World → Prop} (hgd : o.guard = none) (d s : Operand) (t t' : TypeId)
    (ho : o.op = .call { callee := .builtin .append, args := #[d, s], argTypes := #[t, t'] }) (v u : Value) (hd : a.eval d = v) (hs : a.eval s = u) {v' : Value} {w' : World}
    (hr : (Builtin.append_ #[t, t'] o.type #[v, u]).run P w = .ok v' w') (h : wpList P ops Q rest (a.put o.dst v') w') : wpList P ops Q (o :: rest) a w := by
  refine wpList_plain hgd fun K hK => ?_
  unfold Oper.wp execOp
  simp only [ho, resolve, invoke, builtin, Sem.run_bind, Sem.run_pure, Result.andThen_ok, List.map_toArray, List.map_cons, List.map_nil, hd, hs, hr]
  exact hK _ _ h

def ReplaceP (g : Nat) (n cap : Nat) (l : List UInt8) (w : World) (e : Ending) (w' : World) : Prop :=
  e = .returned (.slice (some ⟨g, 0, none⟩) n cap) ∧ RowAt g l w' ∧ Only g w w'

set_option maxRecDepth 100000 in
set_option maxHeartbeats 1000000 in
theorem replace_end (g h cap c i : Nat) (l x : List UInt8) (w : World) (hl : RowAt g l w) (hx : RowAt h x w) (hne : h ≠ g) (hi : i + x.length = l.length) (h0 : 0 < x.length) (hcap : l.length ≤ cap) (hm : cap ≤ maxLen) :
    Calls Tryz.prog 41 #[.slice (some ⟨g, 0, none⟩) l.length cap, .int .i64 (i : Int), .int .i64 (l.length : Int), .slice (some ⟨h, 0, none⟩) x.length c] w (ReplaceP g l.length cap (splice l i x) w) := by
  obtain ⟨i0, hi0, hzz⟩ := Option.map_eq_some_iff.1 info_u8b
  simp only [Prod.mk.injEq] at hzz
  obtain ⟨hz0, hz1, hz2⟩ := hzz
  have hrun := run_append_room_cells (P := Tryz.prog) w 82 82 5 i0 Tryz.underlying82 hi0 g 0 i cap ⟨h, 0, none⟩ x.length c (x.map bv) (by simp [hz1]) hx.src (bv_one x) (by omega)
    (fun j hj => by rw [hz1, Nat.mul_one, Nat.zero_add, (hl.2 (i + j) (by simp at hj; omega)).1]; rfl) (fun j hj => by rw [hz1, Nat.mul_one, Nat.zero_add]; exact (hl.2 (i + j) (by simp at hj; omega)).2)
  rw [hz1, Nat.mul_one, Nat.zero_add, show i + x.length = l.length by omega] at hrun
  have hP : ReplaceP g l.length cap (splice l i x) w (.returned (.slice (some ⟨g, 0, none⟩) l.length cap)) (w.setCells g i (x.map bv)) := ⟨rfl, hl.put (by omega), Only.setCells g _ _ w⟩
  have HP := Lib.hid hP; have HR := Lib.hid hrun
  have q1 : (i : Int) ≤ (l.length : Int) := by omega
  have q2 : (l.length : Int) ≤ (cap : Int) := by omega
  have q3 : ((i : Int) == (l.length : Int)) = false := by rw [beq_eq_false_iff_ne]; omega
  have q4 : (i : Int) ≤ (cap : Int) := by omega
  have q5 : ((l.length : Int) == (l.length : Int)) = true := by simp
  have q6 : ¬ cap = i := by omega
  clear hP hrun hl hx hi hz0 hz1 hz2 hi0 h0
  go_enter Tryz.func41, Tryz.ntmps41
  go_wp2_with (at_builtin; go_loud (refine wpList_append_run _ rfl (.tmp 32) (.tmp 33) _ _ rfl _ _ rfl rfl HR.out ?_))
  go_ret
  exact HP.out

set_option maxRecDepth 100000 in
set_option maxHeartbeats 1000000 in
theorem replace_mid (g h cap c i j : Nat) (l x : List UInt8) (w : World) (hl : RowAt g l w) (hx : RowAt h x w) (hne : h ≠ g) (hj : j = i + x.length) (hi : j < l.length) (h0 : 0 < x.length) (hcap : l.length ≤ cap) (hm : cap ≤ maxLen) :
    Calls Tryz.prog 41 #[.slice (some ⟨g, 0, none⟩) l.length cap, .int .i64 (i : Int), .int .i64 (j : Int), .slice (some ⟨h, 0, none⟩) x.length c] w (ReplaceP g l.length cap (splice l i x) w) := by
  unfold maxLen at hm
  have q1 : (i : Int) ≤ (j : Int) := by omega
  have q2 : (j : Int) ≤ (cap : Int) := by omega
  have q3 : ((i : Int) == (j : Int)) = false := by rw [beq_eq_false_iff_ne]; omega
  have q4 : (i : Int) ≤ (cap : Int) := by omega
  have q5 : ((j : Int) == (l.length : Int)) = false := by rw [beq_eq_false_iff_ne]; omega
  have q6 : ¬ cap = i := by omega
  have q7 : ¬ cap = j := by omega
  have q8 : (j : Int) ≤ (l.length : Int) := by omega
  have r1 : IntKind.i64.wrap ((i : Int) + (x.length : Int)) = (j : Int) := by rw [hj]; exact IntWalk.i64_in _ (by omega)
  have r2 : IntKind.i64.wrap ((j : Int) + ((l.length - j : Nat) : Int)) = (l.length : Int) := by rw [show (j : Int) + ((l.length - j : Nat) : Int) = (l.length : Int) by omega]; exact IntWalk.i64_in _ (by omega)
  have q9 : decide ((cap : Int) < (l.length : Int)) = false := decide_eq_false (by omega)
  have qa : ((l.length : Nat) : Int) ≤ (cap : Int) := by omega
  have e3 : ((j : Int)).toNat = j := by omega
  have HL := Lib.hid hl; have HX := Lib.hid hx; have HJ := Lib.hid hj; have H0 := Lib.hid (And.intro hi (And.intro h0 hcap))
  clear hl hx hj h0 hcap
  go_enter Tryz.func41, Tryz.ntmps41
  go_wp2_with fail
  go_quiet (fail)
  have HL1 : Hid (RowAt g l (w.drewN nq)) := HL
  have HX1 : Hid (RowAt h x (w.drewN nq)) := HX
  have HO1 : Hid (Only g w (w.drewN nq)) := Lib.hid (Only.drewN nq (Only.refl g w))
  generalize w.drewN nq = W1 at *
  clear HL HX
  have hrun := run_copy_cells (P := Tryz.prog) W1 82 82 3 5 g i (l.length - i) (cap - i) ⟨h, 0, none⟩ x.length c (x.map bv) Tryz.underlying82 info_u8s (by have h1 := HJ.out; have h2 := H0.out; rw [List.length_map]; show x.length = min x.length (l.length - i); omega) HX1.out.src
    (fun k hk => by have := HJ.out; rw [(HL1.out.2 (i + k) (by simp at hk; omega)).1]; rfl) (fun k hk => by have := HJ.out; exact (HL1.out.2 (i + k) (by simp at hk; omega)).2) (bv_one x)
  have HR := Lib.hid hrun
  have HP1 := Lib.hid (HL1.out.put (i := i) (x := x) (by have := HJ.out; omega))
  have HO2 := Lib.hid (HO1.out.trans (Only.setCells g (x.map bv) i W1))
  clear hrun
  go_wp2_with fail
  rw [HR.out]
  simp only [Result.andThen_ok]
  rw [Oper.upon_value]
  clear HR
  generalize W1.setCells g i (x.map bv) = W2 at *
  go_wp2_with fail
  go_frame
  go_still_tail 9, (by kernel_rfl)
  change wpList _ _ _ _ _ W2.drew
  have HP2 : Hid (RowAt g (splice l i x) W2.drew) := HP1
  have HO3 : Hid (Only g w W2.drew) := Lib.hid HO2.out.drew
  generalize W2.drew = W3 at *
  have hlen : (splice l i x).length = l.length := splice_len (by have := HJ.out; omega)
  have hrun := run_copy_cells (P := Tryz.prog) W3 82 82 3 5 g j (l.length - j) (cap - j) ⟨g, j, none⟩ (l.length - j) (cap - j) (((splice l i x).drop j).map bv) Tryz.underlying82 info_u8s (by rw [List.length_map, List.length_drop, hlen]; show _ = min (l.length - j) (l.length - j); omega) (HP2.out.srcAt j)
    (fun k hk => by rw [List.length_map, List.length_drop] at hk; rw [(HP2.out.2 (j + k) (by omega)).1]; rfl) (fun k hk => by rw [List.length_map, List.length_drop] at hk; exact (HP2.out.2 (j + k) (by omega)).2) (bv_one _)
  have hP := HP2.out.put (i := j) (x := (splice l i x).drop j) (by rw [List.length_drop]; omega)
  rw [splice_self _ _ (by omega)] at hP
  have HR := Lib.hid hrun
  have HP3 := Lib.hid hP
  have HO4 := Lib.hid (HO3.out.trans (Only.setCells g (((splice l i x).drop j).map bv) j W3))
  clear hrun hP hlen HP2 HO3 HP1 HO2
  refine Lib.wpList_copy_run W3 rfl (.tmp 103) (.tmp 106) _ _ rfl _ _ rfl rfl HR.out ?_
  clear HR
  generalize W3.setCells g j (((splice l i x).drop j).map bv) = W4 at *
  go_wp2_with fail
  all_goals
    rw [clear_none]
    simp only [Result.andThen_ok]
    rw [Oper.upon_value]
    go_wp2_with fail
    go_ret
    first
      | exact ⟨rfl, HP3.out, HO4.out⟩
      | (have hc : cap = l.length := by assumption
         refine ⟨?_, HP3.out, HO4.out⟩
         rw [hc]; rfl)

theorem replace_any (g h cap c i n m : Nat) (jj : Int) (l x : List UInt8) (w : World) (hl : RowAt g l w) (hx : RowAt h x w) (hne : h ≠ g) (hn : l.length = n) (hm : x.length = m) (hj : jj = (i : Int) + (m : Int)) (hi : i + m ≤ n) (h0 : 0 < m) (hcap : n ≤ cap) (hmax : cap ≤ maxLen) :
    Calls Tryz.prog 41 #[.slice (some ⟨g, 0, none⟩) n cap, .int .i64 (i : Int), .int .i64 jj, .slice (some ⟨h, 0, none⟩) m c] w (ReplaceP g n cap (splice l i x) w) := by
  subst hn hm
  by_cases he : i + x.length = l.length
  · obtain rfl : jj = (l.length : Int) := by omega
    exact replace_end g h cap c i l x w hl hx hne he h0 hcap hmax
  · obtain rfl : jj = ((i + x.length : Nat) : Int) := by omega
    exact replace_mid g h cap c i (i + x.length) l x w hl hx hne rfl (by omega) h0 hcap hmax
end Go.Proofs.YtkhpcagoggglcaaGreatDoor

/- data's sink: bytes that are put together. -/
namespace Go.Proofs.YtkhpcagoggglcaaGreatDoor
open Go.RowKit

theorem OwnB.len {base : Nat} {v : Value} {l : List UInt8} {w : World} (h : OwnB base v l w) : ∃ A c, v = .slice A l.length c := by
  rcases h.2 with ⟨rfl, h0⟩ | ⟨g, cap, cur, rfl, _⟩
  · exact ⟨none, 0, by rw [show l.length = 0 by simpa using h0]⟩
  · exact ⟨_, _, rfl⟩
theorem OwnB.block {base : Nat} {v : Value} {l : List UInt8} {w w' : World} (h : OwnB base v l w) (hb : ∀ k, v.ownBlock = some k → w'.heap[k]? = w.heap[k]?) : OwnB base v l w' := by
  refine ⟨h.1, ?_⟩
  rcases h.2 with h1 | ⟨g, cap, cur, h1, h2, h3, h4⟩
  · exact .inl h1
  · exact .inr ⟨g, cap, cur, h1, h2, by rw [hb g (by rw [h1]; rfl)]; exact h3, h4⟩
theorem OwnB.set {base : Nat} {v : Value} {l : List UInt8} {w : World} (h : OwnB base v l w) (p : Addr) (hp : p.block < base) (x : Value) : OwnB base v l (w.setCell p x) :=
  h.block fun k hk => heap_setCell_other _ _ _ _ (by have := ownBase h k hk; omega)

/-- An append as a step of a region that draws. -/
theorem ownB_step {ops : Array Oper} {o : Oper} {a : Act} {K : Act → World → Prop} {Q : Exit → Act → World → Prop} {E : Prop} {base : Nat} {v : Value} {l : List UInt8} {W : World} (HO : OwnB base v l W) (hbase : base ≤ W.heap.size) (bs : List UInt8) (hl : l.length + bs.length ≤ 140737488355328)
    (hgd : o.guard = none) (s x : Operand) (ho : o.op = .call { callee := .builtin .append, args := #[s, x], argTypes := #[82, 82] }) (cs : Array Value) (m c : Nat) (hs : a.eval s = v) (hx : a.eval x = .slice (some ⟨W.heap.size, 0, none⟩) m c) (hcs : cs = (bs.map bv).toArray) (hm : m = bs.length)
    (h : ∀ v1 w1, OwnB base v1 (l ++ bs) w1 → (W.alloc (.cells cs 5)).grownBy w1 v.ownBlock → (v1.ownBlock = v.ownBlock ∨ v1.ownBlock = some (W.heap.size + 1)) → K (a.put o.dst v1) w1) :
    if Region.wanted o (yielded ops a.tmps) = true then Oper.wp Tryz.prog o a (W.alloc (.cells cs 5)) K Q else E := by
  have hw : Region.wanted o (yielded ops a.tmps) = true := by simp [Region.wanted, hgd]
  rw [if_pos hw]
  subst hcs hm
  obtain ⟨i0, hi, hzz⟩ := Option.map_eq_some_iff.1 info_u8b
  simp only [Prod.mk.injEq] at hzz
  obtain ⟨hz0, hz1, hz2⟩ := hzz
  obtain ⟨v1, w1, hrun, hown, hg, _, hat⟩ := run_append_own_at (P := Tryz.prog) (W.alloc (.cells (bs.map bv).toArray 5)) base 82 o.type 5 i0 (.int .u8 0) 1 1 Tryz.underlying82 hi hz0 hz1 hz2 rfl (by omega) v l.length (l.map bv) (HO.alloc _)
    ⟨W.heap.size, 0, none⟩ bs.length c (bs.map bv) (by simp) (World.news_of_block (cs := (bs.map bv).toArray) (t := 5) (fr := (0, 0)) (heap_alloc_new W _)) (by intro u hu; simp at hu; obtain ⟨b, _, rfl⟩ := hu; rfl) (by simp only [maxLen]; omega) (by omega) (by simp; omega)
  unfold Oper.wp execOp
  simp only [ho, resolve, invoke, builtin, Sem.run_bind, Sem.run_pure, Result.andThen_ok, List.map_toArray, List.map_cons, List.map_nil, hs, hx, hrun]
  exact h v1 w1 (by simpa [OwnB] using hown) hg (by simpa using hat)

/-- A sink in block b: these bytes, and whether something was wrong. -/
def Sk (b : Nat) (l : List UInt8) (wr : Bool) (w : World) : Prop := ∃ v, Blk w b #[v, .bool wr] 150 ∧ OwnB (b + 1) v l w
/-- Block k is not the row of the sink in b. -/
def NotRow (w : World) (b k : Nat) : Prop := ∀ v, w.cell? ⟨b, 0, none⟩ = some v → v.ownBlock ≠ some k
def SkKeep (b : Nat) (w w' : World) : Prop := ∀ k, k < w.heap.size → k ≠ b → NotRow w b k → w'.heap[k]? = w.heap[k]? ∧ NotRow w' b k
theorem SkKeep.refl (b : Nat) (w : World) : SkKeep b w w := fun _ _ _ h => ⟨rfl, h⟩
theorem SkKeep.trans {b : Nat} {u v w : World} (h : SkKeep b u v) (hs : u.heap.size ≤ v.heap.size) (k : SkKeep b v w) : SkKeep b u w := fun j h1 h2 h3 =>
  have a := h j h1 h2 h3
  have c := k j (by omega) h2 a.2
  ⟨c.1.trans a.1, c.2⟩
theorem Sk.lt {b : Nat} {l : List UInt8} {wr : Bool} {w : World} (h : Sk b l wr w) : b < w.heap.size := by obtain ⟨v, hB, _⟩ := h; exact hB.lt
theorem Sk.drew {b : Nat} {l : List UInt8} {wr : Bool} {w : World} (h : Sk b l wr w) : Sk b l wr w.drew := h
theorem Sk.flag {b : Nat} {l : List UInt8} {wr : Bool} {w : World} (h : Sk b l wr w) (x : Bool) : Sk b l x (w.setCell ⟨b, 1, none⟩ (.bool x)) ∧ SkKeep b w (w.setCell ⟨b, 1, none⟩ (.bool x)) := by
  obtain ⟨v, hB, hO⟩ := h
  have hB2 : Blk (w.setCell ⟨b, 1, none⟩ (.bool x)) b #[v, .bool x] 150 := by simpa using hB.set 1 (.bool x)
  refine ⟨⟨v, hB2, hO.set ⟨b, 1, none⟩ (by simp) _⟩, fun k _ hk hn => ⟨heap_setCell_other _ _ _ _ (by simpa using hk), fun u hu => ?_⟩⟩
  rw [hB2.cell 0] at hu
  exact hn u (by rw [hB.cell 0]; exact hu)
theorem sk_put {b : Nat} {l xs : List UInt8} {wr : Bool} {W w1 : World} {o : Obj} {v v1 : Value} (hB : Blk W b #[v, .bool wr] 150) (hO : OwnB (b + 1) v l W) (h1 : OwnB (b + 1) v1 (l ++ xs) w1) (hg : (W.alloc o).grownBy w1 v.ownBlock)
    (hat : v1.ownBlock = v.ownBlock ∨ v1.ownBlock = some (W.heap.size + 1)) : Blk w1 b #[v, .bool wr] 150 ∧ Sk b (l ++ xs) wr (w1.setCell ⟨b, 0, none⟩ v1) ∧ Below b W (w1.setCell ⟨b, 0, none⟩ v1) ∧ SkKeep b W (w1.setCell ⟨b, 0, none⟩ v1) := by
  have hob := ownBase hO
  have hlt := hB.lt
  have hal : Below W.heap.size W (W.alloc o) := (Below.refl _ W).alloc (Nat.le_refl _) o
  have hsz : (W.alloc o).heap.size = W.heap.size + 1 := by simp
  have hkeep : ∀ k, k < W.heap.size → some k ≠ v.ownBlock → w1.heap[k]? = W.heap[k]? := fun k hk hne => (hg.block k (by omega) hne).trans (hal.block k hk)
  have hB1 : Blk w1 b #[v, .bool wr] 150 := by
    unfold Blk; rw [hkeep b hlt (fun e => by have := hob b e.symm; omega)]; exact hB
  have hB2 : Blk (w1.setCell ⟨b, 0, none⟩ v1) b #[v1, .bool wr] 150 := by simpa using hB1.set 0 v1
  have hs1 : W.heap.size ≤ w1.heap.size := by have := hg.size; omega
  refine ⟨hB1, ⟨v1, hB2, h1.set ⟨b, 0, none⟩ (by simp) _⟩, ⟨hg.os.trans hal.os, hg.tape.trans hal.tape, hg.output.trans hal.output, by simpa using hs1, fun k hk => ?_⟩, fun k hk hne hn => ⟨?_, fun u hu => ?_⟩⟩
  · rw [heap_setCell_other _ _ _ _ (by simp; omega)]
    exact hkeep k (by omega) (fun e => by have := hob k e.symm; omega)
  · rw [heap_setCell_other _ _ _ _ (by simpa using hne)]
    exact hkeep k hk (fun e => hn v (hB.cell 0) e.symm)
  · rw [hB2.cell 0] at hu
    obtain rfl : v1 = u := by simpa using hu
    rcases hat with e | e <;> rw [e]
    · exact hn v (hB.cell 0)
    · intro h; cases h; omega

def byteAt (v : Int) (k : Nat) : UInt8 := UInt8.ofNat ((v / 2 ^ (8 * k)) % 256).toNat
def numB (v : Int) : Nat → List UInt8
  | 0 => []
  | k + 1 => byteAt v k :: numB v k
theorem numB_len (v : Int) (n : Nat) : (numB v n).length = n := by
  induction n with
  | zero => rfl
  | succ n ih => simp [numB, ih]
theorem byteAt_int (v : Int) (k : Nat) : (v / 2 ^ (8 * k)) % 256 = ((byteAt v k).toNat : Int) := by
  unfold byteAt
  have h0 := Int.emod_nonneg (v / 2 ^ (8 * k)) (show (256 : Int) ≠ 0 by omega)
  have h1 := Int.emod_lt_of_pos (v / 2 ^ (8 * k)) (show (0 : Int) < 256 by omega)
  simp
  omega
def badNum (v : Int) (n : Nat) : Bool := decide (v < 0) || decide (v / 2 ^ (8 * n) ≠ 0)

set_option maxRecDepth 100000 in
set_option maxHeartbeats 1000000 in
theorem sink_number_t (b : Nat) (l : List UInt8) (v : Int) (n : Nat) (w : World) (hS : Sk b l true w) (hn : n ≤ 4) (hl : l.length ≤ 100000) :
    Calls Tryz.prog 102 #[.pointer (some ⟨b, 0, none⟩), .int .i64 v, .int .i64 n] w fun e w' => e = .returned (.tuple #[]) ∧ Sk b (l ++ numB v n) true w' ∧ Below b w w' ∧ SkKeep b w w' := by
  have hfl := hS.flag true
  have H0 := Lib.hid (show Sk b l true (w.setCell ⟨b, 1, none⟩ (.bool true)) ∧ Below b w (w.setCell ⟨b, 1, none⟩ (.bool true)) ∧ SkKeep b w (w.setCell ⟨b, 1, none⟩ (.bool true)) from ⟨hfl.1, Below.setCell (p := ⟨b, 1, none⟩) (Below.refl _ _) (Nat.le_refl _) _, hfl.2⟩)
  obtain ⟨u, hB, hO⟩ := hS
  obtain ⟨A, c, rfl⟩ := OwnB.len hO
  have c1 : w.cell? ⟨b, 1, none⟩ = some (.bool true) := hB.cell 1
  have f0 := fun j => hB.free j
  clear hB hO hfl
  go_enter Tryz.func102, Tryz.ntmps102
  go_wp2
  go_loopw [6] (fun i wr => ∃ (k : Nat) (l' : List UInt8), k ≤ n ∧ i = .int .i64 ((k : Int) - 1) ∧ Hid (l' ++ numB v k = l ++ numB v n ∧ l'.length ≤ 100004 - k) ∧ Hid (Sk b l' true wr ∧ Below b w wr ∧ SkKeep b w wr)) (fun i _ => (intOf i + 1).toNat)
  case atStart => exact ⟨n, l, Nat.le_refl _, by first | rfl | (congr 1; omega), Lib.hid ⟨rfl, by omega⟩, H0⟩
  case round =>
    obtain ⟨k, l', hk, rfl, HL, HS⟩ := hrel
    by_cases hk0 : k = 0
    · subst hk0
      have hl := HL.out.1
      rw [numB, List.append_nil] at hl
      subst hl
      go_wp2
      go_end0
      exact ⟨rfl, HS.out⟩
    · obtain ⟨k, rfl⟩ : ∃ j, k = j + 1 := ⟨k - 1, by omega⟩
      have e : ((k + 1 : Nat) : Int) - 1 = (k : Int) := by omega
      rw [e]
      clear hk0 e
      have e1 := Lib.hid (byteAt_int v k)
      obtain ⟨u, hB, hO⟩ := HS.out.1
      obtain ⟨A, c, rfl⟩ := OwnB.len hO
      have hB' : Blk wr.drew b #[.slice A l'.length c, .bool true] 150 := hB
      have hO' : OwnB (b + 1) (.slice A l'.length c) l' wr.drew := hO
      have c0 : wr.cell? ⟨b, 0, none⟩ = some (.slice A l'.length c) := hB.cell 0
      have f0 := fun j => hB.free j
      have HB := Lib.hid hB'; have HO := Lib.hid hO'
      have hlt := hB.lt
      have HLT := Lib.hid hlt
      clear hB hO hB' hO'
      have e2 : IntKind.i64.wrap (8 * (k : Int)) = 8 * (k : Int) := IntWalk.i64_in _ (by omega)
      have e3 : (0 : Int) ≤ 8 * (k : Int) := by omega
      have e4 : (8 * (k : Int)).toNat = 8 * k := by omega
      have e5 : min (8 * k) 64 = 8 * k := by omega
      have E7 : Hid (IntKind.u8.wrap (v / 2 ^ (8 * k)) = ((byteAt v k).toNat : Int)) := Lib.hid (by rw [← byteAt_int]; rfl)
      have e6 : v / 2 ^ (8 * k) % 256 = ((byteAt v k).toNat : Int) := byteAt_int v k
      clear e1
      go_wp2_with fail
      go_region_law (refine ownB_step HO.out (by have := HLT.out; show b + 1 ≤ wr.drew.heap.size; simp; omega) [byteAt v k] (by have := HL.out.2; simp; omega) rfl _ _ rfl _ 1 1 rfl rfl (by rw [E7.out]; rfl) rfl ?_; intro v1 w1 a1 a2 a3; obtain ⟨A1, c1, rfl⟩ := OwnB.len a1; have HP := Lib.hid (sk_put HB.out HO.out a1 a2 a3); clear a1 a2 a3; have d0 : w1.cell? ⟨b, 0, none⟩ = some (.slice A l'.length c) := HP.out.1.cell 0; have g0 := fun j => HP.out.1.free j)
      all_goals
        have hp := HP.out.2
        simp only [List.length_append, List.length_cons, List.length_nil, Nat.zero_add] at hp
        have hb1 : Below b w wr.drew := ⟨HS.out.2.1.os, HS.out.2.1.tape, HS.out.2.1.output, HS.out.2.1.size, HS.out.2.1.block⟩
        have hk1 : SkKeep b w wr.drew := HS.out.2.2
        have HN := Lib.hid (And.intro hp.1 (And.intro (hb1.trans hp.2.1) (hk1.trans HS.out.2.1.size hp.2.2)))
        have HM : Hid ((l' ++ [byteAt v k]) ++ numB v k = l ++ numB v n ∧ (l' ++ [byteAt v k]).length ≤ 100004 - k) := Lib.hid ⟨by rw [← HL.out.1, numB, List.append_assoc]; rfl, by have := HL.out.2; simp; omega⟩
        clear hp hb1 hk1 HP d0 g0 HL HS HB HO c0 f0 e2 e3 e4 e5 e6 E7 hlt
        go_wp2
        go_roundw
        case rel => exact ⟨k, _, by omega, by go_num, HM, HN⟩
        case measure => simp [intOf]
set_option maxRecDepth 100000 in
set_option maxHeartbeats 1000000 in
theorem sink_number_neg (b : Nat) (l : List UInt8) (v : Int) (n : Nat) (w : World) (hS : Sk b l false w) (hn : n ≤ 4) (hl : l.length ≤ 100000) (hv : v < 0) :
    Calls Tryz.prog 102 #[.pointer (some ⟨b, 0, none⟩), .int .i64 v, .int .i64 n] w fun e w' => e = .returned (.tuple #[]) ∧ Sk b (l ++ numB v n) true w' ∧ Below b w w' ∧ SkKeep b w w' := by
  have hfl := hS.flag true
  have H0 := Lib.hid (show Sk b l true (w.setCell ⟨b, 1, none⟩ (.bool true)) ∧ Below b w (w.setCell ⟨b, 1, none⟩ (.bool true)) ∧ SkKeep b w (w.setCell ⟨b, 1, none⟩ (.bool true)) from ⟨hfl.1, Below.setCell (p := ⟨b, 1, none⟩) (Below.refl _ _) (Nat.le_refl _) _, hfl.2⟩)
  obtain ⟨u, hB, hO⟩ := hS
  obtain ⟨A, c, rfl⟩ := OwnB.len hO
  have c1 : w.cell? ⟨b, 1, none⟩ = some (.bool false) := hB.cell 1
  have f0 := fun j => hB.free j
  clear hB hO hfl
  have t1 : decide (v < 0) = true := decide_eq_true hv
  go_enter Tryz.func102, Tryz.ntmps102
  go_wp2
  clear t1
  go_loopw [6] (fun i wr => ∃ (k : Nat) (l' : List UInt8), k ≤ n ∧ i = .int .i64 ((k : Int) - 1) ∧ Hid (l' ++ numB v k = l ++ numB v n ∧ l'.length ≤ 100004 - k) ∧ Hid (Sk b l' true wr ∧ Below b w wr ∧ SkKeep b w wr)) (fun i _ => (intOf i + 1).toNat)
  case atStart => exact ⟨n, l, Nat.le_refl _, by first | rfl | (congr 1; omega), Lib.hid ⟨rfl, by omega⟩, H0⟩
  case round =>
    obtain ⟨k, l', hk, rfl, HL, HS⟩ := hrel
    by_cases hk0 : k = 0
    · subst hk0
      have hl := HL.out.1
      rw [numB, List.append_nil] at hl
      subst hl
      go_wp2
      go_end0
      exact ⟨rfl, HS.out⟩
    · obtain ⟨k, rfl⟩ : ∃ j, k = j + 1 := ⟨k - 1, by omega⟩
      have e : ((k + 1 : Nat) : Int) - 1 = (k : Int) := by omega
      rw [e]
      clear hk0 e
      have e1 := Lib.hid (byteAt_int v k)
      obtain ⟨u, hB, hO⟩ := HS.out.1
      obtain ⟨A, c, rfl⟩ := OwnB.len hO
      have hB' : Blk wr.drew b #[.slice A l'.length c, .bool true] 150 := hB
      have hO' : OwnB (b + 1) (.slice A l'.length c) l' wr.drew := hO
      have c0 : wr.cell? ⟨b, 0, none⟩ = some (.slice A l'.length c) := hB.cell 0
      have f0 := fun j => hB.free j
      have HB := Lib.hid hB'; have HO := Lib.hid hO'
      have hlt := hB.lt
      have HLT := Lib.hid hlt
      clear hB hO hB' hO'
      have e2 : IntKind.i64.wrap (8 * (k : Int)) = 8 * (k : Int) := IntWalk.i64_in _ (by omega)
      have e3 : (0 : Int) ≤ 8 * (k : Int) := by omega
      have e4 : (8 * (k : Int)).toNat = 8 * k := by omega
      have e5 : min (8 * k) 64 = 8 * k := by omega
      have E7 : Hid (IntKind.u8.wrap (v / 2 ^ (8 * k)) = ((byteAt v k).toNat : Int)) := Lib.hid (by rw [← byteAt_int]; rfl)
      have e6 : v / 2 ^ (8 * k) % 256 = ((byteAt v k).toNat : Int) := byteAt_int v k
      clear e1
      go_wp2_with fail
      go_region_law (refine ownB_step HO.out (by have := HLT.out; show b + 1 ≤ wr.drew.heap.size; simp; omega) [byteAt v k] (by have := HL.out.2; simp; omega) rfl _ _ rfl _ 1 1 rfl rfl (by rw [E7.out]; rfl) rfl ?_; intro v1 w1 a1 a2 a3; obtain ⟨A1, c1, rfl⟩ := OwnB.len a1; have HP := Lib.hid (sk_put HB.out HO.out a1 a2 a3); clear a1 a2 a3; have d0 : w1.cell? ⟨b, 0, none⟩ = some (.slice A l'.length c) := HP.out.1.cell 0; have g0 := fun j => HP.out.1.free j)
      all_goals
        have hp := HP.out.2
        simp only [List.length_append, List.length_cons, List.length_nil, Nat.zero_add] at hp
        have hb1 : Below b w wr.drew := ⟨HS.out.2.1.os, HS.out.2.1.tape, HS.out.2.1.output, HS.out.2.1.size, HS.out.2.1.block⟩
        have hk1 : SkKeep b w wr.drew := HS.out.2.2
        have HN := Lib.hid (And.intro hp.1 (And.intro (hb1.trans hp.2.1) (hk1.trans HS.out.2.1.size hp.2.2)))
        have HM : Hid ((l' ++ [byteAt v k]) ++ numB v k = l ++ numB v n ∧ (l' ++ [byteAt v k]).length ≤ 100004 - k) := Lib.hid ⟨by rw [← HL.out.1, numB, List.append_assoc]; rfl, by have := HL.out.2; simp; omega⟩
        clear hp hb1 hk1 HP d0 g0 HL HS HB HO c0 f0 e2 e3 e4 e5 e6 E7 hlt
        go_wp2
        go_roundw
        case rel => exact ⟨k, _, by omega, by go_num, HM, HN⟩
        case measure => simp [intOf]
set_option maxRecDepth 100000 in
set_option maxHeartbeats 1000000 in
theorem sink_number_big (b : Nat) (l : List UInt8) (v : Int) (n : Nat) (w : World) (hS : Sk b l false w) (hn : n ≤ 4) (hl : l.length ≤ 100000) (hv : 0 ≤ v) (hq : v / 2 ^ (8 * n) ≠ 0) :
    Calls Tryz.prog 102 #[.pointer (some ⟨b, 0, none⟩), .int .i64 v, .int .i64 n] w fun e w' => e = .returned (.tuple #[]) ∧ Sk b (l ++ numB v n) true w' ∧ Below b w w' ∧ SkKeep b w w' := by
  have hfl := hS.flag true
  have H0 := Lib.hid (show Sk b l true (w.setCell ⟨b, 1, none⟩ (.bool true)) ∧ Below b w (w.setCell ⟨b, 1, none⟩ (.bool true)) ∧ SkKeep b w (w.setCell ⟨b, 1, none⟩ (.bool true)) from ⟨hfl.1, Below.setCell (p := ⟨b, 1, none⟩) (Below.refl _ _) (Nat.le_refl _) _, hfl.2⟩)
  obtain ⟨u, hB, hO⟩ := hS
  obtain ⟨A, c, rfl⟩ := OwnB.len hO
  have c1 : w.cell? ⟨b, 1, none⟩ = some (.bool false) := hB.cell 1
  have f0 := fun j => hB.free j
  clear hB hO hfl
  have t1 : decide (v < 0) = false := decide_eq_false (by omega)
  have t2 : (v / 2 ^ (8 * n) != 0) = true := by simpa using hq
  have q2 : IntKind.i64.wrap (8 * (n : Int)) = 8 * (n : Int) := IntWalk.i64_in _ (by omega)
  have q3 : (0 : Int) ≤ 8 * (n : Int) := by omega
  have q4 : (8 * (n : Int)).toNat = 8 * n := by omega
  have q5 : min (8 * n) 64 = 8 * n := by omega
  go_enter Tryz.func102, Tryz.ntmps102
  go_wp2
  clear t1 t2 q2 q3 q4 q5
  go_loopw [6] (fun i wr => ∃ (k : Nat) (l' : List UInt8), k ≤ n ∧ i = .int .i64 ((k : Int) - 1) ∧ Hid (l' ++ numB v k = l ++ numB v n ∧ l'.length ≤ 100004 - k) ∧ Hid (Sk b l' true wr ∧ Below b w wr ∧ SkKeep b w wr)) (fun i _ => (intOf i + 1).toNat)
  case atStart => exact ⟨n, l, Nat.le_refl _, by first | rfl | (congr 1; omega), Lib.hid ⟨rfl, by omega⟩, H0⟩
  case round =>
    obtain ⟨k, l', hk, rfl, HL, HS⟩ := hrel
    by_cases hk0 : k = 0
    · subst hk0
      have hl := HL.out.1
      rw [numB, List.append_nil] at hl
      subst hl
      go_wp2
      go_end0
      exact ⟨rfl, HS.out⟩
    · obtain ⟨k, rfl⟩ : ∃ j, k = j + 1 := ⟨k - 1, by omega⟩
      have e : ((k + 1 : Nat) : Int) - 1 = (k : Int) := by omega
      rw [e]
      clear hk0 e
      have e1 := Lib.hid (byteAt_int v k)
      obtain ⟨u, hB, hO⟩ := HS.out.1
      obtain ⟨A, c, rfl⟩ := OwnB.len hO
      have hB' : Blk wr.drew b #[.slice A l'.length c, .bool true] 150 := hB
      have hO' : OwnB (b + 1) (.slice A l'.length c) l' wr.drew := hO
      have c0 : wr.cell? ⟨b, 0, none⟩ = some (.slice A l'.length c) := hB.cell 0
      have f0 := fun j => hB.free j
      have HB := Lib.hid hB'; have HO := Lib.hid hO'
      have hlt := hB.lt
      have HLT := Lib.hid hlt
      clear hB hO hB' hO'
      have e2 : IntKind.i64.wrap (8 * (k : Int)) = 8 * (k : Int) := IntWalk.i64_in _ (by omega)
      have e3 : (0 : Int) ≤ 8 * (k : Int) := by omega
      have e4 : (8 * (k : Int)).toNat = 8 * k := by omega
      have e5 : min (8 * k) 64 = 8 * k := by omega
      have E7 : Hid (IntKind.u8.wrap (v / 2 ^ (8 * k)) = ((byteAt v k).toNat : Int)) := Lib.hid (by rw [← byteAt_int]; rfl)
      have e6 : v / 2 ^ (8 * k) % 256 = ((byteAt v k).toNat : Int) := byteAt_int v k
      clear e1
      go_wp2_with fail
      go_region_law (refine ownB_step HO.out (by have := HLT.out; show b + 1 ≤ wr.drew.heap.size; simp; omega) [byteAt v k] (by have := HL.out.2; simp; omega) rfl _ _ rfl _ 1 1 rfl rfl (by rw [E7.out]; rfl) rfl ?_; intro v1 w1 a1 a2 a3; obtain ⟨A1, c1, rfl⟩ := OwnB.len a1; have HP := Lib.hid (sk_put HB.out HO.out a1 a2 a3); clear a1 a2 a3; have d0 : w1.cell? ⟨b, 0, none⟩ = some (.slice A l'.length c) := HP.out.1.cell 0; have g0 := fun j => HP.out.1.free j)
      all_goals
        have hp := HP.out.2
        simp only [List.length_append, List.length_cons, List.length_nil, Nat.zero_add] at hp
        have hb1 : Below b w wr.drew := ⟨HS.out.2.1.os, HS.out.2.1.tape, HS.out.2.1.output, HS.out.2.1.size, HS.out.2.1.block⟩
        have hk1 : SkKeep b w wr.drew := HS.out.2.2
        have HN := Lib.hid (And.intro hp.1 (And.intro (hb1.trans hp.2.1) (hk1.trans HS.out.2.1.size hp.2.2)))
        have HM : Hid ((l' ++ [byteAt v k]) ++ numB v k = l ++ numB v n ∧ (l' ++ [byteAt v k]).length ≤ 100004 - k) := Lib.hid ⟨by rw [← HL.out.1, numB, List.append_assoc]; rfl, by have := HL.out.2; simp; omega⟩
        clear hp hb1 hk1 HP d0 g0 HL HS HB HO c0 f0 e2 e3 e4 e5 e6 E7 hlt
        go_wp2
        go_roundw
        case rel => exact ⟨k, _, by omega, by go_num, HM, HN⟩
        case measure => simp [intOf]
set_option maxRecDepth 100000 in
set_option maxHeartbeats 1000000 in
theorem sink_number_ok (b : Nat) (l : List UInt8) (v : Int) (n : Nat) (w : World) (hS : Sk b l false w) (hn : n ≤ 4) (hl : l.length ≤ 100000) (hv : 0 ≤ v) (hq : v / 2 ^ (8 * n) = 0) :
    Calls Tryz.prog 102 #[.pointer (some ⟨b, 0, none⟩), .int .i64 v, .int .i64 n] w fun e w' => e = .returned (.tuple #[]) ∧ Sk b (l ++ numB v n) false w' ∧ Below b w w' ∧ SkKeep b w w' := by
  have hfl := hS.flag false
  have H0 := Lib.hid (show Sk b l false (w.setCell ⟨b, 1, none⟩ (.bool false)) ∧ Below b w (w.setCell ⟨b, 1, none⟩ (.bool false)) ∧ SkKeep b w (w.setCell ⟨b, 1, none⟩ (.bool false)) from ⟨hfl.1, Below.setCell (p := ⟨b, 1, none⟩) (Below.refl _ _) (Nat.le_refl _) _, hfl.2⟩)
  obtain ⟨u, hB, hO⟩ := hS
  obtain ⟨A, c, rfl⟩ := OwnB.len hO
  have c1 : w.cell? ⟨b, 1, none⟩ = some (.bool false) := hB.cell 1
  have f0 := fun j => hB.free j
  clear hB hO hfl
  have t1 : decide (v < 0) = false := decide_eq_false (by omega)
  have t2 : (v / 2 ^ (8 * n) != 0) = false := by simpa using hq
  clear hq
  have q2 : IntKind.i64.wrap (8 * (n : Int)) = 8 * (n : Int) := IntWalk.i64_in _ (by omega)
  have q3 : (0 : Int) ≤ 8 * (n : Int) := by omega
  have q4 : (8 * (n : Int)).toNat = 8 * n := by omega
  have q5 : min (8 * n) 64 = 8 * n := by omega
  go_enter Tryz.func102, Tryz.ntmps102
  go_wp2
  clear t1 t2 q2 q3 q4 q5
  go_loopw [6] (fun i wr => ∃ (k : Nat) (l' : List UInt8), k ≤ n ∧ i = .int .i64 ((k : Int) - 1) ∧ Hid (l' ++ numB v k = l ++ numB v n ∧ l'.length ≤ 100004 - k) ∧ Hid (Sk b l' false wr ∧ Below b w wr ∧ SkKeep b w wr)) (fun i _ => (intOf i + 1).toNat)
  case atStart => exact ⟨n, l, Nat.le_refl _, by first | rfl | (congr 1; omega), Lib.hid ⟨rfl, by omega⟩, H0⟩
  case round =>
    obtain ⟨k, l', hk, rfl, HL, HS⟩ := hrel
    by_cases hk0 : k = 0
    · subst hk0
      have hl := HL.out.1
      rw [numB, List.append_nil] at hl
      subst hl
      go_wp2
      go_end0
      exact ⟨rfl, HS.out⟩
    · obtain ⟨k, rfl⟩ : ∃ j, k = j + 1 := ⟨k - 1, by omega⟩
      have e : ((k + 1 : Nat) : Int) - 1 = (k : Int) := by omega
      rw [e]
      clear hk0 e
      have e1 := Lib.hid (byteAt_int v k)
      obtain ⟨u, hB, hO⟩ := HS.out.1
      obtain ⟨A, c, rfl⟩ := OwnB.len hO
      have hB' : Blk wr.drew b #[.slice A l'.length c, .bool false] 150 := hB
      have hO' : OwnB (b + 1) (.slice A l'.length c) l' wr.drew := hO
      have c0 : wr.cell? ⟨b, 0, none⟩ = some (.slice A l'.length c) := hB.cell 0
      have f0 := fun j => hB.free j
      have HB := Lib.hid hB'; have HO := Lib.hid hO'
      have hlt := hB.lt
      have HLT := Lib.hid hlt
      clear hB hO hB' hO'
      have e2 : IntKind.i64.wrap (8 * (k : Int)) = 8 * (k : Int) := IntWalk.i64_in _ (by omega)
      have e3 : (0 : Int) ≤ 8 * (k : Int) := by omega
      have e4 : (8 * (k : Int)).toNat = 8 * k := by omega
      have e5 : min (8 * k) 64 = 8 * k := by omega
      have E7 : Hid (IntKind.u8.wrap (v / 2 ^ (8 * k)) = ((byteAt v k).toNat : Int)) := Lib.hid (by rw [← byteAt_int]; rfl)
      have e6 : v / 2 ^ (8 * k) % 256 = ((byteAt v k).toNat : Int) := byteAt_int v k
      clear e1
      go_wp2_with fail
      go_region_law (refine ownB_step HO.out (by have := HLT.out; show b + 1 ≤ wr.drew.heap.size; simp; omega) [byteAt v k] (by have := HL.out.2; simp; omega) rfl _ _ rfl _ 1 1 rfl rfl (by rw [E7.out]; rfl) rfl ?_; intro v1 w1 a1 a2 a3; obtain ⟨A1, c1, rfl⟩ := OwnB.len a1; have HP := Lib.hid (sk_put HB.out HO.out a1 a2 a3); clear a1 a2 a3; have d0 : w1.cell? ⟨b, 0, none⟩ = some (.slice A l'.length c) := HP.out.1.cell 0; have g0 := fun j => HP.out.1.free j)
      all_goals
        have hp := HP.out.2
        simp only [List.length_append, List.length_cons, List.length_nil, Nat.zero_add] at hp
        have hb1 : Below b w wr.drew := ⟨HS.out.2.1.os, HS.out.2.1.tape, HS.out.2.1.output, HS.out.2.1.size, HS.out.2.1.block⟩
        have hk1 : SkKeep b w wr.drew := HS.out.2.2
        have HN := Lib.hid (And.intro hp.1 (And.intro (hb1.trans hp.2.1) (hk1.trans HS.out.2.1.size hp.2.2)))
        have HM : Hid ((l' ++ [byteAt v k]) ++ numB v k = l ++ numB v n ∧ (l' ++ [byteAt v k]).length ≤ 100004 - k) := Lib.hid ⟨by rw [← HL.out.1, numB, List.append_assoc]; rfl, by have := HL.out.2; simp; omega⟩
        clear hp hb1 hk1 HP d0 g0 HL HS HB HO c0 f0 e2 e3 e4 e5 e6 E7 hlt
        go_wp2
        go_roundw
        case rel => exact ⟨k, _, by omega, by go_num, HM, HN⟩
        case measure => simp [intOf]
theorem sink_number (b : Nat) (l : List UInt8) (wr : Bool) (v : Int) (n : Nat) (w : World) (hS : Sk b l wr w) (hn : n ≤ 4) (hl : l.length ≤ 100000) :
    Calls Tryz.prog 102 #[.pointer (some ⟨b, 0, none⟩), .int .i64 v, .int .i64 n] w fun e w' => e = .returned (.tuple #[]) ∧ Sk b (l ++ numB v n) (wr || badNum v n) w' ∧ Below b w w' ∧ SkKeep b w w' := by
  cases wr with
  | true => exact sink_number_t b l v n w hS hn hl
  | false =>
    by_cases hv : v < 0
    · have : (false || badNum v n) = true := by simp [badNum, hv]
      rw [this]; exact sink_number_neg b l v n w hS hn hl hv
    · by_cases hq : v / 2 ^ (8 * n) = 0
      · have : (false || badNum v n) = false := by simp [badNum, hv, hq]
        rw [this]; exact sink_number_ok b l v n w hS hn hl (by omega) hq
      · have : (false || badNum v n) = true := by simp [badNum, hq]
        rw [this]; exact sink_number_big b l v n w hS hn hl (by omega) hq
end Go.Proofs.YtkhpcagoggglcaaGreatDoor

/- data's sink: texts. -/
namespace Go.Proofs.YtkhpcagoggglcaaGreatDoor
open Go.RowKit

theorem strCells_bv (s : ByteArray) : Lib.strCells s = s.data.toList.map bv := by
  simp [Lib.strCells, bv]
theorem ownB_string {ops : Array Oper} {rest : List Oper} {o : Oper} {a : Act} {Q : Exit → Act → World → Prop} {base : Nat} {v : Value} {l : List UInt8} {W : World} (HO : OwnB base v l W) (hbase : base ≤ W.heap.size) (t : ByteArray) (hl : l.length + t.size ≤ 140737488355328)
    (hgd : o.guard = none) (s x : Operand) (ho : o.op = .call { callee := .builtin .append, args := #[s, x], argTypes := #[82, 9] }) (hs : a.eval s = v) (hx : a.eval x = .string t)
    (h : ∀ v1 w1, OwnB base v1 (l ++ t.data.toList) w1 → W.grownBy w1 v.ownBlock → wpList Tryz.prog ops Q rest (a.put o.dst v1) w1) : wpList Tryz.prog ops Q (o :: rest) a W := by
  obtain ⟨i0, hi, hzz⟩ := Option.map_eq_some_iff.1 info_u8b
  simp only [Prod.mk.injEq] at hzz
  obtain ⟨hz0, hz1, hz2⟩ := hzz
  refine Lib.wpList_append_own_string W hgd s x 82 9 ho base 5 i0 Tryz.underlying82 Tryz.underlying9 hi hz0 hz1 hz2 v l.length (l.map bv) hs HO t hx (by simp only [maxLen]; omega) hl hbase ?_
  intro v1 w1 h1 h2 _
  refine h v1 w1 ?_ h2
  have e : (l ++ t.data.toList).length = l.length + t.size := by simp
  unfold OwnB
  rw [e, List.map_append, ← strCells_bv]
  exact h1

theorem sk_string {b : Nat} {l xs : List UInt8} {wr : Bool} {W w1 : World} {v v1 : Value} (hB : Blk W b #[v, .bool wr] 150) (hO : OwnB (b + 1) v l W) (h1 : OwnB (b + 1) v1 (l ++ xs) w1) (hg : W.grownBy w1 v.ownBlock) :
    Blk w1 b #[v, .bool wr] 150 ∧ Sk b (l ++ xs) wr (w1.setCell ⟨b, 0, none⟩ v1) ∧ Below b W (w1.setCell ⟨b, 0, none⟩ v1) := by
  have hob := ownBase hO
  have hlt := hB.lt
  have hkeep : ∀ k, k < W.heap.size → some k ≠ v.ownBlock → w1.heap[k]? = W.heap[k]? := fun k hk hne => hg.block k hk hne
  have hB1 : Blk w1 b #[v, .bool wr] 150 := by
    unfold Blk; rw [hkeep b hlt (fun e => by have := hob b e.symm; omega)]; exact hB
  have hB2 : Blk (w1.setCell ⟨b, 0, none⟩ v1) b #[v1, .bool wr] 150 := by simpa using hB1.set 0 v1
  have hs1 : W.heap.size ≤ w1.heap.size := hg.size
  refine ⟨hB1, ⟨v1, hB2, h1.set ⟨b, 0, none⟩ (by simp) _⟩, ⟨hg.os, hg.tape, hg.output, by simpa using hs1, fun k hk => ?_⟩⟩
  rw [heap_setCell_other _ _ _ _ (by simp; omega)]
  exact hkeep k (by omega) (fun e => by have := hob k e.symm; omega)
theorem Sk.below {b : Nat} {l : List UInt8} {wr : Bool} {w w' : World} (h : Sk b l wr w) (hb : Below w.heap.size w w') : Sk b l wr w' := by
  obtain ⟨v, hB, hO⟩ := h
  exact ⟨v, hB.below hb hB.lt, hO.block fun k hk => by
    rcases hO.2 with ⟨rfl, _⟩ | ⟨g, cap, cur, rfl, _, hg, _⟩
    · cases hk
    · obtain rfl : g = k := by simpa [Value.ownBlock] using hk
      exact hb.block g (lt_of_block hg)⟩

set_option maxRecDepth 100000 in
theorem sink_bytes_t (b : Nat) (l : List UInt8) (s : ByteArray) (n : Int) (w : World) (hS : Sk b l true w) (hl : l.length + s.size ≤ 140737488355328) :
    Calls Tryz.prog 104 #[.pointer (some ⟨b, 0, none⟩), .string s, .int .i64 n] w fun e w' => e = .returned (.tuple #[]) ∧ Sk b (l ++ s.data.toList) true w' ∧ Below b w w' := by
  obtain ⟨u, hB, hO⟩ := hS
  obtain ⟨A, c, rfl⟩ := OwnB.len hO
  have c0 : w.cell? ⟨b, 0, none⟩ = some (.slice A l.length c) := hB.cell 0
  have c1 : w.cell? ⟨b, 1, none⟩ = some (.bool true) := hB.cell 1
  have f0 := fun j => hB.free j
  have HB : Hid (Blk (w.setCell ⟨b, 1, none⟩ (.bool true)) b #[.slice A l.length c, .bool true] 150) := Lib.hid (by simpa using hB.set 1 (.bool true))
  have HO : Hid (OwnB (b + 1) (.slice A l.length c) l (w.setCell ⟨b, 1, none⟩ (.bool true))) := Lib.hid (hO.set ⟨b, 1, none⟩ (by simp) _)
  have HBW : Hid (Below b w (w.setCell ⟨b, 1, none⟩ (.bool true))) := Lib.hid (Below.setCell (p := ⟨b, 1, none⟩) (Below.refl _ _) (Nat.le_refl _) _)
  have HLT := Lib.hid hB.lt
  clear hB hO
  go_enter Tryz.func104, Tryz.ntmps104
  go_wp2_with (at_builtin; refine ownB_string HO.out (by have := HLT.out; simp; omega) s hl rfl (.tmp 23) (.tmp 24) rfl rfl rfl ?_; intro v1 w1 a1 a2; obtain ⟨A1, c2, rfl⟩ := OwnB.len a1; have HP := Lib.hid (sk_string HB.out HO.out a1 a2); have d0 := HP.out.1.cell 0; have g0 := fun j => HP.out.1.free j; clear a1 a2)
  go_end0
  have hp := HP.out.2
  rw [show (l ++ s.data.toList).length = l.length + s.size by simp] at hp
  exact ⟨rfl, hp.1, HBW.out.trans hp.2⟩
set_option maxRecDepth 100000 in
theorem sink_bytes_few (b : Nat) (l : List UInt8) (s : ByteArray) (n : Int) (w : World) (hS : Sk b l false w) (hl : l.length + s.size ≤ 140737488355328) (hv : (s.size : Int) < n) :
    Calls Tryz.prog 104 #[.pointer (some ⟨b, 0, none⟩), .string s, .int .i64 n] w fun e w' => e = .returned (.tuple #[]) ∧ Sk b (l ++ s.data.toList) true w' ∧ Below b w w' := by
  obtain ⟨u, hB, hO⟩ := hS
  obtain ⟨A, c, rfl⟩ := OwnB.len hO
  have c0 : w.cell? ⟨b, 0, none⟩ = some (.slice A l.length c) := hB.cell 0
  have c1 : w.cell? ⟨b, 1, none⟩ = some (.bool false) := hB.cell 1
  have f0 := fun j => hB.free j
  have HB : Hid (Blk (w.setCell ⟨b, 1, none⟩ (.bool true)) b #[.slice A l.length c, .bool true] 150) := Lib.hid (by simpa using hB.set 1 (.bool true))
  have HO : Hid (OwnB (b + 1) (.slice A l.length c) l (w.setCell ⟨b, 1, none⟩ (.bool true))) := Lib.hid (hO.set ⟨b, 1, none⟩ (by simp) _)
  have HBW : Hid (Below b w (w.setCell ⟨b, 1, none⟩ (.bool true))) := Lib.hid (Below.setCell (p := ⟨b, 1, none⟩) (Below.refl _ _) (Nat.le_refl _) _)
  have HLT := Lib.hid hB.lt
  clear hB hO
  have t1 : decide ((s.size : Int) < n) = true := decide_eq_true hv
  go_enter Tryz.func104, Tryz.ntmps104
  go_wp2_with (at_builtin; refine ownB_string HO.out (by have := HLT.out; simp; omega) s hl rfl (.tmp 23) (.tmp 24) rfl rfl rfl ?_; intro v1 w1 a1 a2; obtain ⟨A1, c2, rfl⟩ := OwnB.len a1; have HP := Lib.hid (sk_string HB.out HO.out a1 a2); have d0 := HP.out.1.cell 0; have g0 := fun j => HP.out.1.free j; clear a1 a2)
  go_end0
  have hp := HP.out.2
  rw [show (l ++ s.data.toList).length = l.length + s.size by simp] at hp
  exact ⟨rfl, hp.1, HBW.out.trans hp.2⟩
set_option maxRecDepth 100000 in
theorem sink_bytes_ok (b : Nat) (l : List UInt8) (s : ByteArray) (n : Int) (w : World) (hS : Sk b l false w) (hl : l.length + s.size ≤ 140737488355328) (hv : n ≤ (s.size : Int)) :
    Calls Tryz.prog 104 #[.pointer (some ⟨b, 0, none⟩), .string s, .int .i64 n] w fun e w' => e = .returned (.tuple #[]) ∧ Sk b (l ++ s.data.toList) false w' ∧ Below b w w' := by
  obtain ⟨u, hB, hO⟩ := hS
  obtain ⟨A, c, rfl⟩ := OwnB.len hO
  have c0 : w.cell? ⟨b, 0, none⟩ = some (.slice A l.length c) := hB.cell 0
  have c1 : w.cell? ⟨b, 1, none⟩ = some (.bool false) := hB.cell 1
  have f0 := fun j => hB.free j
  have HB : Hid (Blk (w.setCell ⟨b, 1, none⟩ (.bool false)) b #[.slice A l.length c, .bool false] 150) := Lib.hid (by simpa using hB.set 1 (.bool false))
  have HO : Hid (OwnB (b + 1) (.slice A l.length c) l (w.setCell ⟨b, 1, none⟩ (.bool false))) := Lib.hid (hO.set ⟨b, 1, none⟩ (by simp) _)
  have HBW : Hid (Below b w (w.setCell ⟨b, 1, none⟩ (.bool false))) := Lib.hid (Below.setCell (p := ⟨b, 1, none⟩) (Below.refl _ _) (Nat.le_refl _) _)
  have HLT := Lib.hid hB.lt
  clear hB hO
  have t1 : decide ((s.size : Int) < n) = false := decide_eq_false (by omega)
  go_enter Tryz.func104, Tryz.ntmps104
  go_wp2_with (at_builtin; refine ownB_string HO.out (by have := HLT.out; simp; omega) s hl rfl (.tmp 23) (.tmp 24) rfl rfl rfl ?_; intro v1 w1 a1 a2; obtain ⟨A1, c2, rfl⟩ := OwnB.len a1; have HP := Lib.hid (sk_string HB.out HO.out a1 a2); have d0 := HP.out.1.cell 0; have g0 := fun j => HP.out.1.free j; clear a1 a2)
  go_end0
  have hp := HP.out.2
  rw [show (l ++ s.data.toList).length = l.length + s.size by simp] at hp
  exact ⟨rfl, hp.1, HBW.out.trans hp.2⟩
theorem sink_bytes (b : Nat) (l : List UInt8) (wr : Bool) (s : ByteArray) (n : Int) (w : World) (hS : Sk b l wr w) (hl : l.length + s.size ≤ 140737488355328) :
    Calls Tryz.prog 104 #[.pointer (some ⟨b, 0, none⟩), .string s, .int .i64 n] w fun e w' => e = .returned (.tuple #[]) ∧ Sk b (l ++ s.data.toList) (wr || decide ((s.size : Int) < n)) w' ∧ Below b w w' := by
  cases wr with
  | true => exact sink_bytes_t b l s n w hS hl
  | false =>
    by_cases h : (s.size : Int) < n
    · rw [decide_eq_true h]; exact sink_bytes_few b l s n w hS hl h
    · rw [decide_eq_false h]; exact sink_bytes_ok b l s n w hS hl (by omega)

set_option maxRecDepth 100000 in
theorem sink_name_t (b : Nat) (l : List UInt8) (s : ByteArray) (w : World) (hS : Sk b l true w) (hl : l.length + s.size ≤ 140737488355328) :
    Calls Tryz.prog 103 #[.pointer (some ⟨b, 0, none⟩), .string s] w fun e w' => e = .returned (.tuple #[]) ∧ Sk b (l ++ s.data.toList) true w' ∧ Below b w w' := by
  obtain ⟨u, hB, hO⟩ := hS
  obtain ⟨A, c, rfl⟩ := OwnB.len hO
  have c0 : w.cell? ⟨b, 0, none⟩ = some (.slice A l.length c) := hB.cell 0
  have c1 : w.cell? ⟨b, 1, none⟩ = some (.bool true) := hB.cell 1
  have f0 := fun j => hB.free j
  have HB : Hid (Blk (w.setCell ⟨b, 1, none⟩ (.bool true)) b #[.slice A l.length c, .bool true] 150) := Lib.hid (by simpa using hB.set 1 (.bool true))
  have HO : Hid (OwnB (b + 1) (.slice A l.length c) l (w.setCell ⟨b, 1, none⟩ (.bool true))) := Lib.hid (hO.set ⟨b, 1, none⟩ (by simp) _)
  have HBW : Hid (Below b w (w.setCell ⟨b, 1, none⟩ (.bool true))) := Lib.hid (Below.setCell (p := ⟨b, 1, none⟩) (Below.refl _ _) (Nat.le_refl _) _)
  have HLT := Lib.hid hB.lt
  clear hB hO
  go_enter Tryz.func103, Tryz.ntmps103
  go_wp2_with (at_builtin; refine ownB_string HO.out (by have := HLT.out; simp; omega) s hl rfl (.tmp 20) (.tmp 21) rfl rfl rfl ?_; intro v1 w1 a1 a2; obtain ⟨A1, c2, rfl⟩ := OwnB.len a1; have HP := Lib.hid (sk_string HB.out HO.out a1 a2); have d0 := HP.out.1.cell 0; have g0 := fun j => HP.out.1.free j; clear a1 a2)
  go_end0
  have hp := HP.out.2
  rw [show (l ++ s.data.toList).length = l.length + s.size by simp] at hp
  exact ⟨rfl, hp.1, HBW.out.trans hp.2⟩
set_option maxRecDepth 100000 in
theorem sink_name_f (b : Nat) (l : List UInt8) (s : ByteArray) (w : World) (hS : Sk b l false w) (hl : l.length + s.size ≤ 140737488355328) :
    Calls Tryz.prog 103 #[.pointer (some ⟨b, 0, none⟩), .string s] w fun e w' => e = .returned (.tuple #[]) ∧ Sk b (l ++ s.data.toList) (!nameRight s) w' ∧ Below b w w' := by
  have hr := fun w => name_right s w
  generalize nameRight s = q at hr ⊢
  have HR := Lib.hid hr
  clear hr
  have c1 : w.cell? ⟨b, 1, none⟩ = some (.bool false) := by obtain ⟨u, hB, hO⟩ := hS; exact hB.cell 1
  have HS := Lib.hid hS
  clear hS
  go_enter Tryz.func103, Tryz.ntmps103
  go_wp2_with (go_at_call 24; refine (Hid.out (p := _) ?_))
  refine Lib.hid ?_
  clear c1
  refine (HR.out _).mono ?_
  rintro e W ⟨rfl, hb⟩
  have hS := HS.out.below hb
  have HB0 := Lib.hid (hb.mono (Nat.le_of_lt HS.out.lt))
  clear HS hb
  obtain ⟨u, hB, hO⟩ := hS
  obtain ⟨A, c, rfl⟩ := OwnB.len hO
  have c0 : W.cell? ⟨b, 0, none⟩ = some (.slice A l.length c) := hB.cell 0
  have c1 : W.cell? ⟨b, 1, none⟩ = some (.bool false) := hB.cell 1
  have f0 := fun j => hB.free j
  have HB : Hid (Blk (W.setCell ⟨b, 1, none⟩ (.bool (!q))) b #[.slice A l.length c, .bool (!q)] 150) := Lib.hid (by simpa using hB.set 1 (.bool (!q)))
  have HO : Hid (OwnB (b + 1) (.slice A l.length c) l (W.setCell ⟨b, 1, none⟩ (.bool (!q)))) := Lib.hid (hO.set ⟨b, 1, none⟩ (by simp) _)
  have HBW : Hid (Below b w (W.setCell ⟨b, 1, none⟩ (.bool (!q)))) := Lib.hid (Below.setCell (p := ⟨b, 1, none⟩) HB0.out (Nat.le_refl _) _)
  have HLT := Lib.hid hB.lt
  clear hB hO
  simp only []
  go_wp2_with (at_builtin; refine ownB_string HO.out (by have := HLT.out; simp; omega) s hl rfl (.tmp 20) (.tmp 21) rfl rfl rfl ?_; intro v1 w1 a1 a2; obtain ⟨A1, c2, rfl⟩ := OwnB.len a1; have HP := Lib.hid (sk_string HB.out HO.out a1 a2); have d0 := HP.out.1.cell 0; have g0 := fun j => HP.out.1.free j; clear a1 a2)
  go_end0
  have hp := HP.out.2
  rw [show (l ++ s.data.toList).length = l.length + s.size by simp] at hp
  exact ⟨rfl, hp.1, HBW.out.trans hp.2⟩
theorem sink_name (b : Nat) (l : List UInt8) (wr : Bool) (s : ByteArray) (w : World) (hS : Sk b l wr w) (hl : l.length + s.size ≤ 140737488355328) :
    Calls Tryz.prog 103 #[.pointer (some ⟨b, 0, none⟩), .string s] w fun e w' => e = .returned (.tuple #[]) ∧ Sk b (l ++ s.data.toList) (wr || !nameRight s) w' ∧ Below b w w' := by
  cases wr with
  | true => exact sink_name_t b l s w hS hl
  | false => exact sink_name_f b l s w hS hl

def bsOf (l : List UInt8) : ByteArray := ⟨l.toArray⟩
/-- What a sink tells in the end. -/
def doneR (l : List UInt8) (wr : Bool) : Option ByteArray := if wr = false ∧ l.length ≤ 2000 then some (bsOf l) else none
def DoneP (w : World) (p : Option ByteArray) (e : Ending) (w' : World) : Prop := e = .returned (.tuple #[.string (p.getD ⟨#[]⟩), .int .i64 (if p.isSome then 0 else 6)]) ∧ Below w.heap.size w w'
set_option maxRecDepth 100000 in
theorem sink_done (b : Nat) (l : List UInt8) (wr : Bool) (w : World) (hS : Sk b l wr w) : Calls Tryz.prog 105 #[.pointer (some ⟨b, 0, none⟩)] w (DoneP w (doneR l wr)) := by
  obtain ⟨u, hB, hO⟩ := hS
  have hcv := hO.string
  obtain ⟨A, c, rfl⟩ := OwnB.len hO
  have c0 : w.cell? ⟨b, 0, none⟩ = some (.slice A l.length c) := hB.cell 0
  have c1 : w.cell? ⟨b, 1, none⟩ = some (.bool wr) := hB.cell 1
  clear hB hO
  cases wr with
  | true =>
    have e : doneR l true = none := by simp [doneR]
    rw [e]
    clear hcv
    go_enter Tryz.func105, Tryz.ntmps105
    go_wp2
    go_ret2
    exact ⟨rfl, Below.refl _ _⟩
  | false =>
    by_cases h : l.length ≤ 2000
    · have e : doneR l false = some (bsOf l) := by simp [doneR, h]
      have t1 : decide ((2000 : Int) < l.length) = false := decide_eq_false (by omega)
      rw [e]
      clear h e
      go_enter Tryz.func105, Tryz.ntmps105
      go_wp2
      go_ret2
      exact ⟨rfl, Below.refl _ _⟩
    · have e : doneR l false = none := by simp [doneR, h]
      have t1 : decide ((2000 : Int) < l.length) = true := decide_eq_true (by omega)
      rw [e]
      clear h e hcv
      go_enter Tryz.func105, Tryz.ntmps105
      go_wp2
      go_ret2
      exact ⟨rfl, Below.refl _ _⟩
end Go.Proofs.YtkhpcagoggglcaaGreatDoor

/- data.OfSig. Lines printed by wip/tools/ofsig.py. -/
namespace Go.Proofs.YtkhpcagoggglcaaGreatDoor
open Go.RowKit

theorem NotRow.below {b k : Nat} {l : List UInt8} {wr : Bool} {w w' : World} (h : NotRow w b k) (hS : Sk b l wr w) (hb : Below w.heap.size w w') : NotRow w' b k := by
  obtain ⟨v, hB, _⟩ := hS
  intro u hu
  rw [(hB.below hb hB.lt).cell 0] at hu
  exact h u ((hB.cell 0).trans hu)
theorem Sk.new (w : World) : Sk w.heap.size [] false (w.alloc (.cells #[.slice none 0 0, .bool false] 150)) := ⟨_, Blk.new w _ _, OwnB.nil _ _⟩
theorem NotRow.new (w : World) (k : Nat) : NotRow (w.alloc (.cells #[.slice none 0 0, .bool false] 150)) w.heap.size k := by
  intro v hv
  rw [(Blk.new w _ _).cell 0] at hv
  obtain rfl : Value.slice none 0 0 = v := by simpa using hv
  simp [Value.ownBlock]
/-- The world inside of a loop over a row in block g that writes into the sink in b. -/
structure SkSt (w : World) (b g : Nat) (cs : Array Value) (t : TypeId) (l : List UInt8) (wr : Bool) (W : World) : Prop where
  sk : Sk b l wr W
  row : Blk W g cs t
  apart : NotRow W b g
  below : Below w.heap.size w W
theorem SkSt.alloc {w : World} {b g : Nat} {cs : Array Value} {t : TypeId} {l : List UInt8} {wr : Bool} {W : World} (h : SkSt w b g cs t l wr W) (o : Obj) : SkSt w b g cs t l wr (W.alloc o) := by
  have ha : Below W.heap.size W (W.alloc o) := (Below.refl _ W).alloc (Nat.le_refl _) o
  exact ⟨h.sk.below ha, h.row.alloc o, h.apart.below h.sk ha, h.below.trans (ha.mono h.below.size)⟩
theorem SkSt.next {w : World} {b g : Nat} {cs : Array Value} {t : TypeId} {l l' : List UInt8} {wr wr' : Bool} {W W' : World} (h : SkSt w b g cs t l wr W) (hg : g ≠ b) (hb : w.heap.size ≤ b) (h1 : Sk b l' wr' W') (h2 : Below b W W') (h3 : SkKeep b W W') : SkSt w b g cs t l' wr' W' :=
  have a := h3 g h.row.lt hg h.apart
  ⟨h1, by unfold Blk; rw [a.1]; exact h.row, a.2, h.below.trans (h2.mono hb)⟩

/-- The bytes of a signature's data; is something wrong with them? -/
def sigL (x : SigR) : List UInt8 := numB x.covered 2 ++ numB x.alg 1 ++ numB x.labels 1 ++ numB x.ttl 4 ++ numB x.fin 4 ++ numB x.begin 4 ++ numB x.tag 2 ++ x.signer.data.toList ++ x.sign.data.toList
def sigBad (x : SigR) : Bool := badNum x.covered 2 || badNum x.alg 1 || badNum x.labels 1 || badNum x.ttl 4 || badNum x.fin 4 || badNum x.begin 4 || badNum x.tag 2 || !nameRight x.signer || decide ((x.sign.size : Int) < 1)
def ofSig (x : SigR) : Option ByteArray := doneR (sigL x) (sigBad x)
set_option maxRecDepth 100000 in
set_option maxHeartbeats 2000000 in
theorem data_ofSig (x : SigR) (w : World) (hz : x.signer.size + x.sign.size ≤ 140737488000000) : Calls Tryz.prog 39 #[x.v] w (DoneP w (ofSig x)) := by
  obtain ⟨x_covered, x_alg, x_labels, x_ttl, x_fin, x_begin, x_tag, x_signer, x_sign⟩ := x
  simp only [SigR.v] at hz ⊢
  go_enter Tryz.func39, Tryz.ntmps39
  go_wp2_with fail
  have hx0 : Blk (w.alloc (.cells #[.int .i64 x_covered, .int .i64 x_alg, .int .i64 x_labels, .int .i64 x_ttl, .int .i64 x_fin, .int .i64 x_begin, .int .i64 x_tag, .string x_signer, .string x_sign] 78)) w.heap.size #[.int .i64 x_covered, .int .i64 x_alg, .int .i64 x_labels, .int .i64 x_ttl, .int .i64 x_fin, .int .i64 x_begin, .int .i64 x_tag, .string x_signer, .string x_sign] 78 := Blk.new w _ _
  have hb : (w.alloc (.cells #[.int .i64 x_covered, .int .i64 x_alg, .int .i64 x_labels, .int .i64 x_ttl, .int .i64 x_fin, .int .i64 x_begin, .int .i64 x_tag, .string x_signer, .string x_sign] 78)).heap.size = w.heap.size + 1 := by simp
  have hs0 := Sk.new (w.alloc (.cells #[.int .i64 x_covered, .int .i64 x_alg, .int .i64 x_labels, .int .i64 x_ttl, .int .i64 x_fin, .int .i64 x_begin, .int .i64 x_tag, .string x_signer, .string x_sign] 78))
  have hn0 := NotRow.new (w.alloc (.cells #[.int .i64 x_covered, .int .i64 x_alg, .int .i64 x_labels, .int .i64 x_ttl, .int .i64 x_fin, .int .i64 x_begin, .int .i64 x_tag, .string x_signer, .string x_sign] 78)) (w.heap.size + 1 + 1)
  rw [hb] at hs0 hn0
  have hS0 : SkSt (w.alloc (.cells #[.int .i64 x_covered, .int .i64 x_alg, .int .i64 x_labels, .int .i64 x_ttl, .int .i64 x_fin, .int .i64 x_begin, .int .i64 x_tag, .string x_signer, .string x_sign] 78)) (w.heap.size + 1) (w.heap.size + 1 + 1) #[.int .i64 x_covered, .int .i64 2, .int .i64 x_alg, .int .i64 1, .int .i64 x_labels, .int .i64 1, .int .i64 x_ttl, .int .i64 4, .int .i64 x_fin, .int .i64 4, .int .i64 x_begin, .int .i64 4, .int .i64 x_tag, .int .i64 2] 151 [] false (((w.alloc (.cells #[.int .i64 x_covered, .int .i64 x_alg, .int .i64 x_labels, .int .i64 x_ttl, .int .i64 x_fin, .int .i64 x_begin, .int .i64 x_tag, .string x_signer, .string x_sign] 78)).alloc (.cells #[.slice none 0 0, .bool false] 150)).alloc (.cells #[.int .i64 x_covered, .int .i64 2, .int .i64 x_alg, .int .i64 1, .int .i64 x_labels, .int .i64 1, .int .i64 x_ttl, .int .i64 4, .int .i64 x_fin, .int .i64 4, .int .i64 x_begin, .int .i64 4, .int .i64 x_tag, .int .i64 2] 151)) := by
    have ha := (Below.refl _ ((w.alloc (.cells #[.int .i64 x_covered, .int .i64 x_alg, .int .i64 x_labels, .int .i64 x_ttl, .int .i64 x_fin, .int .i64 x_begin, .int .i64 x_tag, .string x_signer, .string x_sign] 78)).alloc (.cells #[.slice none 0 0, .bool false] 150))).alloc (Nat.le_refl _) (.cells #[.int .i64 x_covered, .int .i64 2, .int .i64 x_alg, .int .i64 1, .int .i64 x_labels, .int .i64 1, .int .i64 x_ttl, .int .i64 4, .int .i64 x_fin, .int .i64 4, .int .i64 x_begin, .int .i64 4, .int .i64 x_tag, .int .i64 2] 151)
    refine ⟨hs0.below ha, ?_, hn0.below hs0 ha, ?_⟩
    · have := Blk.new ((w.alloc (.cells #[.int .i64 x_covered, .int .i64 x_alg, .int .i64 x_labels, .int .i64 x_ttl, .int .i64 x_fin, .int .i64 x_begin, .int .i64 x_tag, .string x_signer, .string x_sign] 78)).alloc (.cells #[.slice none 0 0, .bool false] 150)) #[.int .i64 x_covered, .int .i64 2, .int .i64 x_alg, .int .i64 1, .int .i64 x_labels, .int .i64 1, .int .i64 x_ttl, .int .i64 4, .int .i64 x_fin, .int .i64 4, .int .i64 x_begin, .int .i64 4, .int .i64 x_tag, .int .i64 2] 151
      simpa using this
    · exact ((Below.refl _ _).alloc (Nat.le_refl _) _).alloc (by simp) _
  have HX := Lib.hid hx0
  have HS0 := Lib.hid hS0
  clear hx0 hb hs0 hn0 hS0
  refine wp_loop_rounds 8 ?_
  have hgb : w.heap.size + 1 + 1 ≠ w.heap.size + 1 := by omega
  have hwb : (w.alloc (.cells #[.int .i64 x_covered, .int .i64 x_alg, .int .i64 x_labels, .int .i64 x_ttl, .int .i64 x_fin, .int .i64 x_begin, .int .i64 x_tag, .string x_signer, .string x_sign] 78)).heap.size ≤ w.heap.size + 1 := by simp
  have HGB := Lib.hid hgb; have HWB := Lib.hid hwb
  clear hgb hwb
  rw [rounds_succ]
  go_wp2_with fail
  refine (sink_number (w.heap.size + 1) ([]) (false) x_covered 2 _ (HS0.out.alloc _).sk (by omega) (by simp [numB_len])).mono ?_
  rintro e W1 ⟨rfl, h1, h2, h3⟩
  have HS1 := Lib.hid ((HS0.out.alloc _).next HGB.out HWB.out h1 h2 h3)
  clear h1 h2 h3 HS0
  go_wp2_with fail
  have c0 : W1.cell? ⟨w.heap.size + 1 + 1, 2, none⟩ = some (.int .i64 x_alg) := HS1.out.row.cell 2
  have c1 : W1.cell? ⟨w.heap.size + 1 + 1, 3, none⟩ = some (.int .i64 1) := HS1.out.row.cell 3
  rw [rounds_succ]
  go_wp2_with fail
  clear c0 c1
  refine (sink_number (w.heap.size + 1) (([] ++ numB x_covered 2)) ((false || badNum x_covered 2)) x_alg 1 _ (HS1.out.alloc _).sk (by omega) (by simp [numB_len])).mono ?_
  rintro e W2 ⟨rfl, h1, h2, h3⟩
  have HS2 := Lib.hid ((HS1.out.alloc _).next HGB.out HWB.out h1 h2 h3)
  clear h1 h2 h3 HS1
  go_wp2_with fail
  have c0 : W2.cell? ⟨w.heap.size + 1 + 1, 4, none⟩ = some (.int .i64 x_labels) := HS2.out.row.cell 4
  have c1 : W2.cell? ⟨w.heap.size + 1 + 1, 5, none⟩ = some (.int .i64 1) := HS2.out.row.cell 5
  rw [rounds_succ]
  go_wp2_with fail
  clear c0 c1
  refine (sink_number (w.heap.size + 1) ((([] ++ numB x_covered 2) ++ numB x_alg 1)) (((false || badNum x_covered 2) || badNum x_alg 1)) x_labels 1 _ (HS2.out.alloc _).sk (by omega) (by simp [numB_len])).mono ?_
  rintro e W3 ⟨rfl, h1, h2, h3⟩
  have HS3 := Lib.hid ((HS2.out.alloc _).next HGB.out HWB.out h1 h2 h3)
  clear h1 h2 h3 HS2
  go_wp2_with fail
  have c0 : W3.cell? ⟨w.heap.size + 1 + 1, 6, none⟩ = some (.int .i64 x_ttl) := HS3.out.row.cell 6
  have c1 : W3.cell? ⟨w.heap.size + 1 + 1, 7, none⟩ = some (.int .i64 4) := HS3.out.row.cell 7
  rw [rounds_succ]
  go_wp2_with fail
  clear c0 c1
  refine (sink_number (w.heap.size + 1) (((([] ++ numB x_covered 2) ++ numB x_alg 1) ++ numB x_labels 1)) ((((false || badNum x_covered 2) || badNum x_alg 1) || badNum x_labels 1)) x_ttl 4 _ (HS3.out.alloc _).sk (by omega) (by simp [numB_len])).mono ?_
  rintro e W4 ⟨rfl, h1, h2, h3⟩
  have HS4 := Lib.hid ((HS3.out.alloc _).next HGB.out HWB.out h1 h2 h3)
  clear h1 h2 h3 HS3
  go_wp2_with fail
  have c0 : W4.cell? ⟨w.heap.size + 1 + 1, 8, none⟩ = some (.int .i64 x_fin) := HS4.out.row.cell 8
  have c1 : W4.cell? ⟨w.heap.size + 1 + 1, 9, none⟩ = some (.int .i64 4) := HS4.out.row.cell 9
  rw [rounds_succ]
  go_wp2_with fail
  clear c0 c1
  refine (sink_number (w.heap.size + 1) ((((([] ++ numB x_covered 2) ++ numB x_alg 1) ++ numB x_labels 1) ++ numB x_ttl 4)) (((((false || badNum x_covered 2) || badNum x_alg 1) || badNum x_labels 1) || badNum x_ttl 4)) x_fin 4 _ (HS4.out.alloc _).sk (by omega) (by simp [numB_len])).mono ?_
  rintro e W5 ⟨rfl, h1, h2, h3⟩
  have HS5 := Lib.hid ((HS4.out.alloc _).next HGB.out HWB.out h1 h2 h3)
  clear h1 h2 h3 HS4
  go_wp2_with fail
  have c0 : W5.cell? ⟨w.heap.size + 1 + 1, 10, none⟩ = some (.int .i64 x_begin) := HS5.out.row.cell 10
  have c1 : W5.cell? ⟨w.heap.size + 1 + 1, 11, none⟩ = some (.int .i64 4) := HS5.out.row.cell 11
  rw [rounds_succ]
  go_wp2_with fail
  clear c0 c1
  refine (sink_number (w.heap.size + 1) (((((([] ++ numB x_covered 2) ++ numB x_alg 1) ++ numB x_labels 1) ++ numB x_ttl 4) ++ numB x_fin 4)) ((((((false || badNum x_covered 2) || badNum x_alg 1) || badNum x_labels 1) || badNum x_ttl 4) || badNum x_fin 4)) x_begin 4 _ (HS5.out.alloc _).sk (by omega) (by simp [numB_len])).mono ?_
  rintro e W6 ⟨rfl, h1, h2, h3⟩
  have HS6 := Lib.hid ((HS5.out.alloc _).next HGB.out HWB.out h1 h2 h3)
  clear h1 h2 h3 HS5
  go_wp2_with fail
  have c0 : W6.cell? ⟨w.heap.size + 1 + 1, 12, none⟩ = some (.int .i64 x_tag) := HS6.out.row.cell 12
  have c1 : W6.cell? ⟨w.heap.size + 1 + 1, 13, none⟩ = some (.int .i64 2) := HS6.out.row.cell 13
  rw [rounds_succ]
  go_wp2_with fail
  clear c0 c1
  refine (sink_number (w.heap.size + 1) ((((((([] ++ numB x_covered 2) ++ numB x_alg 1) ++ numB x_labels 1) ++ numB x_ttl 4) ++ numB x_fin 4) ++ numB x_begin 4)) (((((((false || badNum x_covered 2) || badNum x_alg 1) || badNum x_labels 1) || badNum x_ttl 4) || badNum x_fin 4) || badNum x_begin 4)) x_tag 2 _ (HS6.out.alloc _).sk (by omega) (by simp [numB_len])).mono ?_
  rintro e W7 ⟨rfl, h1, h2, h3⟩
  have HS7 := Lib.hid ((HS6.out.alloc _).next HGB.out HWB.out h1 h2 h3)
  clear h1 h2 h3 HS6
  go_wp2_with fail
  have hX := HX.out.below HS7.out.below HX.out.lt
  have c7 : W7.cell? ⟨w.heap.size, 7, none⟩ = some (.string x_signer) := hX.cell 7
  have c8 : W7.cell? ⟨w.heap.size, 8, none⟩ = some (.string x_sign) := hX.cell 8
  have HX2 := Lib.hid hX
  clear hX HX
  rw [rounds_succ]
  go_wp2_with fail
  refine (sink_name (w.heap.size + 1) (((((((([] ++ numB x_covered 2) ++ numB x_alg 1) ++ numB x_labels 1) ++ numB x_ttl 4) ++ numB x_fin 4) ++ numB x_begin 4) ++ numB x_tag 2)) ((((((((false || badNum x_covered 2) || badNum x_alg 1) || badNum x_labels 1) || badNum x_ttl 4) || badNum x_fin 4) || badNum x_begin 4) || badNum x_tag 2)) x_signer _ HS7.out.sk (by simp [numB_len]; omega)).mono ?_
  rintro e V1 ⟨rfl, h1, h2⟩
  clear c7 c8
  have c8 : V1.cell? ⟨w.heap.size, 8, none⟩ = some (.string x_sign) := (HX2.out.below h2 (by omega)).cell 8
  have HT1 := Lib.hid (And.intro h1 (HS7.out.below.trans (h2.mono HWB.out)))
  clear h1 h2 HX2 HS7
  go_wp2_with fail
  refine (sink_bytes (w.heap.size + 1) (((((((([] ++ numB x_covered 2) ++ numB x_alg 1) ++ numB x_labels 1) ++ numB x_ttl 4) ++ numB x_fin 4) ++ numB x_begin 4) ++ numB x_tag 2) ++ x_signer.data.toList) ((((((((false || badNum x_covered 2) || badNum x_alg 1) || badNum x_labels 1) || badNum x_ttl 4) || badNum x_fin 4) || badNum x_begin 4) || badNum x_tag 2) || !nameRight x_signer) x_sign 1 _ HT1.out.1 (by simp [numB_len]; omega)).mono ?_
  rintro e V2 ⟨rfl, h1, h2⟩
  clear c8
  have HT2 := Lib.hid (And.intro h1 (HT1.out.2.trans (h2.mono HWB.out)))
  clear h1 h2 HT1
  go_wp2_with fail
  refine (sink_done (w.heap.size + 1) _ _ _ HT2.out.1).mono ?_
  rintro e V3 ⟨rfl, h2⟩
  have HB := Lib.hid (((Below.refl _ w).alloc (Nat.le_refl _) (.cells #[.int .i64 x_covered, .int .i64 x_alg, .int .i64 x_labels, .int .i64 x_ttl, .int .i64 x_fin, .int .i64 x_begin, .int .i64 x_tag, .string x_signer, .string x_sign] 78)).trans ((HT2.out.2.trans (h2.mono HT2.out.2.size)).mono (by simp)))
  clear h2 HT2
  generalize hq : doneR ((((((((([] ++ numB x_covered 2) ++ numB x_alg 1) ++ numB x_labels 1) ++ numB x_ttl 4) ++ numB x_fin 4) ++ numB x_begin 4) ++ numB x_tag 2) ++ x_signer.data.toList) ++ x_sign.data.toList) (((((((((false || badNum x_covered 2) || badNum x_alg 1) || badNum x_labels 1) || badNum x_ttl 4) || badNum x_fin 4) || badNum x_begin 4) || badNum x_tag 2) || !nameRight x_signer) || decide ((x_sign.size : Int) < 1)) = q
  have HQ : Hid (ofSig ⟨x_covered, x_alg, x_labels, x_ttl, x_fin, x_begin, x_tag, x_signer, x_sign⟩ = q) := Lib.hid (by rw [← hq]; simp [ofSig, sigL, sigBad, Bool.or_assoc])
  clear hq
  cases q with
  | none =>
    simp only [Option.getD, Option.isSome, Bool.false_eq_true, if_false]
    go_wp2
    go_ret2
    refine ⟨?_, HB.out⟩
    rw [HQ.out]
    rfl
  | some q =>
    simp only [Option.getD, Option.isSome, if_true]
    go_wp2
    go_ret2
    refine ⟨?_, HB.out⟩
    rw [HQ.out]
    rfl
end Go.Proofs.YtkhpcagoggglcaaGreatDoor

/- A row of bytes that the call made ('[]byte(s)' or an append's), told by its cells: a byte appended to it; its text. -/
namespace Go.Proofs.YtkhpcagoggglcaaGreatDoor
open Go.RowKit

/-- v is a row of the call's own that holds these bytes; what lies behind them may be written. -/
def ByAt (base : Nat) (v : Value) (l : List UInt8) (w : World) : Prop :=
  ∃ g cap, v = .slice (some ⟨g, 0, none⟩) l.length cap ∧ base ≤ g ∧ g < w.heap.size ∧ l.length ≤ cap ∧ cap ≤ maxLen ∧ (∀ j, j < l.length → w.cell? ⟨g, j, none⟩ = some (bv (l.getD j 0))) ∧
    ∀ j, l.length ≤ j → j < cap → (w.cell? ⟨g, j, none⟩).isSome = true ∧ w.frozen? ⟨g, j, none⟩ = false
theorem byAt_new (w : World) (s : ByteArray) (hs : s.size ≤ 140737488351232) : ByAt w.heap.size (.slice (some ⟨w.heap.size, 0, none⟩) s.size (grownCap w s.size 0 5)) s.data.toList (Lib.bytesWorld w 5 s) := by
  have hge := grownCap_ge w s.size 0 5
  have hle := grownCap_le_maxLen w s.size 0 5 (by simp only [maxLen]; omega)
  have hl : s.data.toList.length = s.size := by simp
  have hsz : (Lib.bytesCells w 5 s).size = grownCap w s.size 0 5 := by
    simp only [Lib.bytesCells, Array.size_append, Array.size_map, Array.size_replicate]
    show s.size + _ = _; omega
  refine ⟨w.heap.size, _, by rw [hl], Nat.le_refl _, by rw [Lib.bytesWorld_size]; omega, by rw [hl]; exact hge, hle, fun j hj => ?_, fun j h1 h2 => ⟨?_, ?_⟩⟩
  · exact Lib.bytesWorld_cell w 5 s j (by rw [hl] at hj; exact hj)
  · simp only [World.cell?, Lib.bytesWorld_at_new]
    simp [hsz, h2]
  · simp only [World.frozen?, Lib.bytesWorld_at_new, hsz]
    simp; omega
theorem ByAt.string {base : Nat} {v : Value} {l : List UInt8} {w : World} (h : ByAt base v l w) : (convert 82 9 v).run Tryz.prog w = .ok (.string ⟨l.toArray⟩) w := by
  obtain ⟨g, cap, rfl, _, _, _, _, hc, _⟩ := h
  have := run_convert_bytes_arg (P := Tryz.prog) w 82 5 Tryz.underlying82 Tryz.underlying5 g 0 l.length cap (l.map fun b => (b.toNat : Int)) (by simp) (by
    intro i hi
    rw [Nat.zero_add, hc i hi]
    simp [bv, List.getD, List.getElem?_eq_getElem hi]) 9 Tryz.underlying9
  have e : strOfNums (l.map fun b => (b.toNat : Int)) = ⟨l.toArray⟩ := by
    show (⟨((l.map fun b => (b.toNat : Int)).map fun n => UInt8.ofNat n.toNat).toArray⟩ : ByteArray) = ⟨l.toArray⟩
    rw [List.map_map]
    have e : ((fun n : Int => UInt8.ofNat n.toNat) ∘ fun b : UInt8 => (b.toNat : Int)) = id := by
      funext b
      simp
    rw [e, List.map_id]
  rw [this, e]
theorem ByAt.slice {base : Nat} {v : Value} {l : List UInt8} {w : World} (h : ByAt base v l w) : ∃ g cap, v = .slice (some ⟨g, 0, none⟩) l.length cap := by
  obtain ⟨g, cap, e, _⟩ := h
  exact ⟨g, cap, e⟩
theorem byAt_append {ops : Array Oper} {rest : List Oper} {o : Oper} {a : Act} {Q : Exit → Act → World → Prop} {base : Nat} {v : Value} {l : List UInt8} {w0 W : World} (HO : ByAt base v l W) (HB : Below base w0 W) (hbase : base ≤ W.heap.size) (x : UInt8) (hl : l.length < 140737488355328)
    (hgd : o.guard = none) (s y : Operand) (ho : o.op = .call { callee := .builtin .append, args := #[s, y], argTypes := #[82, 82] }) (cs : Array Value) (m c : Nat) (hs : a.eval s = v) (hx : a.eval y = .slice (some ⟨W.heap.size, 0, none⟩) m c) (hcs : cs = #[bv x]) (hm : m = 1)
    (h : ∀ v1 w1, ByAt base v1 (l ++ [x]) w1 → Below base w0 w1 → base ≤ w1.heap.size → wpList Tryz.prog ops Q rest (a.put o.dst v1) w1) : wpList Tryz.prog ops Q (o :: rest) a (W.alloc (.cells cs 5)) := by
  subst hcs hm
  obtain ⟨g, cap, rfl, hg, hlt, hlc, hmax, hc, hf⟩ := HO
  obtain ⟨i0, hi, hzz⟩ := Option.map_eq_some_iff.1 info_u8b
  simp only [Prod.mk.injEq] at hzz
  obtain ⟨hz0, hz1, hz2⟩ := hzz
  have hne : g ≠ W.heap.size := by omega
  have hcell : ∀ j, (W.alloc (.cells #[bv x] 5)).cell? ⟨g, j, none⟩ = W.cell? ⟨g, j, none⟩ := fun j => World.cell?_alloc_old _ _ _ hne
  have hfro : ∀ j, (W.alloc (.cells #[bv x] 5)).frozen? ⟨g, j, none⟩ = W.frozen? ⟨g, j, none⟩ := fun j =>
    World.frozen?_of_block (w := W) (a := ⟨g, j, none⟩) (Below.heap_alloc _ _ _ hlt)
  have hnew : ∀ j u, [bv x][j]? = some u → (W.alloc (.cells #[bv x] 5)).cell? ((⟨W.heap.size, 0, none⟩ : Addr).add j) = some u :=
    World.news_of_block (cs := #[bv x]) (t := 5) (fr := (0, 0)) (heap_alloc_new W _)
  have h1 : ∀ u ∈ [bv x], u.oneCell' = true := by intro u hu; simp at hu; obtain rfl := hu; rfl
  have hll : (l ++ [x]).length = l.length + 1 := by simp
  have hB1 := HB.alloc hbase (.cells #[bv x] 5)
  refine wpList_plain hgd fun K hK => ?_
  by_cases hroom : l.length + 1 ≤ cap
  · have hr := run_append_room_cells (P := Tryz.prog) (W.alloc (.cells #[bv x] 5)) 82 o.type 5 i0 Tryz.underlying82 hi g 0 l.length cap ⟨W.heap.size, 0, none⟩ 1 c [bv x] (by simp [hz1]) hnew h1 hroom
      (by intro j hj; obtain rfl : j = 0 := by simpa using hj
          rw [hz1, Nat.mul_one, Nat.zero_add, Nat.add_zero, hcell]; exact (hf _ (Nat.le_refl _) (by omega)).1)
      (by intro j hj; obtain rfl : j = 0 := by simpa using hj
          rw [hz1, Nat.mul_one, Nat.zero_add, Nat.add_zero, hfro]; exact (hf _ (Nat.le_refl _) (by omega)).2)
    rw [hz1, Nat.mul_one, Nat.zero_add] at hr
    unfold Oper.wp execOp
    simp only [ho, resolve, invoke, builtin, Sem.run_bind, Sem.run_pure, Result.andThen_ok, List.map_toArray, List.map_cons, List.map_nil, hs, hx, hr]
    refine hK _ _ (h _ _ ⟨g, cap, by rw [hll], hg, ?_, by rw [hll]; exact hroom, hmax, fun j hj => ?_, fun j h1 h2 => ?_⟩ (hB1.setCell (p := ⟨g, l.length, none⟩) hg _) ?_)
    · show g < ((W.alloc _).setCell _ _).heap.size
      simp; omega
    · show ((W.alloc _).setCell ⟨g, l.length, none⟩ (bv x)).cell? _ = _
      rw [hll] at hj
      by_cases e : j = l.length
      · subst e
        obtain ⟨u, hu⟩ := Option.isSome_iff_exists.1 (hf _ (Nat.le_refl _) (by omega)).1
        rw [World.cell?_setCell_same _ _ _ ((hcell _).trans hu)]
        simp [List.getD]
      · rw [World.cell?_setCell_other _ _ _ _ (by intro h; cases h; exact e rfl), hcell, hc j (by omega)]
        simp [List.getD, List.getElem?_append_left (show j < l.length by omega)]
    · show (((W.alloc _).setCell ⟨g, l.length, none⟩ (bv x)).cell? _).isSome = true ∧ ((W.alloc _).setCell ⟨g, l.length, none⟩ (bv x)).frozen? _ = false
      rw [hll] at h1
      rw [World.cell?_setCell_other _ _ _ _ (by intro h; cases h; omega), World.frozen?_setCell, hcell, hfro]
      exact hf j (by omega) h2
    · show base ≤ ((W.alloc _).setCell _ _).heap.size
      simp; omega
  · have holds : ∀ j u, (l.map bv)[j]? = some u → (W.alloc (.cells #[bv x] 5)).cell? ((⟨g, 0, none⟩ : Addr).add j) = some u := by
      intro j u hu
      have hj : j < l.length := by
        rcases Nat.lt_or_ge j l.length with h | h
        · exact h
        · rw [List.getElem?_eq_none (by simpa using h)] at hu; cases hu
      have e : (⟨g, 0, none⟩ : Addr).add j = ⟨g, j, none⟩ := by unfold Addr.add; split <;> simp_all
      rw [e, hcell, hc j hj, ← hu]
      simp [List.getD, List.getElem?_eq_getElem hj]
    have hr := run_append_grow (P := Tryz.prog) (W.alloc (.cells #[bv x] 5)) 82 o.type 5 i0 (.int .u8 0) Tryz.underlying82 hi hz0 ⟨g, 0, none⟩ l.length cap (l.map bv) (by simp [hz1]) holds ⟨W.heap.size, 0, none⟩ 1 c [bv x] (by simp [hz1]) hnew
      (by omega) (by omega) (growslice_fits (by omega) (by rw [hz2]; omega))
    have hge := grownCap_ge (W.alloc (.cells #[bv x] 5)) (l.length + 1) cap 5
    have hle := grownCap_le_maxLen (W.alloc (.cells #[bv x] 5)) (l.length + 1) cap 5 (by simp only [maxLen]; omega)
    generalize grownCap (W.alloc (.cells #[bv x] 5)) (l.length + 1) cap 5 = cap' at hr hge hle
    unfold Oper.wp execOp
    simp only [ho, resolve, invoke, builtin, Sem.run_bind, Sem.run_pure, Result.andThen_ok, List.map_toArray, List.map_cons, List.map_nil, hs, hx, hr]
    have hz : (Builtin.zeroCells (Value.int .u8 0).cells (cap' - (l.length + 1))).size = cap' - (l.length + 1) := by rw [size_zeroCells]; simp [Value.cells]
    generalize hcs : ((l.map bv).toArray ++ [bv x].toArray ++ Builtin.zeroCells (Value.int .u8 0).cells (cap' - (l.length + 1))) = cs
    have hcsz : cs.size = cap' := by rw [← hcs]; simp only [Array.size_append, hz]; simp; omega
    have hblk : Blk ((W.alloc (.cells #[bv x] 5)).drew.alloc (.cells cs 5)) (W.alloc (.cells #[bv x] 5)).heap.size cs 5 := Blk.new (W.alloc (.cells #[bv x] 5)).drew cs 5
    refine hK _ _ (h _ _ ⟨(W.alloc (.cells #[bv x] 5)).heap.size, cap', by rw [hll], by simp; omega, hblk.lt, by rw [hll]; exact hge, hle, fun j hj => ?_, fun j h1 h2 => ⟨?_, hblk.free j⟩⟩ ((hB1.drew).alloc (by show base ≤ (W.alloc _).heap.size; simp; omega) _) (by show base ≤ ((W.alloc (.cells #[bv x] 5)).drew.alloc (.cells cs 5)).heap.size; simp; omega))
    · rw [hblk.cell j, ← hcs]
      rw [hll] at hj
      rw [Array.getElem?_append_left (by simp; omega)]
      by_cases e : j = l.length
      · subst e
        rw [Array.getElem?_append_right (by simp)]
        simp [List.getD]
      · rw [Array.getElem?_append_left (by simp; omega)]
        simp [List.getD, List.getElem?_append_left (show j < l.length by omega), show j < l.length by omega]
    · rw [hblk.cell j, Array.getElem?_eq_getElem (by omega)]; rfl
end Go.Proofs.YtkhpcagoggglcaaGreatDoor

