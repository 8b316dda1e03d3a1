/- The document's own reader of a name (its chapter 1): its labels, and whether it is one. -/
import Derived.Test.YtdmfbcfhfopipaaGreatDoorRefName
namespace Go.Proofs.YtdmfbcfhfopipaaGreatDoor
open Go.RowKit

/-- v holds these texts, in a row of the call's own. -/
def OwnS (base : Nat) (v : Value) (l : List ByteArray) (w : World) : Prop := w.ownsRow base 9 1 v l.length (l.map .string)
theorem OwnS.nil (base : Nat) (w : World) : OwnS base (.slice none 0 0) [] w := ⟨rfl, .inl ⟨rfl, rfl⟩⟩
theorem info_str : (Tryz.prog.info? 9).map (fun i => (i.zero, i.size, i.bytes)) = some (some (.string ⟨#[]⟩), 1, 16) := by kernel_rfl
theorem ownS_append {ops : Array Oper} {rest : List Oper} {o : Oper} {a : Act} {Q : Exit → Act → World → Prop} {base : Nat} {v : Value} {l : List ByteArray} {w0 W : World} (HO : OwnS base v l W) (HB : Below base w0 W) (hbase : base ≤ W.heap.size) (x : ByteArray) (hl : l.length + 1 ≤ 1000000)
    (hgd : o.guard = none) (s y : Operand) (ho : o.op = .call { callee := .builtin .append, args := #[s, y], argTypes := #[110, 110] }) (cs : Array Value) (m c : Nat) (hs : a.eval s = v) (hx : a.eval y = .slice (some ⟨W.heap.size, 0, none⟩) m c) (hcs : cs = #[.string x]) (hm : m = 1)
    (h : ∀ v1 w1, OwnS base v1 (l ++ [x]) w1 → Below base w0 w1 → base ≤ w1.heap.size → wpList Tryz.prog ops Q rest (a.put o.dst v1) w1) : wpList Tryz.prog ops Q (o :: rest) a (W.alloc (.cells cs 9)) := by
  subst hcs hm
  refine own_append base _ hgd s y 110 9 (.string ⟨#[]⟩) 16 ho Tryz.underlying110 info_str rfl v (l.map .string) 1 c hs hx (by simp) (by intro u hu; simp at hu; obtain rfl := hu; rfl) (by simpa [OwnS] using HO) HB hbase (by omega) (by simp; omega) ?_
  intro v1 w1 h1 h2 h3
  exact h v1 w1 (by simpa [OwnS] using h1) h2 h3

/-- What the reader has taken so far: the names of its labels, up to place p. -/
structure LabSt (s : ByteArray) (pre : List (Nat × ByteArray)) (f p : Nat) : Prop where
  all : labels s = pre ++ labs s f p
  fin : endOf pre = p
  fuel : s.size < p + f
  len : pre.length ≤ p
theorem LabSt.start (s : ByteArray) : LabSt s [] (s.size + 1) 0 := ⟨rfl, rfl, by omega, Nat.le_refl _⟩
theorem LabSt.end_ {s : ByteArray} {pre : List (Nat × ByteArray)} {f p : Nat} (h : LabSt s pre f p) (hl : labs s f p = []) : labels s = pre ∧ nameEnd s = p := by
  have h1 : labels s = pre := by rw [h.all, hl, List.append_nil]
  exact ⟨h1, by rw [nameEnd, h1]; exact h.fin⟩
theorem labs_stop {s : ByteArray} {f p : Nat} (h : ¬ (p < s.size ∧ byt s p ≠ 0 ∧ (byt s p).toNat ≤ 63 ∧ p + 1 + (byt s p).toNat ≤ s.size)) : labs s f p = [] := by
  cases f with
  | zero => rfl
  | succ f => rw [labs, if_neg h]
theorem LabSt.next {s : ByteArray} {pre : List (Nat × ByteArray)} {f p : Nat} (h : LabSt s pre f p) (hp : p < s.size) (h0 : (byt s p).toNat ≠ 0) (h63 : (byt s p).toNat ≤ 63) (hs : p + 1 + (byt s p).toNat ≤ s.size) :
    ∃ g, LabSt s (pre ++ [(p, s.extract (p + 1) (p + 1 + (byt s p).toNat))]) g (p + 1 + (byt s p).toNat) := by
  obtain ⟨f, rfl⟩ : ∃ g, f = g + 1 := ⟨f - 1, by have := h.fuel; omega⟩
  have hne : byt s p ≠ 0 := fun e => h0 (by rw [e]; rfl)
  refine ⟨f, ?_, ?_, by have := h.fuel; omega, ?_⟩
  · rw [h.all, labs, if_pos ⟨hp, hne, h63, hs⟩]; simp
  · rw [endOf_snoc]
    have e : (s.extract (p + 1) (p + 1 + (byt s p).toNat)).size = (byt s p).toNat := by rw [ByteArray.size_extract]; omega
    show p + 1 + (s.extract (p + 1) (p + 1 + (byt s p).toNat)).size = _
    rw [e]
  · have := h.len; simp; omega
theorem right_at {s : ByteArray} {p : Nat} (h : nameEnd s = p) (h255 : s.size ≤ 255) : nameRight s = (decide (p + 1 = s.size) && (byt s p == 0)) := by
  rw [nameRight, h]
  by_cases e : p + 1 = s.size
  · rw [decide_eq_true e, decide_eq_true (by omega)]; rfl
  · rw [decide_eq_false e]; simp

def LabPost (s : ByteArray) (w : World) (e : Ending) (w' : World) : Prop :=
  Below w.heap.size w w' ∧ ∃ v, e = .returned (.tuple #[v, .bool (nameRight s)]) ∧ (nameRight s = true → OwnS w.heap.size v ((labels s).map (·.2)) w')

theorem labPost_no {s : ByteArray} {w w' : World} {v : Value} (hb : Below w.heap.size w w') (hr : nameRight s = false) : LabPost s w (.returned (.tuple #[v, .bool false])) w' :=
  ⟨hb, v, by rw [hr], fun h => by rw [hr] at h; cases h⟩
theorem labPost_yes {s : ByteArray} {w w' : World} {v : Value} (hb : Below w.heap.size w w') (hr : nameRight s = true) (ho : OwnS w.heap.size v ((labels s).map (·.2)) w') : LabPost s w (.returned (.tuple #[v, .bool true])) w' :=
  ⟨hb, v, by rw [hr], fun _ => ho⟩

set_option maxRecDepth 100000 in
set_option maxHeartbeats 1000000 in
theorem ref_labels (s : ByteArray) (w : World) : Calls Tryz.prog 64 #[.string s] w (LabPost s w) := by
  by_cases h255 : s.size ≤ 255
  · have q0 : decide ((255 : Int) < s.size) = false := decide_eq_false (by omega)
    go_enter Tryz.func64, Tryz.ntmps64
    go_wp2
    go_loopw [4, 5] (fun v i wr => ∃ (p f : Nat) (pre : List (Nat × ByteArray)), i = .int .i64 p ∧ p ≤ s.size ∧ Hid (LabSt s pre f p) ∧ Hid (OwnS w.heap.size v (pre.map (·.2)) wr) ∧ Hid (Below w.heap.size w wr ∧ w.heap.size ≤ wr.heap.size)) (fun _ i _ => s.size - (intOf i).toNat)
    case atStart => exact ⟨0, s.size + 1, [], rfl, Nat.zero_le _, Lib.hid (LabSt.start s), Lib.hid (OwnS.nil _ _), Lib.hid ⟨Below.refl _ _, Nat.le_refl _⟩⟩
    case round =>
      obtain ⟨p, f, pre, rfl, hp, hL, hO, hB⟩ := hrel
      by_cases h1 : p < s.size
      · have hg : s[p] = byt s p := byt_get s p h1
        have hb := (byt s p).toNat_lt
        have hst := fun h => hL.out.end_ (labs_stop h)
        have hnx := hL.out.next h1
        have hll := hL.out.len
        rw [← hg] at hb hst hnx
        have HG := Lib.hid hg
        by_cases h0 : (s[p]).toNat = 0
        · have hz : s[p] = 0 := UInt8.toNat_inj.1 (by rw [h0]; rfl)
          obtain ⟨e1, e2⟩ := hst (fun h => h.2.1 hz)
          have hr := right_at e2 h255
          rw [← hg, hz] at hr
          have E1 := Lib.hid e1; have HR := Lib.hid hr
          have q1 : (((s[p]).toNat : Int) == 0) = true := by simp; omega
          clear hst hnx hr e1 e2 hz h0 hg hL
          by_cases hlast : p + 1 = s.size
          · have q2 : ((p : Int) == (s.size : Int) - 1) = true := by simp; omega
            go_wp2
            go_ret2
            have hr : nameRight s = true := by rw [HR.out, decide_eq_true hlast]; rfl
            exact labPost_yes hB.out.1 hr (by rw [E1.out]; exact hO.out)
          · have q2 : ((p : Int) == (s.size : Int) - 1) = false := by simp; omega
            go_wp2
            go_ret2
            have hr : nameRight s = false := by rw [HR.out, decide_eq_false hlast]; rfl
            exact labPost_no hB.out.1 hr
        · have hz : s[p] ≠ 0 := fun h => h0 (by rw [h]; rfl)
          have q1 : (((s[p]).toNat : Int) == 0) = false := by simp; omega
          by_cases h63 : (s[p]).toNat ≤ 63 ∧ p + 1 + (s[p]).toNat ≤ s.size
          · obtain ⟨g, hN⟩ := hnx h0 h63.1 h63.2
            have q2 : ((s[p]).toNat : Int) ≤ 63 := by omega
            have q3 : (p : Int) + 1 + ((s[p]).toNat : Int) ≤ s.size := by omega
            have hxt : ((p : Int) + 1 + ((s[p]).toNat : Int)).toNat = p + 1 + (s[p]).toNat := by omega
            have hxt2 : ((p : Int) + 1).toNat = p + 1 := by omega
            have HN := Lib.hid hN; have HLL := Lib.hid hll
            have info := info_str
            clear hst hnx hz h0 hg hL h63 hN hll
            go_wp2_with (at_builtin; go_loud (refine ownS_append hO.out hB.out.1 hB.out.2 (s.extract (p + 1) (p + 1 + (s[p]).toNat)) (by have := HLL.out; simp; omega) rfl _ _ rfl _ 1 1 rfl rfl rfl rfl ?_))
            intro v1 w1 a1 a2 a3
            have A1 : Hid (OwnS w.heap.size v1 ((pre ++ [(p, s.extract (p + 1) (p + 1 + (s[p]).toNat))]).map (·.2)) w1) := Lib.hid (by simpa using a1)
            have A2 := Lib.hid (And.intro a2 a3)
            clear a1 a2 a3 hO hB
            go_wp2
            go_roundw
            case rel => exact ⟨p + 1 + (s[p]).toNat, g, _, by go_num, by omega, HN, A1, A2⟩
            case measure => simp [intOf]; omega
          · obtain ⟨e1, e2⟩ := hst (fun h => h63 ⟨h.2.2.1, h.2.2.2⟩)
            have hr := right_at e2 h255
            rw [← hg] at hr
            have hr0 : nameRight s = false := by rw [hr]; simp [hz]
            have HR := Lib.hid hr0
            clear hst hnx hr hr0 e1 e2 hz h0 hg hL
            by_cases h6 : (s[p]).toNat ≤ 63
            · have q2 : ((s[p]).toNat : Int) ≤ 63 := by omega
              have q3 : (s.size : Int) < (p : Int) + 1 + ((s[p]).toNat : Int) := by omega
              clear h63 h6
              go_wp2
              go_ret2
              exact labPost_no hB.out.1 HR.out
            · have q2 : (63 : Int) < ((s[p]).toNat : Int) := by omega
              clear h63 h6
              go_wp2
              go_ret2
              exact labPost_no hB.out.1 HR.out
      · obtain ⟨e1, e2⟩ := hL.out.end_ (labs_stop (fun h => h1 h.1))
        have hr := right_at e2 h255
        have hr0 : nameRight s = false := by rw [hr, decide_eq_false (by omega)]; rfl
        have HR := Lib.hid hr0
        clear hr hr0 e1 e2 hL
        obtain rfl : p = s.size := by omega
        go_wp2
        go_ret2
        exact labPost_no hB.out.1 HR.out
  · have q0 : decide ((255 : Int) < s.size) = true := decide_eq_true (by omega)
    have hr : nameRight s = false := by rw [nameRight, decide_eq_false (by omega)]; rfl
    have HR := Lib.hid hr
    clear hr h255
    go_enter Tryz.func64, Tryz.ntmps64
    go_wp2
    go_ret2
    exact labPost_no (Below.refl _ _) HR.out

theorem ref_right (s : ByteArray) (w : World) : Calls Tryz.prog 34 #[.string s] w fun e w' => e = .returned (.bool (nameRight s)) ∧ Below w.heap.size w w' := by
  have hl := fun w => ref_labels s w
  have HL := Lib.hid hl
  clear hl
  generalize hq : nameRight s = q
  have HQ := Lib.hid hq
  clear hq
  go_enter Tryz.func34, Tryz.ntmps34
  go_wp2_with (go_at_call 64; refine (HL.out _).mono ?_; rintro e w1 ⟨hb, v, rfl, _⟩; rw [HQ.out])
  go_ret
  exact ⟨rfl, hb⟩
end Go.Proofs.YtdmfbcfhfopipaaGreatDoor
