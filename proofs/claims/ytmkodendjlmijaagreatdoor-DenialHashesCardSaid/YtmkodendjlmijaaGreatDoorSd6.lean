import Derived.Test.YtmkodendjlmijaaGreatDoorSd5
import Derived.Deep.MidRow
import Derived.Test.YtmkodendjlmijaaGreatDoorSd3
import Derived.Test.YtmkodendjlmijaaGreatDoorSd1
import Derived.Maps.OwnIn
import Derived.Test.YtmkodendjlmijaaGreatDoorProg
import Derived.BigQuiet
import Derived.WalkKit
/- Rows of denial's proofs; slices.IndexFunc over them. -/
namespace Go.Proofs.YtmkodendjlmijaaGreatDoor
open Go.RowKit

/-- A proof. -/
structure PrfD where
  owner : ByteArray
  next : ByteArray
  hash : ByteArray
  types : List Int
  out : Bool
def PrfD.cl (p : PrfD) (tv : Value) : List Value := [.string p.owner, .string p.next, .string p.hash, tv, .bool p.out]
def PrfD.v (p : PrfD) (tv : Value) : Value := .agg #[.string p.owner, .string p.next, .string p.hash, tv, .bool p.out]
/-- v is a slice that reads as these numbers. -/
def IntsAt (v : Value) (l : List Int) (w : World) : Prop :=
  ∃ A c, v = .slice A l.length c ∧ l.length ≤ 9223372036854775807 ∧ (0 < l.length → ∃ g o, A = some ⟨g, o, none⟩ ∧ g < w.heap.size ∧ ∀ j (h : j < l.length), w.cell? ⟨g, o + j, none⟩ = some (.int .i64 l[j]))
theorem IntsAt.below {v : Value} {l : List Int} {w w' : World} (h : IntsAt v l w) (hb : Below w.heap.size w w') : IntsAt v l w' := by
  obtain ⟨A, c, rfl, hm, h⟩ := h
  refine ⟨A, c, rfl, hm, fun h0 => ?_⟩
  obtain ⟨g, o, e, hg, hc⟩ := h h0
  exact ⟨g, o, e, Nat.lt_of_lt_of_le hg hb.size, fun j hj => by rw [hb.cell (p := ⟨g, o + j, none⟩) hg]; exact hc j hj⟩
theorem IntsAt.nil (w : World) : IntsAt (.slice none 0 0) [] w := ⟨none, 0, rfl, by simp, fun h => absurd h (by simp)⟩
theorem OwnI.ints {base : Nat} {v : Value} {l : List Int} {w : World} (h : OwnI base v l w) : IntsAt v l w := by
  rcases h.2 with ⟨rfl, h0⟩ | ⟨g, cap, cur, rfl, hb, hg, hn, hm, hsz, htk⟩
  · obtain rfl := List.eq_nil_of_length_eq_zero (by simpa using h0)
    exact IntsAt.nil w
  · refine ⟨some ⟨g, 0, none⟩, cap, rfl, by simp only [maxLen] at hm; omega, fun _ => ⟨g, 0, rfl, lt_of_block hg, fun i hi => ?_⟩⟩
    rw [Nat.zero_add, cell_of_row w g i cur 3 (0, 0) hg]
    have e : cur.toList[i]? = (l.map (Value.int .i64))[i]? := by
      rw [← htk, List.getElem?_take, if_pos (by simpa using hi)]
    rw [← Array.getElem?_toList, e]
    simp [hi]
/-- The proofs lie in block g, one behind the other. -/
def PrfRow (g : Nat) (l : List PrfD) (w : World) : Prop := g < w.heap.size ∧ ∀ j (h : j < l.length), ∃ tv, w.rangeAt g (j * 5) (l[j].cl tv) ∧ IntsAt tv l[j].types w
/-- v is a slice that reads as these proofs. -/
def PrfsAt (v : Value) (l : List PrfD) (w : World) : Prop := ∃ A c, v = .slice A l.length c ∧ l.length ≤ 1000000 ∧ (0 < l.length → ∃ g, A = some ⟨g, 0, none⟩ ∧ PrfRow g l w)
theorem PrfRow.below {g : Nat} {l : List PrfD} {w w' : World} (h : PrfRow g l w) (hb : Below w.heap.size w w') : PrfRow g l w' := by
  refine ⟨Nat.lt_of_lt_of_le h.1 hb.size, fun j hj => ?_⟩
  obtain ⟨tv, h1, h2⟩ := h.2 j hj
  exact ⟨tv, fun i v hv => by rw [hb.cell (p := ⟨g, j * 5 + i, none⟩) h.1]; exact h1 i v hv, h2.below hb⟩
theorem PrfsAt.below {v : Value} {l : List PrfD} {w w' : World} (h : PrfsAt v l w) (hb : Below w.heap.size w w') : PrfsAt v l w' := by
  obtain ⟨A, c, rfl, h1, h2⟩ := h
  refine ⟨A, c, rfl, h1, fun h0 => ?_⟩
  obtain ⟨g, e, hr⟩ := h2 h0
  exact ⟨g, e, hr.below hb⟩
/-- The function k with these bound tells q of a proof. -/
def AsksP (k : Nat) (bnd : Array Value) (q : PrfD → Bool) (w : World) : Prop :=
  (∀ args W, (callFunc k args).run Tryz.prog W = .ok (.enter k args) W) ∧ ∀ p tv W, Below w.heap.size w W → IntsAt tv p.types W → Calls Tryz.prog k (#[p.v tv] ++ bnd) W (BoolB (q p) W)
theorem AsksP.below {k : Nat} {bnd : Array Value} {q : PrfD → Bool} {w w' : World} (h : AsksP k bnd q w) (hb : Below w.heap.size w w') : AsksP k bnd q w' := ⟨h.1, fun p tv W h1 h2 => h.2 p tv W (hb.trans (h1.mono hb.size)) h2⟩

def idxOf (q : PrfD → Bool) (l : List PrfD) : Int := match l.findIdx? q with | some i => (i : Int) | none => -1
theorem info_prf : (Tryz.prog.info? 71).map (fun i => (i.size, i.bytes)) = some (5, 80) := by kernel_rfl
theorem info_prf5 : (Tryz.prog.info? 71).map (·.size) = some 5 := by kernel_rfl

theorem idxOf_at {q : PrfD → Bool} {l : List PrfD} {j : Nat} (h : j < l.length) (hno : ∀ x ∈ l.take j, q x = false) (hq : q l[j] = true) : idxOf q l = (j : Int) := by
  have : l.findIdx? q = some j := List.findIdx?_eq_some_iff_getElem.2 ⟨h, hq, fun i hi => by
    have := hno l[i] (List.mem_take_iff_getElem.2 ⟨i, by omega, rfl⟩)
    rw [this]; simp⟩
  rw [idxOf, this]
theorem idxOf_none {q : PrfD → Bool} {l : List PrfD} (hno : ∀ x ∈ l, q x = false) : idxOf q l = -1 := by
  have : l.findIdx? q = none := List.findIdx?_eq_none_iff.2 fun x hx => hno x hx
  rw [idxOf, this]
set_option maxRecDepth 100000 in
theorem index_func (l : List PrfD) (v : Value) (k : Nat) (bnd : Array Value) (q : PrfD → Bool) (w : World) (hl : PrfsAt v l w) (hk : AsksP k bnd q w) :
    Calls Tryz.prog 68 #[v, .func (.func k) #[] bnd] w fun e w' => e = .returned (.int .i64 (idxOf q l)) ∧ Below w.heap.size w w' := by
  obtain ⟨A, c, rfl, hlen, hA⟩ := hl
  have HA := Lib.hid hA; have HK := Lib.hid hk
  have hlb : (l.length : Int) ≤ 1000000 := by omega
  clear hA hk hlen
  go_enter Tryz.func68, Tryz.ntmps68
  go_wp2_with fail
  go_loopw [8] (fun i wr => ∃ j : Nat, j ≤ l.length ∧ i = .int .i64 j ∧ Hid (∀ x ∈ l.take j, q x = false) ∧ Hid (Below w.heap.size w wr)) (fun i _ => l.length - (intOf i).toNat)
  case atStart => exact ⟨0, Nat.zero_le _, rfl, Lib.hid (fun x hx => by simp at hx), Lib.hid (Below.refl _ _)⟩
  case round =>
    obtain ⟨j, hj, rfl, hno, hB⟩ := hrel
    by_cases hlt : j < l.length
    · obtain ⟨g, rfl, hrow⟩ := HA.out (by omega)
      have hrow2 := (hrow.below hB.out).2 j hlt
      obtain ⟨tv, hra, hti⟩ := hrow2
      have hcall := HK.out.2 l[j] tv wr hB.out hti
      have hcf := HK.out.1 (#[l[j].v tv] ++ bnd)
      have q1 : (j : Int) < (l.length : Int) := by omega
      have hfi : ∀ b, q l[j] = b → ∀ x ∈ l.take (j + 1), q x = false ∨ (x = l[j] ∧ b = true) := fun b hb x hx => by
        rw [List.take_succ_eq_append_getElem hlt] at hx
        rcases List.mem_append.1 hx with h | h
        · exact .inl (hno.out x h)
        · obtain rfl : x = l[j] := by simpa using h
          cases b
          · exact .inl hb
          · exact .inr ⟨rfl, rfl⟩
      have hix : q l[j] = true → idxOf q l = (j : Int) := fun hb => idxOf_at hlt hno.out hb
      have c0 : wr.cell? ⟨g, j * 5, none⟩ = some (.string l[j].owner) := hra 0 _ rfl
      have c1 : wr.cell? ⟨g, j * 5 + 1, none⟩ = some (.string l[j].next) := hra 1 _ rfl
      have c2 : wr.cell? ⟨g, j * 5 + 2, none⟩ = some (.string l[j].hash) := hra 2 _ rfl
      have c3 : wr.cell? ⟨g, j * 5 + 3, none⟩ = some tv := hra 3 _ rfl
      have c4 : wr.cell? ⟨g, j * 5 + 4, none⟩ = some (.bool l[j].out) := hra 4 _ rfl
      simp only [PrfD.v] at hcall hcf
      generalize l[j].owner = x0 at *
      generalize l[j].next = x1 at *
      generalize l[j].hash = x2 at *
      generalize l[j].out = x3 at *
      generalize hqb : q l[j] = b at *
      have HF := Lib.hid hfi; have HX := Lib.hid hix; have HC := Lib.hid hcall; have HCF := Lib.hid hcf; have HQB := Lib.hid hqb
      clear hra hti hfi hix hcall hcf hqb
      go_wp2_with fail
      rw [HCF.out wr, Oper.upon_enter]
      refine HC.out.mono ?_
      rintro e w2 ⟨rfl, hb2⟩
      simp only []
      have HB2 := Lib.hid (hB.out.trans (hb2.mono hB.out.size))
      cases b with
      | false =>
        have hno2 : ∀ x ∈ l.take (j + 1), q x = false := fun x hx => by
          rcases HF.out false rfl x hx with h | h
          · exact h
          · cases h.2
        have HN2 := Lib.hid hno2
        clear hno2 HF HX hno hb2
        go_wp2_with fail
        go_roundw
        case rel => exact ⟨j + 1, by omega, by go_num, HN2, HB2⟩
        case measure => simp [intOf]; omega
      | true =>
        have hx := HX.out rfl
        have HX2 := Lib.hid hx
        clear hx HF HX hno hb2
        go_wp2_with fail
        go_ret
        exact ⟨ret_int HX2.out.symm, HB2.out⟩
    · obtain rfl : j = l.length := by omega
      have hn := hno.out
      rw [List.take_length] at hn
      have HX2 := Lib.hid (idxOf_none hn)
      clear hn hno
      go_wp2_with fail
      go_ret
      exact ⟨ret_int HX2.out.symm, hB.out⟩
end Go.Proofs.YtmkodendjlmijaaGreatDoor

/- denial's proofs: first; has, lacks, bare; worth. -/
namespace Go.Proofs.YtmkodendjlmijaaGreatDoor
open Go.RowKit

/-- The proofs of a zone's NSECs, at block b. -/
def PsAt (b : Nat) (l : List PrfD) (apex : ByteArray) (w : World) : Prop := ∃ lv, Blk w b #[lv, .bool false, .string ⟨#[]⟩, .int .i64 0, .string apex] 69 ∧ PrfsAt lv l w
theorem PsAt.below {b : Nat} {l : List PrfD} {apex : ByteArray} {w w' : World} (h : PsAt b l apex w) (hb : Below w.heap.size w w') : PsAt b l apex w' := by
  obtain ⟨lv, h1, h2⟩ := h
  exact ⟨lv, h1.below hb h1.lt, h2.below hb⟩
theorem PsAt.lt {b : Nat} {l : List PrfD} {apex : ByteArray} {w : World} (h : PsAt b l apex w) : b < w.heap.size := by obtain ⟨_, h, _⟩ := h; exact h.lt
def zPrf : PrfD := ⟨⟨#[]⟩, ⟨#[]⟩, ⟨#[]⟩, [], false⟩
/-- A proof that is told, or none. -/
def FirstP (p : Option PrfD) (w0 w : World) (e : Ending) (w' : World) : Prop :=
  Below w.heap.size w w' ∧ ∃ tv, e = .returned (.tuple #[(p.getD zPrf).v tv, .bool p.isSome]) ∧ IntsAt tv (p.getD zPrf).types w0
set_option maxRecDepth 100000 in
theorem den_first (b : Nat) (l : List PrfD) (apex : ByteArray) (k : Nat) (bnd : Array Value) (q : PrfD → Bool) (w0 w : World) (hp : PsAt b l apex w0) (hw : Below w0.heap.size w0 w) (hk : AsksP k bnd q w) :
    Calls Tryz.prog 36 #[.pointer (some ⟨b, 0, none⟩), .func (.func k) #[] bnd] w (FirstP (l.find? q) w0 w) := by
  obtain ⟨lv, hb, hl⟩ := hp
  replace hb := hb.below hw hb.lt
  have hbw : Below w.heap.size w (w.alloc (.cells #[.string ⟨#[]⟩, .string ⟨#[]⟩, .string ⟨#[]⟩, .slice none 0 0, .bool false] 71)) := (Below.refl _ w).alloc (Nat.le_refl _) _
  have hix := index_func l lv k bnd q _ ((hl.below hw).below hbw) (hk.below hbw)
  have c0 := (hb.alloc (.cells #[.string ⟨#[]⟩, .string ⟨#[]⟩, .string ⟨#[]⟩, .slice none 0 0, .bool false] 71)).cell 0
  obtain ⟨A, c, rfl, hlen, hA⟩ := hl
  cases hfi : l.findIdx? q with
  | none =>
    have hfd : l.find? q = none := List.find?_eq_none.2 fun x hx h => by
      have := List.findIdx?_eq_none_iff.1 hfi x hx
      rw [this] at h; cases h
    have hi : idxOf q l = -1 := by rw [idxOf, hfi]
    rw [hi] at hix
    rw [hfd]
    clear hi hfd hfi
    have HI := Lib.hid hix; have HB := Lib.hid hb
    clear hix
    go_enter Tryz.func36, Tryz.ntmps36
    go_wp2_with (go_at_call 68; refine (Hid.out (p := _) ?_))
    refine Lib.hid ?_
    refine HI.out.mono ?_
    rintro e w2 ⟨rfl, hb2⟩
    simp only []
    have hB := ((HB.out.alloc (.cells #[.string ⟨#[]⟩, .string ⟨#[]⟩, .string ⟨#[]⟩, .slice none 0 0, .bool false] 71)).below hb2 (by have := hb.lt; simp; omega))
    have hN := (Blk.new w #[.string ⟨#[]⟩, .string ⟨#[]⟩, .string ⟨#[]⟩, .slice none 0 0, .bool false] 71).below hb2 (by simp)
    have d0 := hB.cell 0
    have c1 := hN.cell 0; have c2 := hN.cell 1; have c3 := hN.cell 2; have c4 := hN.cell 3; have c5 := hN.cell 4
    have f0 := fun j => hN.free j
    have hbe : Below w.heap.size w w2 := hbw.trans (hb2.mono hbw.size)
    have HN := Lib.hid hN; have HBE := Lib.hid hbe
    clear hN hbe hB hk hA HI HB hb c0 hb2 hbw
    go_wp2_with fail
    refine bodyPost_ret (results2 rfl ⟨_, rfl, loadVar_blk (cs := #[.string ⟨#[]⟩, .string ⟨#[]⟩, .string ⟨#[]⟩, .slice none 0 0, .bool false]) (t := 71) ?_ Tryz.underlying71 rfl info_prf5⟩ rfl) rfl ⟨?_, .slice none 0 0, rfl, IntsAt.nil _⟩
    · simpa using (((((HN.out.set 0 (.string ⟨#[]⟩)).set 1 (.string ⟨#[]⟩)).set 2 (.string ⟨#[]⟩)).set 3 (.slice none 0 0)).set 4 (.bool false))
    · iterate 5 refine Below.setCell ?_ (by exact Nat.le_refl _) _
      exact HBE.out
  | some j =>
    obtain ⟨hj, hq, hno⟩ := List.findIdx?_eq_some_iff_getElem.1 hfi
    have hfd : l.find? q = some l[j] := List.find?_eq_some_iff_getElem.2 ⟨hq, j, hj, rfl, fun i hi => by simpa using hno i hi⟩
    have hi : idxOf q l = (j : Int) := by rw [idxOf, hfi]
    rw [hi] at hix
    rw [hfd]
    obtain ⟨g, rfl, hrow⟩ := hA (by omega)
    obtain ⟨tv, hra0, hti⟩ := hrow.2 j hj
    have hg := hrow.1
    have q1 : (j : Int) < (l.length : Int) := by omega
    have q2 : decide ((j : Int) < 0) = false := decide_eq_false (by omega)
    clear hi hfd hfi hno hq hA hrow
    generalize l[j] = p at *
    obtain ⟨x0, x1, x2, x3, x4⟩ := p
    obtain ⟨A2, cc, rfl, hti⟩ := hti
    have HI := Lib.hid hix; have HB := Lib.hid hb
    clear hix
    go_enter Tryz.func36, Tryz.ntmps36
    go_wp2_with (go_at_call 68; refine (Hid.out (p := _) ?_))
    refine Lib.hid ?_
    refine HI.out.mono ?_
    rintro e w2 ⟨rfl, hb2⟩
    simp only []
    have hB := ((HB.out.alloc (.cells #[.string ⟨#[]⟩, .string ⟨#[]⟩, .string ⟨#[]⟩, .slice none 0 0, .bool false] 71)).below hb2 (by have := hb.lt; simp; omega))
    have hN := (Blk.new w #[.string ⟨#[]⟩, .string ⟨#[]⟩, .string ⟨#[]⟩, .slice none 0 0, .bool false] 71).below hb2 (by simp)
    have d0 := hB.cell 0
    have c1 := hN.cell 0; have c2 := hN.cell 1; have c3 := hN.cell 2; have c4 := hN.cell 3; have c5 := hN.cell 4
    have f0 := fun j => hN.free j
    have hbe : Below w.heap.size w w2 := hbw.trans (hb2.mono hbw.size)
    have hra : w2.rangeAt g (j * 5) (PrfD.cl ⟨x0, x1, x2, x3, x4⟩ (.slice A2 x3.length cc)) := fun i v hv => by rw [hbe.cell (p := ⟨g, j * 5 + i, none⟩) (Nat.lt_of_lt_of_le hg hw.size), hw.cell (p := ⟨g, j * 5 + i, none⟩) hg]; exact hra0 i v hv
    have e0 : w2.cell? ⟨g, j * 5, none⟩ = some (.string x0) := hra 0 _ rfl
    have e1 : w2.cell? ⟨g, j * 5 + 1, none⟩ = some (.string x1) := hra 1 _ rfl
    have e2 : w2.cell? ⟨g, j * 5 + 2, none⟩ = some (.string x2) := hra 2 _ rfl
    have e3 : w2.cell? ⟨g, j * 5 + 3, none⟩ = some (.slice A2 x3.length cc) := hra 3 _ rfl
    have e4 : w2.cell? ⟨g, j * 5 + 4, none⟩ = some (.bool x4) := hra 4 _ rfl
    have HN := Lib.hid hN; have HBE := Lib.hid hbe; have HT := Lib.hid hti
    clear hN hbe hB hk HI HB hb c0 hb2 hbw hra hra0 hti
    go_wp2_with fail
    have hbf : Below w.heap.size w (((((w2.setCell ⟨w.heap.size, 0, none⟩ (.string x0)).setCell ⟨w.heap.size, 1, none⟩ (.string x1)).setCell ⟨w.heap.size, 2, none⟩ (.string x2)).setCell ⟨w.heap.size, 3, none⟩ (.slice A2 x3.length cc)).setCell ⟨w.heap.size, 4, none⟩ (.bool x4)) := by
      iterate 5 refine Below.setCell ?_ (by exact Nat.le_refl _) _
      exact HBE.out
    refine bodyPost_ret (results2 rfl ⟨_, rfl, loadVar_blk (cs := #[.string x0, .string x1, .string x2, .slice A2 x3.length cc, .bool x4]) (t := 71) ?_ Tryz.underlying71 rfl info_prf5⟩ rfl) rfl ⟨hbf, .slice A2 x3.length cc, ?_, ?_⟩
    · simpa using (((((HN.out.set 0 (.string x0)).set 1 (.string x1)).set 2 (.string x2)).set 3 (.slice A2 x3.length cc)).set 4 (.bool x4))
    · rfl
    · exact ⟨A2, cc, rfl, HT.out⟩
end Go.Proofs.YtmkodendjlmijaaGreatDoor

/- denial's proofs: has, lacks, bare; worth; encloser. -/
namespace Go.Proofs.YtmkodendjlmijaaGreatDoor
open Go.RowKit

def PrfD.has (p : PrfD) (k : Int) : Bool := p.types.contains k
theorem contains_any (v : Value) (l : List Int) (k : Int) (w : World) (h : IntsAt v l w) : Calls Tryz.prog 95 #[v, .int .i64 k] w fun e w' => e = .returned (.bool (l.contains k)) ∧ w = w' := by
  obtain ⟨A, c, rfl, hm, h⟩ := h
  rcases Nat.eq_zero_or_pos l.length with h0 | h0
  · obtain rfl := List.eq_nil_of_length_eq_zero h0
    refine (Tryz.slices_Contains_int_empty A c k w).mono ?_
    rintro e w' ⟨rfl, rfl⟩
    exact ⟨rfl, rfl⟩
  · obtain ⟨g, o, rfl, hg, hc⟩ := h h0
    refine (Tryz.slices_Contains_int g o l.length c l k w (Nat.le_refl _) hm (fun j hj => ?_)).mono ?_
    · rw [hc j hj]; simp [List.getD, List.getElem?_eq_getElem hj]
    · rintro e w' ⟨rfl, rfl⟩
      exact ⟨by rw [List.take_length], rfl⟩
set_option maxRecDepth 100000 in
theorem prf_has (p : PrfD) (tv : Value) (k : Int) (w : World) (h : IntsAt tv p.types w) : Calls Tryz.prog 74 #[p.v tv, .int .i64 k] w (BoolB (p.has k) w) := by
  obtain ⟨x0, x1, x2, x3, x4⟩ := p
  have hb : Below w.heap.size w (w.alloc (.cells #[.string x0, .string x1, .string x2, tv, .bool x4] 71)) := (Below.refl _ w).alloc (Nat.le_refl _) _
  have hct := contains_any tv x3 k _ (h.below hb)
  obtain ⟨A, c, rfl, _⟩ := h
  have HC := Lib.hid hct; have HB := Lib.hid hb
  clear hct hb
  simp only [PrfD.v, PrfD.has]
  generalize x3.contains k = q at *
  go_enter Tryz.func74, Tryz.ntmps74
  go_wp2_with (go_at_call 95; refine (HC.out).mono ?_; rintro e w1 ⟨rfl, rfl⟩)
  go_ret
  exact ⟨rfl, HB.out⟩

def PrfD.lacks (p : PrfD) (k : Int) : Bool := !(if k = 43 then p.has 6 && !decide (p.owner = ⟨#[0]⟩) else p.has 2 && !p.has 6) && !p.has k && !p.has 5
def PrfD.bare (p : PrfD) : Bool := p.has 2 && !p.has 43 && !p.has 6
set_option maxRecDepth 100000 in
theorem prf_bare (p : PrfD) (tv : Value) (w : World) (h : IntsAt tv p.types w) : Calls Tryz.prog 43 #[p.v tv] w (BoolB p.bare w) := by
  have hh : ∀ k W, Below w.heap.size w W → Calls Tryz.prog 74 #[p.v tv, .int .i64 k] W (BoolB (p.has k) W) := fun k W hb => prf_has p tv k W (h.below hb)
  have hr : p.bare = (p.has 2 && !p.has 43 && !p.has 6) := rfl
  have h2 := hh 2; have h43 := hh 43; have h6 := hh 6
  generalize p.has 2 = b2 at *
  generalize p.has 43 = b43 at *
  generalize p.has 6 = b6 at *
  rw [hr]
  obtain ⟨x0, x1, x2, x3, x4⟩ := p
  obtain ⟨A, c, rfl, _⟩ := h
  simp only [PrfD.v] at *
  have H2 := Lib.hid h2; have H43 := Lib.hid h43; have H6 := Lib.hid h6
  clear h2 h43 h6 hh hr
  have bl : Below w.heap.size w (w.alloc (.cells #[.string x0, .string x1, .string x2, .slice A x3.length c, .bool x4] 71)) := (Below.refl _ w).alloc (Nat.le_refl _) _
  have hN := Blk.new w #[.string x0, .string x1, .string x2, .slice A x3.length c, .bool x4] 71
  have c0 := hN.cell 0; have c1 := hN.cell 1; have c2 := hN.cell 2; have c3 := hN.cell 3; have c4 := hN.cell 4
  cases b2 <;> cases b43 <;> cases b6
  all_goals
    go_enter Tryz.func43, Tryz.ntmps43
    go_wp2_with (first | (go_at_call 74; (with_reducible refine (H2.out _ bl).mono ?_); rintro e w2 ⟨rfl, hb⟩; replace bl := bl.trans (hb.mono bl.size); replace hN := hN.below hb hN.lt; clear hb c0 c1 c2 c3 c4; have c0 := hN.cell 0; have c1 := hN.cell 1; have c2 := hN.cell 2; have c3 := hN.cell 3; have c4 := hN.cell 4) | (go_at_call 74; (with_reducible refine (H43.out _ bl).mono ?_); rintro e w2 ⟨rfl, hb⟩; replace bl := bl.trans (hb.mono bl.size); replace hN := hN.below hb hN.lt; clear hb c0 c1 c2 c3 c4; have c0 := hN.cell 0; have c1 := hN.cell 1; have c2 := hN.cell 2; have c3 := hN.cell 3; have c4 := hN.cell 4) | (go_at_call 74; (with_reducible refine (H6.out _ bl).mono ?_); rintro e w2 ⟨rfl, hb⟩; replace bl := bl.trans (hb.mono bl.size); replace hN := hN.below hb hN.lt; clear hb c0 c1 c2 c3 c4; have c0 := hN.cell 0; have c1 := hN.cell 1; have c2 := hN.cell 2; have c3 := hN.cell 3; have c4 := hN.cell 4))
    go_ret
    exact ⟨rfl, bl⟩
set_option maxRecDepth 100000 in
set_option maxHeartbeats 4000000 in
theorem prf_lacks (p : PrfD) (tv : Value) (k : Int) (w : World) (h : IntsAt tv p.types w) : Calls Tryz.prog 44 #[p.v tv, .int .i64 k] w (BoolB (p.lacks k) w) := by
  have hh : ∀ k W, Below w.heap.size w W → Calls Tryz.prog 74 #[p.v tv, .int .i64 k] W (BoolB (p.has k) W) := fun k W hb => prf_has p tv k W (h.below hb)
  have hr : p.lacks k = (!(if k = 43 then p.has 6 && !decide (p.owner = ⟨#[0]⟩) else p.has 2 && !p.has 6) && !p.has k && !p.has 5) := rfl
  have h2 := hh 2; have h5 := hh 5; have h6 := hh 6; have hk := hh k
  generalize p.has 2 = b2 at *
  generalize p.has 5 = b5 at *
  generalize p.has 6 = b6 at *
  generalize p.has k = bk at *
  rw [hr]
  obtain ⟨x0, x1, x2, x3, x4⟩ := p
  obtain ⟨A, c, rfl, _⟩ := h
  simp only [PrfD.v] at *
  have H2 := Lib.hid h2; have H5 := Lib.hid h5; have H6 := Lib.hid h6; have HK := Lib.hid hk
  clear h2 h5 h6 hk hh hr
  have bl : Below w.heap.size w (w.alloc (.cells #[.string x0, .string x1, .string x2, .slice A x3.length c, .bool x4] 71)) := (Below.refl _ w).alloc (Nat.le_refl _) _
  have hN := Blk.new w #[.string x0, .string x1, .string x2, .slice A x3.length c, .bool x4] 71
  have c0 := hN.cell 0; have c1 := hN.cell 1; have c2 := hN.cell 2; have c3 := hN.cell 3; have c4 := hN.cell 4
  by_cases hk : k = 43
  · have qk : (k == 43) = true := beq_iff_eq.2 hk
    by_cases ho : x0 = ⟨#[0]⟩
    · have qo : (x0.toList == [0]) = true := beq_iff_eq.2 (by rw [ho, ByteArray.toList_eq])
      rw [if_pos hk, decide_eq_true ho]
      clear hk ho
      cases b2 <;> cases b6 <;> cases bk <;> cases b5
      all_goals
        go_enter Tryz.func44, Tryz.ntmps44
        go_wp2_with (first | (go_at_call 74; (with_reducible refine (H2.out _ bl).mono ?_); rintro e w2 ⟨rfl, hb⟩; replace bl := bl.trans (hb.mono bl.size); replace hN := hN.below hb hN.lt; clear hb c0 c1 c2 c3 c4; have c0 := hN.cell 0; have c1 := hN.cell 1; have c2 := hN.cell 2; have c3 := hN.cell 3; have c4 := hN.cell 4) | (go_at_call 74; (with_reducible refine (H5.out _ bl).mono ?_); rintro e w2 ⟨rfl, hb⟩; replace bl := bl.trans (hb.mono bl.size); replace hN := hN.below hb hN.lt; clear hb c0 c1 c2 c3 c4; have c0 := hN.cell 0; have c1 := hN.cell 1; have c2 := hN.cell 2; have c3 := hN.cell 3; have c4 := hN.cell 4) | (go_at_call 74; (with_reducible refine (H6.out _ bl).mono ?_); rintro e w2 ⟨rfl, hb⟩; replace bl := bl.trans (hb.mono bl.size); replace hN := hN.below hb hN.lt; clear hb c0 c1 c2 c3 c4; have c0 := hN.cell 0; have c1 := hN.cell 1; have c2 := hN.cell 2; have c3 := hN.cell 3; have c4 := hN.cell 4) | (go_at_call 74; (with_reducible refine (HK.out _ bl).mono ?_); rintro e w2 ⟨rfl, hb⟩; replace bl := bl.trans (hb.mono bl.size); replace hN := hN.below hb hN.lt; clear hb c0 c1 c2 c3 c4; have c0 := hN.cell 0; have c1 := hN.cell 1; have c2 := hN.cell 2; have c3 := hN.cell 3; have c4 := hN.cell 4))
        go_ret
        exact ⟨rfl, bl⟩
    · have qo : (x0.toList == [0]) = false := beq_eq_false_iff_ne.2 (fun e => toList_ne ho (e.trans (by rw [ByteArray.toList_eq])))
      rw [if_pos hk, decide_eq_false ho]
      clear hk ho
      cases b2 <;> cases b6 <;> cases bk <;> cases b5
      all_goals
        go_enter Tryz.func44, Tryz.ntmps44
        go_wp2_with (first | (go_at_call 74; (with_reducible refine (H2.out _ bl).mono ?_); rintro e w2 ⟨rfl, hb⟩; replace bl := bl.trans (hb.mono bl.size); replace hN := hN.below hb hN.lt; clear hb c0 c1 c2 c3 c4; have c0 := hN.cell 0; have c1 := hN.cell 1; have c2 := hN.cell 2; have c3 := hN.cell 3; have c4 := hN.cell 4) | (go_at_call 74; (with_reducible refine (H5.out _ bl).mono ?_); rintro e w2 ⟨rfl, hb⟩; replace bl := bl.trans (hb.mono bl.size); replace hN := hN.below hb hN.lt; clear hb c0 c1 c2 c3 c4; have c0 := hN.cell 0; have c1 := hN.cell 1; have c2 := hN.cell 2; have c3 := hN.cell 3; have c4 := hN.cell 4) | (go_at_call 74; (with_reducible refine (H6.out _ bl).mono ?_); rintro e w2 ⟨rfl, hb⟩; replace bl := bl.trans (hb.mono bl.size); replace hN := hN.below hb hN.lt; clear hb c0 c1 c2 c3 c4; have c0 := hN.cell 0; have c1 := hN.cell 1; have c2 := hN.cell 2; have c3 := hN.cell 3; have c4 := hN.cell 4) | (go_at_call 74; (with_reducible refine (HK.out _ bl).mono ?_); rintro e w2 ⟨rfl, hb⟩; replace bl := bl.trans (hb.mono bl.size); replace hN := hN.below hb hN.lt; clear hb c0 c1 c2 c3 c4; have c0 := hN.cell 0; have c1 := hN.cell 1; have c2 := hN.cell 2; have c3 := hN.cell 3; have c4 := hN.cell 4))
        go_ret
        exact ⟨rfl, bl⟩
  · have qk : (k == 43) = false := beq_eq_false_iff_ne.2 hk
    rw [if_neg hk]
    clear hk
    cases b2 <;> cases b6 <;> cases bk <;> cases b5
    all_goals
      go_enter Tryz.func44, Tryz.ntmps44
      go_wp2_with (first | (go_at_call 74; (with_reducible refine (H2.out _ bl).mono ?_); rintro e w2 ⟨rfl, hb⟩; replace bl := bl.trans (hb.mono bl.size); replace hN := hN.below hb hN.lt; clear hb c0 c1 c2 c3 c4; have c0 := hN.cell 0; have c1 := hN.cell 1; have c2 := hN.cell 2; have c3 := hN.cell 3; have c4 := hN.cell 4) | (go_at_call 74; (with_reducible refine (H5.out _ bl).mono ?_); rintro e w2 ⟨rfl, hb⟩; replace bl := bl.trans (hb.mono bl.size); replace hN := hN.below hb hN.lt; clear hb c0 c1 c2 c3 c4; have c0 := hN.cell 0; have c1 := hN.cell 1; have c2 := hN.cell 2; have c3 := hN.cell 3; have c4 := hN.cell 4) | (go_at_call 74; (with_reducible refine (H6.out _ bl).mono ?_); rintro e w2 ⟨rfl, hb⟩; replace bl := bl.trans (hb.mono bl.size); replace hN := hN.below hb hN.lt; clear hb c0 c1 c2 c3 c4; have c0 := hN.cell 0; have c1 := hN.cell 1; have c2 := hN.cell 2; have c3 := hN.cell 3; have c4 := hN.cell 4) | (go_at_call 74; (with_reducible refine (HK.out _ bl).mono ?_); rintro e w2 ⟨rfl, hb⟩; replace bl := bl.trans (hb.mono bl.size); replace hN := hN.below hb hN.lt; clear hb c0 c1 c2 c3 c4; have c0 := hN.cell 0; have c1 := hN.cell 1; have c2 := hN.cell 2; have c3 := hN.cell 3; have c4 := hN.cell 4))
      go_ret
      exact ⟨rfl, bl⟩
end Go.Proofs.YtmkodendjlmijaaGreatDoor

/- denial's worth, and the encloser of a proof. -/
namespace Go.Proofs.YtmkodendjlmijaaGreatDoor
open Go.RowKit

def worthI (ok : Bool) (p : PrfD) : Int := if ok = false then 0 else if p.out = true then 2 else 1
theorem den_worth (ok : Bool) (p : PrfD) (tv : Value) (w : World) (h : IntsAt tv p.types w) : Calls Tryz.prog 41 #[.bool ok, p.v tv] w fun e w' => e = .returned (.int .i64 (worthI ok p)) ∧ Below w.heap.size w w' := by
  obtain ⟨x0, x1, x2, x3, x4⟩ := p
  obtain ⟨A, c, rfl, _⟩ := h
  simp only [PrfD.v, worthI] at *
  have bl : Below w.heap.size w (w.alloc (.cells #[.string x0, .string x1, .string x2, .slice A x3.length c, .bool x4] 71)) := (Below.refl _ w).alloc (Nat.le_refl _) _
  have hN := Blk.new w #[.string x0, .string x1, .string x2, .slice A x3.length c, .bool x4] 71
  have c4 := hN.cell 4
  clear hN
  cases ok <;> cases x4
  all_goals
    go_enter Tryz.func41, Tryz.ntmps41
    go_wp2_with fail
    go_ret
    exact ⟨rfl, bl⟩
def PrfD.encl (p : PrfD) (n : ByteArray) : ByteArray := if (commonR n p.owner).1.size < (commonR n p.next).1.size then (commonR n p.next).1 else (commonR n p.owner).1
set_option maxRecDepth 100000 in
theorem prf_encloser (p : PrfD) (tv : Value) (n : ByteArray) (w : World) (h : IntsAt tv p.types w) : Calls Tryz.prog 42 #[p.v tv, .string n] w fun e w' => e = .returned (.string (p.encl n)) ∧ Below w.heap.size w w' := by
  have h1 : ∀ W, Calls Tryz.prog 75 #[.string n, .string p.owner] W fun e w' => e = .returned (.tuple #[.string (commonR n p.owner).1, .int .i64 (commonR n p.owner).2]) ∧ Below W.heap.size W w' := fun W => name_common n p.owner W
  have h2 : ∀ W, Calls Tryz.prog 75 #[.string n, .string p.next] W fun e w' => e = .returned (.tuple #[.string (commonR n p.next).1, .int .i64 (commonR n p.next).2]) ∧ Below W.heap.size W w' := fun W => name_common n p.next W
  have hr : p.encl n = (if (commonR n p.owner).1.size < (commonR n p.next).1.size then (commonR n p.next).1 else (commonR n p.owner).1) := rfl
  rw [hr]
  clear hr
  generalize (commonR n p.owner).1 = a1 at *
  generalize (commonR n p.owner).2 = a2 at *
  generalize (commonR n p.next).1 = b1 at *
  generalize (commonR n p.next).2 = b2 at *
  obtain ⟨x0, x1, x2, x3, x4⟩ := p
  obtain ⟨A, c, rfl, _⟩ := h
  simp only [PrfD.v] at *
  have H1 := Lib.hid h1; have H2 := Lib.hid h2
  clear h1 h2
  have bl : Below w.heap.size w (w.alloc (.cells #[.string x0, .string x1, .string x2, .slice A x3.length c, .bool x4] 71)) := (Below.refl _ w).alloc (Nat.le_refl _) _
  have hN := Blk.new w #[.string x0, .string x1, .string x2, .slice A x3.length c, .bool x4] 71
  have c0 := hN.cell 0
  by_cases hc : a1.size < b1.size
  · rw [if_pos hc]
    have q1 : decide ((a1.size : Int) < (b1.size : Int)) = true := decide_eq_true (by omega)
    go_enter Tryz.func42, Tryz.ntmps42
    go_wp2_with (go_at_call 75; refine (Hid.out (p := _) ?_))
    refine Lib.hid ?_
    refine (H1.out _).mono ?_
    rintro e w2 ⟨rfl, hb⟩
    replace bl := bl.trans (hb.mono bl.size)
    replace hN := hN.below hb hN.lt
    clear hb c0
    have c0 := hN.cell 1
    simp only []
    go_wp2_with (go_at_call 75; refine (Hid.out (p := _) ?_))
    refine Lib.hid ?_
    refine (H2.out _).mono ?_
    rintro e w3 ⟨rfl, hb⟩
    replace bl := bl.trans (hb.mono bl.size)
    clear hb c0
    simp only []
    go_wp2_with fail
    go_ret
    exact ⟨rfl, bl⟩
  · rw [if_neg hc]
    have q1 : decide ((a1.size : Int) < (b1.size : Int)) = false := decide_eq_false (by omega)
    go_enter Tryz.func42, Tryz.ntmps42
    go_wp2_with (go_at_call 75; refine (Hid.out (p := _) ?_))
    refine Lib.hid ?_
    refine (H1.out _).mono ?_
    rintro e w2 ⟨rfl, hb⟩
    replace bl := bl.trans (hb.mono bl.size)
    replace hN := hN.below hb hN.lt
    clear hb c0
    have c0 := hN.cell 1
    simp only []
    go_wp2_with (go_at_call 75; refine (Hid.out (p := _) ?_))
    refine Lib.hid ?_
    refine (H2.out _).mono ?_
    rintro e w3 ⟨rfl, hb⟩
    replace bl := bl.trans (hb.mono bl.size)
    clear hb c0
    simp only []
    go_wp2_with fail
    go_ret
    exact ⟨rfl, bl⟩
end Go.Proofs.YtmkodendjlmijaaGreatDoor

/- name.Labels. -/
namespace Go.Proofs.YtmkodendjlmijaaGreatDoor
open Go.RowKit Go.Shelf
attribute [local go_sem] Oper.semAt_some

theorem ownS_appendIn {F : Fence} {n : Nat} {ops : Array Oper} {rest : List Oper} {o : Oper} {a : Act} {Q : Exit → Act → World → Prop} {base : Nat} {v : Value} {l : List ByteArray} {W : World} (HO : OwnS base v l W) (hbase : base ≤ W.heap.size) (x : ByteArray) (hl : l.length + 1 ≤ 1000000)
    (hgd : o.guard = none) (s y : Operand) (ho : o.op = .call { callee := .builtin .append, args := #[s, y], argTypes := #[36, 36] }) (cs : Array Value) (m c : Nat) (hs : a.eval s = v) (hx : a.eval y = .slice (some ⟨W.heap.size, 0, none⟩) m c) (hcs : cs = #[.string x]) (hm : m = 1)
    (h : ∀ v1 w1, OwnS base v1 (l ++ [x]) w1 → (W.alloc (.cells cs 9)).grownBy w1 v.ownBlock → wpListIn F n Tryz.prog ops Q rest (a.put o.dst v1) w1) : wpListIn F n Tryz.prog ops Q (o :: rest) a (W.alloc (.cells cs 9)) := by
  subst hcs hm
  obtain ⟨i0, hi, hzz⟩ := Option.map_eq_some_iff.1 info_str
  simp only [Prod.mk.injEq] at hzz
  obtain ⟨hz0, hz1, hz2⟩ := hzz
  refine wpListIn_append_own_at (W.alloc (.cells #[.string x] 9)) hgd s y 36 ho base 9 i0 (.string ⟨#[]⟩) 1 16 Tryz.underlying36 hi hz0 hz1 hz2 rfl (by omega) v l.length (l.map .string) hs (World.ownsRow.alloc HO _) ⟨W.heap.size, 0, none⟩ 1 c [.string x] hx rfl
    (World.news_of_block (cs := #[.string x]) (t := 9) (fr := (0, 0)) (heap_alloc_new W _)) (by intro u hu; simp at hu; obtain rfl := hu; rfl) (by simp only [maxLen]; omega) (by omega) (by simp; omega) ?_
  intro v1 w1 hown hg _ _
  exact h v1 w1 (by simpa [OwnS] using hown) hg

theorem OwnS.kept {base : Nat} {v : Value} {l : List ByteArray} {W W' : World} {row : Option Nat} (h : OwnS base v l W) (hg : W.grownBy W' row) (hrow : ∀ r, row = some r → ∃ o : Obj, W.heap[r]? = some o ∧ o.isCells = false) : OwnS base v l W' := by
  refine ⟨h.1, ?_⟩
  rcases h.2 with h | ⟨g, cap, cur, h1, h2, h3, h4⟩
  · exact .inl h
  · refine .inr ⟨g, cap, cur, h1, h2, ?_, h4⟩
    rw [hg.block g (Array.getElem?_eq_some_iff.1 h3).1]
    · exact h3
    · intro e
      obtain ⟨o, ho, hc⟩ := hrow g e.symm
      rw [h3] at ho
      cases ho
      simp [Obj.isCells] at hc
theorem OwnS.others {base : Nat} {v : Value} {l : List ByteArray} {W W1 W' : World} (h : OwnS base v l W) (h1 : KeepsOthers W W1) (hs : ∀ j, j < W.heap.size → W1.heap[j]? = W.heap[j]?) (hg : W1.grownBy W' v.ownBlock) : KeepsOthers W W' := by
  refine h1.trans (KeepsOthers.of_grownBy hg ?_)
  intro j o hj ho
  rcases h.2 with ⟨rfl, _⟩ | ⟨g, cap, cur, rfl, h2, h3, h4⟩
  · cases hj
  · obtain rfl : g = j := by simpa [Value.ownBlock] using hj
    rw [hs g (Array.getElem?_eq_some_iff.1 h3).1, h3] at ho
    cases ho
    rfl

theorem labsN_len (s : ByteArray) : ∀ (f p : Nat), p ≤ s.size → (labs s f p).length + p ≤ s.size := by
  intro f
  induction f with
  | zero => intro p h; simp [labs]; exact h
  | succ f ih =>
    intro p h
    rw [labs]
    split
    · rename_i hc
      have := ih _ hc.2.2.2
      simp only [List.length_cons]
      omega
    · simpa using h
theorem labelsN_len (s : ByteArray) : (labels s).length ≤ s.size := by
  have := labsN_len s (s.size + 1) 0 (Nat.zero_le _)
  exact this

set_option maxRecDepth 100000 in
theorem name_labels_in (s : ByteArray) (w : World) (hr : nameRight s = true) :
    CallsIn Fence.wide 4 Tryz.prog 59 #[.string s] w fun e w' => (∃ v, e = .returned v ∧ OwnS w.heap.size v ((labels s).map (·.2)) w') ∧ Below w.heap.size w w' := by
  have h255 : s.size ≤ 255 := by simp [nameRight] at hr; omega
  have hrc := fun w => name_right s w
  rw [hr] at hrc
  have HR := Lib.hid hrc
  clear hrc hr
  have hro : Fence.wide.round = none := rfl
  have hn1 : 1 ≤ 4 := by omega
  refine callsIn_of_wp_marks Tryz.func59 rfl trivial ?_ hro
  simp only [Tryz.ntmps59, List.size_toArray, List.length_cons, List.length_nil, Nat.reduceAdd, Nat.reduceSub, Array.replicate_succ, Array.replicate_zero, List.push_toArray, List.append_toArray, List.nil_append, List.cons_append]
  gi_wp2_with (first | (refine ⟨trivial, ?_⟩; gi_at_call 32; refine (callsIn_wide.2 (labels_any _ _)).mono ?_; rintro e w' ⟨rfl, rfl⟩) | (refine ⟨trivial, ?_⟩; gi_at_call 12; refine (callsIn_wide.2 (HR.out _)).mono ?_; rintro e w1 ⟨rfl, hB1⟩))
  have hB0 : Below w.heap.size w ((w1.alloc (.cells #[.slice none 0 0] 36)).alloc (.cells #[.string s] 9)) := (hB1.alloc hB1.size _).alloc (by simp; have := hB1.size; omega) _
  have b0 : Blk ((w1.alloc (.cells #[.slice none 0 0] 36)).alloc (.cells #[.string s] 9)) w1.heap.size #[.slice none 0 0] 36 := (Blk.new w1 _ _).alloc _
  have b1 : Blk ((w1.alloc (.cells #[.slice none 0 0] 36)).alloc (.cells #[.string s] 9)) (w1.heap.size + 1) #[.string s] 9 := by
    have := Blk.new (w1.alloc (.cells #[.slice none 0 0] 36)) #[.string s] 9
    simpa using this
  have hsz : w.heap.size ≤ w1.heap.size := hB1.size
  clear HR hB1
  refine wpIn_rangeFunc_ownF (α := Lab s) (ps := #[11, 12]) hro hn1 (gf := 60) (lb := #[.pointer (some ⟨w1.heap.size + 1, 0, none⟩)]) rfl trivial (enters_of Tryz.func60 (by kernel_rfl) rfl)
    (labels1_stops Fence.wide 3 trivial hro (by omega) (w1.heap.size + 1) s _ (by omega) b1) keepsBlk_t keepsBlk_b (Below.refl _ _) (fun _ => rfl)
    (fun pre W => (∃ v, Blk W w1.heap.size #[v] 36 ∧ OwnS (w1.heap.size + 1 + 1) v ((labPre pre).map (·.2)) W) ∧ (w1.heap.size + 1 + 1 ≤ W.heap.size ∧ Below w.heap.size w W))
    (fun _ _ _ => False)
    (OwnFrom.and (Own.from (fun s A B row hs hg hr => by obtain ⟨v, h1, h2⟩ := hs; exact ⟨v, h1.kept hg hr, h2.kept hg hr⟩) _) (OwnFrom.and (Own.from (fun s A B row hs hg hr => Nat.le_trans hs hg.size) _) (ownFrom_below (Nat.le_refl _) (by simp; omega))))
    (fun _ _ _ _ _ hs _ _ => hs)
    ⟨⟨_, b0, OwnS.nil _ _⟩, by simp, hB0⟩
    (fun x => { tmps := #[.string s, undef, .slice none 0 0, .pointer (some ⟨w1.heap.size, 0, none⟩), undef, .string x.1.2, .string s, .bool true, .bool false, .string s, .func (.func 60) #[] #[.pointer (some ⟨w1.heap.size + 1, 0, none⟩)], .int .i64 (x.1.1 : Int), .string x.1.2, undef, undef, undef, undef, undef], defers := [] }) ?assign ?body ?done ?stop
  case assign =>
    intro l x W K hK
    simp only [encLab]
    gi_wp2
    exact hK
  case body =>
    rintro l pre x W ⟨⟨v, hb, ho⟩, hs, hB⟩ hN
    have hlen : ((labPre pre).map (·.2)).length ≤ s.size := by simp only [labPre, List.length_map]; have := labelsN_len s; omega
    have hc : W.cell? ⟨w1.heap.size, 0, none⟩ = some v := hb.cell 0
    have hf := hb.free 0
    obtain ⟨A, c0, rfl⟩ := OwnS.len ho
    have hpre : (labPre (pre ++ [x])).map (·.2) = (labPre pre).map (·.2) ++ [x.1.2] := by rw [labPre_snoc]; simp
    have HP := Lib.hid hpre
    clear hpre
    generalize (labPre pre).map (·.2) = ls at *
    have HB := Lib.hid hb; have HO := Lib.hid ho; have HS := Lib.hid hs; have HBB := Lib.hid hB; have HL := Lib.hid hlen
    clear hb ho hs hB hlen
    gi_wp2_with (gi_at_builtin; refine ownS_appendIn (base := w1.heap.size + 1 + 1) HO.out HS.out x.1.2 (by have := HL.out; omega) rfl _ _ rfl _ 1 1 rfl rfl rfl rfl ?_; intro v1 w2 ho2 hg2; obtain ⟨A2, c2, rfl⟩ := OwnS.len ho2; have hb2 : Blk w2 w1.heap.size #[.slice A ls.length c0] 36 := (show w2.heap[w1.heap.size]? = _ from (hg2.block _ (HB.out.alloc _).lt (fun e => by have := ownBase HO.out _ e.symm; omega)).trans (HB.out.alloc _)); have hc2 := hb2.cell 0; have hf2 := hb2.free 0; replace ho2 := Lib.hid ho2; replace hg2 := Lib.hid hg2; replace hb2 := Lib.hid hb2)
    have hk2 : KeepsOthers W w2 := OwnS.others HO.out (KeepsOthers.alloc W _) (fun j hj => Below.heap_alloc _ _ j hj) hg2.out
    have hB2 : Below w.heap.size w w2 := (HBB.out.alloc HBB.out.size _).grown hg2.out (by have := HBB.out.size; simp; omega) (fun k hk => by have := ownBase HO.out k hk; omega)
    refine ⟨hk2.trans (KeepsOthers.setCell _ _ _), ?_, ⟨_, hb2.out.set 0 _, ?_⟩, ?_, hB2.setCell (p := ⟨w1.heap.size, 0, none⟩) hsz _⟩
    · intro cs t hb
      have e1 : Blk w2 (w1.heap.size + 1) cs t := (show w2.heap[w1.heap.size + 1]? = _ from (hg2.out.block _ (hb.alloc _).lt (fun e => by have := ownBase HO.out _ e.symm; omega)).trans (hb.alloc _))
      exact e1.other (by simp) _
    · rw [HP.out]
      have e2 : OwnS (w1.heap.size + 1 + 1) (.slice A2 (ls.length + 1) c2) (ls ++ [x.1.2]) w2 := by simpa using ho2.out
      exact e2.only (Only.setCell (b := w1.heap.size) ⟨w1.heap.size, 0, none⟩ rfl _) (by omega)
    · have := hg2.out.size
      have := HS.out
      simp at *
      omega
  case done =>
    rintro D ys W hD hS ⟨⟨v, hb, ho⟩, hs, hB⟩ hK
    rw [hS] at ho
    have hc : W.cell? ⟨w1.heap.size, 0, none⟩ = some v := hb.cell 0
    have HO := Lib.hid ho
    clear hS hb ho
    gi_wp2
    refine ⟨by simp, .inl ⟨_, _, rfl, run_takeDeferred hK, ?_⟩⟩
    exact ⟨_, results_tmp rfl _ _ _, ⟨v, rfl, (HO.out.kept (grownBy_putObj' W D _) (fun r e => by cases e; exact ⟨_, hK, rfl⟩)).lift (by omega)⟩, hB.trans (belowK_b (w := w) (Nat.le_refl _) W D _ _ (by simp at hD; omega) hK rfl rfl)⟩
  case stop =>
    rintro D c pre W _ _ h _
    exact h.elim

/-- name.Labels. -/
theorem name_labels (s : ByteArray) (w : World) : Calls Tryz.prog 59 #[.string s] w (NamesP (if nameRight s = true then (labels s).map (·.2) else []) w) := by
  by_cases h : nameRight s = true
  · rw [if_pos h]
    refine (callsIn_wide.1 (name_labels_in s w h)).mono ?_
    rintro e w' ⟨⟨v, h1, h2⟩, h3⟩
    exact ⟨h3, v, h1, h2⟩
  · rw [if_neg h]
    have hr := name_right s
    rw [show nameRight s = false by simpa using h] at hr
    have HR := Lib.hid hr
    clear hr
    go_enter Tryz.func59, Tryz.ntmps59
    go_wp2_with (go_at_call 12; refine (HR.out _).mono ?_; rintro e w1 ⟨rfl, hB1⟩)
    go_ret
    exact ⟨hB1, _, rfl, OwnS.nil _ _⟩
end Go.Proofs.YtmkodendjlmijaaGreatDoor

/- name.Compare. -/
namespace Go.Proofs.YtmkodendjlmijaaGreatDoor
open Go.RowKit Go.BigFrame

/-- The labels of a name, in small letters, the last one first. -/
def backLabels (a : ByteArray) : List ByteArray := ((labels (nameLower a)).map (·.2)).reverse
def nameCmp (a b : ByteArray) : Int :=
  if nameRight a = false then (if nameRight b = false then Lib.compareBytes a.data.toList b.data.toList else -1)
  else if nameRight b = false then 1 else cmpL (backLabels a) (backLabels b)
def lenV : Value → Nat
  | .slice _ n _ => n
  | _ => 0
theorem cmpL_take {la lb : List ByteArray} {j k : Nat} (hj : j < la.length) (hk : k < lb.length) :
    cmpL (la.take (j + 1)).reverse (lb.take (k + 1)).reverse = if Lib.compareBytes la[j].data.toList lb[k].data.toList ≠ 0 then Lib.compareBytes la[j].data.toList lb[k].data.toList else cmpL (la.take j).reverse (lb.take k).reverse := by
  rw [List.take_succ_eq_append_getElem hj, List.take_succ_eq_append_getElem hk, List.reverse_append, List.reverse_append]
  rfl
theorem cmpL_end (la lb : List ByteArray) (j k : Nat) (hj : j ≤ la.length) (hk : k ≤ lb.length) (h : j = 0 ∨ k = 0) : cmpL (la.take j).reverse (lb.take k).reverse = (min 1 (j : Int)) - min 1 (k : Int) := by
  cases j with
  | zero =>
    cases k with
    | zero => rfl
    | succ k =>
      rw [List.take_succ_eq_append_getElem (by omega : k < lb.length), List.reverse_append]
      simp [cmpL]; omega
  | succ j =>
    obtain rfl : k = 0 := by omega
    rw [List.take_succ_eq_append_getElem (by omega : j < la.length), List.reverse_append]
    simp [cmpL]; omega
theorem OwnS.cap_le {base : Nat} {A : Option Addr} {n c : Nat} {l : List ByteArray} {w : World} (h : OwnS base (.slice A n c) l w) : l.length ≤ c := by
  rcases h.2 with ⟨_, h0⟩ | ⟨g, cap, cur, h1, _, _, h3, _⟩
  · omega
  · cases h1; exact h3
def CmpP (a b : ByteArray) (w : World) (e : Ending) (w' : World) : Prop := e = .returned (.int .i64 (nameCmp a b)) ∧ Below w.heap.size w w'
theorem cmp_wrong (a b : ByteArray) (w : World) (h : ¬ (nameRight a = true ∧ nameRight b = true)) : Calls Tryz.prog 31 #[.string a, .string b] w (CmpP a b w) := by
  have h1 := fun w => name_right a w
  have h2 := fun w => name_right b w
  have hr : nameCmp a b = (if nameRight a = false then (if nameRight b = false then Lib.compareBytes a.data.toList b.data.toList else -1) else if nameRight b = false then 1 else cmpL (backLabels a) (backLabels b)) := rfl
  have HE := Lib.hid hr
  clear hr
  generalize nameRight a = p at *
  generalize nameRight b = q at *
  cases p with
  | false =>
    cases q with
    | false =>
      have H1 := Lib.hid h1; have H2 := Lib.hid h2
      clear h1 h2
      go_enter Tryz.func31, Tryz.ntmps31
      go_wp2_with (go_at_call 12; refine (Hid.out (p := _) ?_))
      refine Lib.hid ?_
      refine (H1.out _).mono ?_
      rintro e w1 ⟨rfl, hb1⟩
      simp only []
      go_wp2_with (go_at_call 12; refine (Hid.out (p := _) ?_))
      refine Lib.hid ?_
      refine (H2.out _).mono ?_
      rintro e w2 ⟨rfl, hb2⟩
      have HB2 := Lib.hid (hb1.trans (hb2.mono hb1.size))
      clear hb1 hb2
      simp only []
      go_wp2_with (go_at_call 58; refine (Tryz.strings_Compare _ _ _).mono ?_; rintro e w3 ⟨rfl, rfl⟩)
      go_ret
      exact ⟨by rw [HE.out]; rfl, HB2.out⟩
    | true =>
      have H1 := Lib.hid h1; have H2 := Lib.hid h2
      clear h1 h2
      go_enter Tryz.func31, Tryz.ntmps31
      go_wp2_with (go_at_call 12; refine (Hid.out (p := _) ?_))
      refine Lib.hid ?_
      refine (H1.out _).mono ?_
      rintro e w1 ⟨rfl, hb1⟩
      simp only []
      go_wp2_with (go_at_call 12; refine (Hid.out (p := _) ?_))
      refine Lib.hid ?_
      refine (H2.out _).mono ?_
      rintro e w2 ⟨rfl, hb2⟩
      have HB2 := Lib.hid (hb1.trans (hb2.mono hb1.size))
      clear hb1 hb2
      simp only []
      go_wp2_with fail
      go_ret
      exact ⟨by rw [HE.out]; rfl, HB2.out⟩
  | true =>
    cases q with
    | false =>
      have H1 := Lib.hid h1; have H2 := Lib.hid h2
      clear h1 h2
      go_enter Tryz.func31, Tryz.ntmps31
      go_wp2_with (go_at_call 12; refine (Hid.out (p := _) ?_))
      refine Lib.hid ?_
      refine (H1.out _).mono ?_
      rintro e w1 ⟨rfl, hb1⟩
      simp only []
      go_wp2_with (go_at_call 12; refine (Hid.out (p := _) ?_))
      refine Lib.hid ?_
      refine (H2.out _).mono ?_
      rintro e w2 ⟨rfl, hb2⟩
      have HB2 := Lib.hid (hb1.trans (hb2.mono hb1.size))
      clear hb1 hb2
      simp only []
      go_wp2_with fail
      go_ret
      exact ⟨by rw [HE.out]; rfl, HB2.out⟩
    | true => exact absurd ⟨rfl, rfl⟩ h

set_option maxRecDepth 100000 in
set_option maxHeartbeats 1000000 in
theorem cmp_right (a b : ByteArray) (w : World) (ha : nameRight a = true) (hb : nameRight b = true) : Calls Tryz.prog 31 #[.string a, .string b] w (CmpP a b w) := by
  have h1 := fun w => name_right a w
  have h2 := fun w => name_right b w
  have h3 := fun w => name_lower a w
  have h4 := fun w => name_lower b w
  have h5 := fun w => name_labels (nameLower a) w
  have h6 := fun w => name_labels (nameLower b) w
  have hla : ((labels (nameLower a)).map (·.2)).length ≤ 255 := by
    have e1 := labelsN_len (nameLower a)
    have e2 : nameRight (nameLower a) = true := by rw [right_lower, ha]
    simp only [nameRight, Bool.and_eq_true, decide_eq_true_eq] at e2
    rw [List.length_map]; omega
  have hlb : ((labels (nameLower b)).map (·.2)).length ≤ 255 := by
    have e1 := labelsN_len (nameLower b)
    have e2 : nameRight (nameLower b) = true := by rw [right_lower, hb]
    simp only [nameRight, Bool.and_eq_true, decide_eq_true_eq] at e2
    rw [List.length_map]; omega
  rw [right_lower, ha] at h5
  rw [right_lower, hb] at h6
  simp only [if_true] at h5 h6
  have hr : nameCmp a b = cmpL ((labels (nameLower a)).map (·.2)).reverse ((labels (nameLower b)).map (·.2)).reverse := by rw [nameCmp, ha, hb]; rfl
  have HE := Lib.hid hr
  clear hr
  rw [ha] at h1; rw [hb] at h2
  generalize (labels (nameLower a)).map (·.2) = la at *
  generalize (labels (nameLower b)).map (·.2) = lb at *
  generalize nameLower a = x at *
  generalize nameLower b = y at *
  have HLA := Lib.hid hla; have HLB := Lib.hid hlb
  clear hla hlb
  have H3 := Lib.hid h3; have H4 := Lib.hid h4; have H5 := Lib.hid h5; have H6 := Lib.hid h6
  clear h3 h4 h5 h6 ha hb
  have H1 := Lib.hid h1; have H2 := Lib.hid h2
  clear h1 h2
  go_enter Tryz.func31, Tryz.ntmps31
  go_wp2_with (go_at_call 12; refine (Hid.out (p := _) ?_))
  refine Lib.hid ?_
  refine (H1.out _).mono ?_
  rintro e w1 ⟨rfl, hb1⟩
  simp only []
  go_wp2_with (go_at_call 12; refine (Hid.out (p := _) ?_))
  refine Lib.hid ?_
  refine (H2.out _).mono ?_
  rintro e w2 ⟨rfl, hb2⟩
  have HB2 := Lib.hid (hb1.trans (hb2.mono hb1.size))
  clear hb1 hb2
  simp only []
  go_wp2_with (go_at_call 25; refine (Hid.out (p := _) ?_))
  refine Lib.hid ?_
  refine (H3.out _).mono ?_
  rintro e w3 ⟨rfl, hb3⟩
  simp only []
  go_wp2_with (go_at_call 59; refine (Hid.out (p := _) ?_))
  refine Lib.hid ?_
  refine (H5.out _).mono ?_
  rintro e w4 ⟨hb4, v4, rfl, ho4⟩
  simp only []
  go_wp2_with (go_at_call 25; refine (Hid.out (p := _) ?_))
  refine Lib.hid ?_
  refine (H4.out _).mono ?_
  rintro e w5 ⟨rfl, hb5⟩
  simp only []
  go_wp2_with (go_at_call 59; refine (Hid.out (p := _) ?_))
  refine Lib.hid ?_
  refine (H6.out _).mono ?_
  rintro e w6 ⟨hb6, v6, rfl, ho6⟩
  have hs4 := ((OwnS.strs ho4).below hb5).below hb6
  have hs6 := OwnS.strs ho6
  have HB6 := Lib.hid ((((HB2.out.trans (hb3.mono HB2.out.size)).trans (hb4.mono (Nat.le_trans HB2.out.size hb3.size))).trans (hb5.mono (Nat.le_trans HB2.out.size (Nat.le_trans hb3.size hb4.size)))).trans (hb6.mono (Nat.le_trans HB2.out.size (Nat.le_trans hb3.size (Nat.le_trans hb4.size hb5.size)))))
  obtain ⟨A, c1, rfl, hA⟩ := hs4
  obtain ⟨B, c2, rfl, hB⟩ := hs6
  have HA := Lib.hid hA; have HB := Lib.hid hB
  have HC1 := Lib.hid (OwnS.cap_le ho4); have HC2 := Lib.hid (OwnS.cap_le ho6)
  clear hb3 hb4 hb5 hb6 ho4 ho6 hA hB
  simp only []
  go_wp2_with fail
  go_loopw [7, 8] (fun v u wr => ∃ j k : Nat, j ≤ la.length ∧ k ≤ lb.length ∧ v = .slice A j c1 ∧ u = .slice B k c2 ∧ Hid (cmpL la.reverse lb.reverse = cmpL (la.take j).reverse (lb.take k).reverse) ∧ Hid (Below w6.heap.size w6 wr)) (fun v _ _ => lenV v)
  case atStart => exact ⟨la.length, lb.length, Nat.le_refl _, Nat.le_refl _, rfl, rfl, Lib.hid (by rw [List.take_length, List.take_length]), Lib.hid (Below.refl _ _)⟩
  case round =>
    obtain ⟨j, k, hj, hk, rfl, rfl, HC, HW⟩ := hrel
    by_cases h0 : j = 0 ∨ k = 0
    · have hf := cmpL_end la lb j k hj hk h0
      have HF := Lib.hid (HC.out.trans hf)
      clear hf
      by_cases hz : j = 0
      · subst hz
        have q1 : decide ((0 : Int) < ((0 : Nat) : Int)) = false := rfl
        go_wp2_with fail
        go_ret
        exact ⟨ret_int (by rw [HE.out, HF.out]; rfl), HB6.out.trans (HW.out.mono HB6.out.size)⟩
      · obtain rfl : k = 0 := by omega
        have q1 : decide ((0 : Int) < (j : Int)) = true := by simp; omega
        have q2 : decide ((0 : Int) < ((0 : Nat) : Int)) = false := rfl
        go_wp2_with fail
        go_ret
        exact ⟨ret_int (by rw [HE.out, HF.out]; rfl), HB6.out.trans (HW.out.mono HB6.out.size)⟩
    · obtain ⟨m, hm⟩ : ∃ i, j = i + 1 := ⟨j - 1, by omega⟩
      obtain ⟨n, hn⟩ : ∃ i, k = i + 1 := ⟨k - 1, by omega⟩
      obtain ⟨g, o, rfl, hg, hcg⟩ := HA.out (by omega)
      obtain ⟨g2, o2, rfl, hg2, hcg2⟩ := HB.out (by omega)
      have d1 := HW.out.cell (p := ⟨g, o + m, none⟩) hg
      rw [hcg m (by omega)] at d1
      have d2 := HW.out.cell (p := ⟨g2, o2 + n, none⟩) hg2
      rw [hcg2 n (by omega)] at d2
      have q1 : decide ((0 : Int) < (j : Int)) = true := by simp; omega
      have q2 : decide ((0 : Int) < (k : Int)) = true := by simp; omega
      have q3 : (0 : Int) ≤ (m : Int) := by omega
      have q4 : (m : Int) < (j : Int) := by omega
      have q5 : (0 : Int) ≤ (n : Int) := by omega
      have q6 : (n : Int) < (k : Int) := by omega
      have q7 : (m : Int) ≤ (j : Int) := by omega
      have q8 : (n : Int) ≤ (k : Int) := by omega
      have r1 : IntKind.i64.wrap ((j : Int) - 1) = (m : Int) := by rw [show ((j : Int) - 1) = (m : Int) by omega]; exact IntWalk.i64_in _ (by have := HLA.out; omega)
      have r2 : IntKind.i64.wrap ((k : Int) - 1) = (n : Int) := by rw [show ((k : Int) - 1) = (n : Int) by omega]; exact IntWalk.i64_in _ (by have := HLB.out; omega)
      rw [hm, hn] at HC
      have hst := cmpL_take (la := la) (lb := lb) (j := m) (k := n) (by omega) (by omega)
      generalize la[m] = lx at *
      generalize lb[n] = ly at *
      have HST := Lib.hid (HC.out.trans hst)
      replace hm := Lib.hid hm; replace hn := Lib.hid hn
      clear hst HC hcg hcg2
      by_cases hc : Lib.compareBytes lx.data.toList ly.data.toList = 0
      · have hcc := fun w => Tryz.strings_Compare lx ly w
        rw [hc] at hcc
        have HCC := Lib.hid hcc
        replace hc := Lib.hid hc
        clear hcc
        go_wp2_with fail
        go_quiet ((go_at_call 58; exact Calls.quiet_of_same (HCC.out _)))
        go_wp2_with fail
        have s1 : (m : Int) ≤ (c1 : Int) := by have := HC1.out; omega
        have s2 : (n : Int) ≤ (c2 : Int) := by have := HC2.out; omega
        go_quiet (fail)
        go_wp2_with fail
        go_roundw
        case rel =>
          refine ⟨m, n, by omega, by omega, rfl, rfl, Lib.hid ?_, Lib.hid ?_⟩
          · have := HST.out
            rw [hc.out] at this
            simpa using this
          · exact ⟨HW.out.os, HW.out.tape, HW.out.output, HW.out.size, HW.out.block⟩
        case measure => simp [lenV]; omega
      · have hcc := fun w => Tryz.strings_Compare lx ly w
        have hst := HST.out
        rw [if_pos hc] at hst
        have hne : (Lib.compareBytes lx.data.toList ly.data.toList == 0) = false := by rw [beq_eq_false_iff_ne]; exact hc
        generalize Lib.compareBytes lx.data.toList ly.data.toList = c at *
        have HCC := Lib.hid hcc
        have HS2 := Lib.hid hst
        clear hcc hst HST hc
        go_wp2_with fail
        go_quiet ((go_at_call 58; exact Calls.quiet_of_same (HCC.out _)))
        go_wp2_with fail
        go_ret
        exact ⟨ret_int (by rw [HE.out, HS2.out]), (fun e : Below w.heap.size w wr => ⟨e.os, e.tape, e.output, e.size, e.block⟩) (HB6.out.trans (HW.out.mono HB6.out.size))⟩
/-- name.Compare. -/
theorem name_compare (a b : ByteArray) (w : World) : Calls Tryz.prog 31 #[.string a, .string b] w (CmpP a b w) := by
  by_cases h : nameRight a = true ∧ nameRight b = true
  · exact cmp_right a b w h.1 h.2
  · exact cmp_wrong a b w h
end Go.Proofs.YtmkodendjlmijaaGreatDoor

/- Whether a name is between two others: the plain law of it. -/
namespace Go.Proofs.YtmkodendjlmijaaGreatDoor
open Go.RowKit

theorem lowS_lowS (s : ByteArray) : lowS (lowS s) = lowS s := by
  apply ByteArray.ext
  simp only [lowS, Array.map_map]
  congr 1
  funext b
  exact smallB_smallB b
theorem lower_lower (s : ByteArray) (h : nameRight s = true) : lowS (nameLower s) = nameLower s := by
  rw [nameLower, if_pos h, lowS_lowS]
theorem back_inj {a b : ByteArray} (ha : nameRight a = true) (hb : nameRight b = true) (h : backLabels a = backLabels b) : nameLower a = nameLower b := by
  have e : (labels (nameLower a)).map (·.2) = (labels (nameLower b)).map (·.2) := by
    have := congrArg List.reverse h
    simpa only [backLabels, List.reverse_reverse] using this
  have h1 := lowT_all (s := nameLower a) (by rw [right_lower, ha])
  have h2 := lowT_all (s := nameLower b) (by rw [right_lower, hb])
  rw [e] at h1
  rw [← lower_lower a ha, ← lower_lower b hb, ← h1, ← h2]
theorem nameCmp_right {a b : ByteArray} (ha : nameRight a = true) (hb : nameRight b = true) : nameCmp a b = cmpL (backLabels a) (backLabels b) := by
  rw [nameCmp, ha, hb]; rfl
theorem nameCmp_self (a : ByteArray) (ha : nameRight a = true) : nameCmp a a = 0 := by rw [nameCmp_right ha ha, cmpL_self]
theorem nameCmp_anti {a b : ByteArray} (ha : nameRight a = true) (hb : nameRight b = true) : nameCmp b a = - nameCmp a b := by rw [nameCmp_right ha hb, nameCmp_right hb ha, cmpL_anti]
theorem nameCmp_trans {a b c : ByteArray} (ha : nameRight a = true) (hb : nameRight b = true) (hc : nameRight c = true) (h1 : nameCmp a b < 0) (h2 : nameCmp b c < 0) : nameCmp a c < 0 := by
  rw [nameCmp_right ha hb] at h1
  rw [nameCmp_right hb hc] at h2
  rw [nameCmp_right ha hc]
  exact cmpL_trans _ _ _ h1 h2
theorem nameCmp_eq {a b : ByteArray} (ha : nameRight a = true) (hb : nameRight b = true) : nameCmp a b = 0 ↔ nameEq a b = true := by
  rw [nameCmp_right ha hb, nameEq, ha, hb]
  simp only [Bool.and_self, Bool.true_and, decide_eq_true_eq]
  constructor
  · intro h; exact back_inj ha hb (cmpL_eq _ _ h)
  · intro h; rw [backLabels, backLabels, h, cmpL_self]

/-- denial.Between. -/
def btwB (a n b : ByteArray) : Bool :=
  if (nameRight a && nameRight n && nameRight b) = false then false
  else if nameCmp a b < 0 then decide (nameCmp a n < 0) && decide (nameCmp n b < 0)
  else decide (nameCmp a n < 0) || (decide (nameCmp n b < 0) && !nameEq a n)

theorem btwB_sides {a n b : ByteArray} (ha : nameRight a = true) (hn : nameRight n = true) (hb : nameRight b = true) (h1 : nameEq a b = false) (h2 : nameEq a n = false) (h3 : nameEq n b = false) :
    btwB a n b ≠ btwB b n a ∧ btwB a a b = false ∧ btwB a b b = false ∧ btwB a n a = true := by
  have e1 : nameCmp a b ≠ 0 := fun e => by rw [(nameCmp_eq ha hb).1 e] at h1; cases h1
  have e2 : nameCmp a n ≠ 0 := fun e => by rw [(nameCmp_eq ha hn).1 e] at h2; cases h2
  have e3 : nameCmp n b ≠ 0 := fun e => by rw [(nameCmp_eq hn hb).1 e] at h3; cases h3
  have a1 := nameCmp_anti ha hb
  have a2 := nameCmp_anti ha hn
  have a3 := nameCmp_anti hn hb
  have s1 := nameCmp_self a ha
  have s2 := nameCmp_self b hb
  have h4 : nameEq b n = false := by
    rw [Bool.eq_false_iff]; intro e; exact e3 (by have := (nameCmp_eq hb hn).2 e; omega)
  have t1 : nameCmp a n < 0 → nameCmp n b < 0 → nameCmp a b < 0 := nameCmp_trans ha hn hb
  have t2 : nameCmp b n < 0 → nameCmp n a < 0 → nameCmp b a < 0 := nameCmp_trans hb hn ha
  have z : nameEq a a = true := (nameCmp_eq ha ha).1 s1
  simp only [btwB, ha, hb, hn, Bool.and_self, h2, h4, z, Bool.true_eq_false, if_false, Bool.not_false, Bool.and_true, Bool.not_true, Bool.and_false, s1, s2]
  refine ⟨?_, ?_, ?_, ?_⟩
  · by_cases p1 : nameCmp a b < 0
    · rw [if_pos p1, if_neg (by omega)]
      intro e
      rw [Bool.eq_iff_iff] at e
      simp only [Bool.and_eq_true, Bool.or_eq_true, decide_eq_true_eq] at e
      by_cases p2 : nameCmp a n < 0 <;> by_cases p3 : nameCmp n b < 0 <;> simp only [p2, p3, true_and, and_true, false_and, and_false, true_iff, false_iff, not_or] at e <;> omega
    · rw [if_neg p1, if_pos (by omega)]
      intro e
      rw [Bool.eq_iff_iff] at e
      simp only [Bool.and_eq_true, Bool.or_eq_true, decide_eq_true_eq] at e
      by_cases p2 : nameCmp a n < 0 <;> by_cases p3 : nameCmp n b < 0 <;> simp only [p2, p3, true_or, or_true, or_self, false_or, or_false, true_iff, false_iff, not_and] at e <;> omega
  · split
    · simp
    · simp
  · split
    · simp
    · rename_i h; simp [h]
  · simp only [Int.lt_irrefl, if_false, Bool.or_eq_true, decide_eq_true_eq]
    omega
end Go.Proofs.YtmkodendjlmijaaGreatDoor

/- denial.Between. -/
namespace Go.Proofs.YtmkodendjlmijaaGreatDoor
open Go.RowKit

set_option maxRecDepth 100000 in
set_option maxHeartbeats 1000000 in
theorem den_between (a n b : ByteArray) (w : World) : Calls Tryz.prog 11 #[.string a, .string n, .string b] w fun e w' => e = .returned (.bool (btwB a n b)) ∧ Below w.heap.size w w' := by
  have h1 := fun w => name_right a w
  have h2 := fun w => name_right n w
  have h3 := fun w => name_right b w
  have h4 : ∀ w, Calls Tryz.prog 31 #[.string a, .string n] w fun e w' => e = .returned (.int .i64 (nameCmp a n)) ∧ Below w.heap.size w w' := fun w => name_compare a n w
  have h5 : ∀ w, Calls Tryz.prog 31 #[.string n, .string b] w fun e w' => e = .returned (.int .i64 (nameCmp n b)) ∧ Below w.heap.size w w' := fun w => name_compare n b w
  have h6 : ∀ w, Calls Tryz.prog 31 #[.string a, .string b] w fun e w' => e = .returned (.int .i64 (nameCmp a b)) ∧ Below w.heap.size w w' := fun w => name_compare a b w
  have h7 := fun w => name_equal a n w
  have hr : btwB a n b = (if (nameRight a && nameRight n && nameRight b) = false then false else if nameCmp a b < 0 then decide (nameCmp a n < 0) && decide (nameCmp n b < 0) else decide (nameCmp a n < 0) || (decide (nameCmp n b < 0) && !nameEq a n)) := rfl
  generalize nameRight a = p1 at *
  generalize nameRight n = p2 at *
  generalize nameRight b = p3 at *
  generalize nameCmp a n = c1 at *
  generalize nameCmp n b = c2 at *
  generalize nameCmp a b = c3 at *
  generalize nameEq a n = q at *
  have H1 := Lib.hid h1; have H2 := Lib.hid h2; have H3 := Lib.hid h3; have H4 := Lib.hid h4; have H5 := Lib.hid h5; have H6 := Lib.hid h6; have H7 := Lib.hid h7; have HE := Lib.hid hr
  have bl := Below.refl w.heap.size w
  clear h1 h2 h3 h4 h5 h6 h7 hr
  cases p1 with
  | false =>
    go_enter Tryz.func11, Tryz.ntmps11
    go_wp2_with (go_at_call 12; refine (Hid.out (p := _) ?_))
    refine Lib.hid ?_
    refine (H1.out _).mono ?_
    rintro e w1 ⟨rfl, hb⟩
    replace bl := bl.trans (hb.mono bl.size)
    clear hb
    simp only []
    go_wp2_with fail
    go_ret
    exact ⟨by rw [HE.out]; rfl, bl⟩
  | true =>
  cases p2 with
  | false =>
    go_enter Tryz.func11, Tryz.ntmps11
    go_wp2_with (go_at_call 12; refine (Hid.out (p := _) ?_))
    refine Lib.hid ?_
    refine (H1.out _).mono ?_
    rintro e w1 ⟨rfl, hb⟩
    replace bl := bl.trans (hb.mono bl.size)
    clear hb
    simp only []
    go_wp2_with (go_at_call 12; refine (Hid.out (p := _) ?_))
    refine Lib.hid ?_
    refine (H2.out _).mono ?_
    rintro e w2 ⟨rfl, hb⟩
    replace bl := bl.trans (hb.mono bl.size)
    clear hb
    simp only []
    go_wp2_with fail
    go_ret
    exact ⟨by rw [HE.out]; rfl, bl⟩
  | true =>
  cases p3 with
  | false =>
    go_enter Tryz.func11, Tryz.ntmps11
    go_wp2_with (go_at_call 12; refine (Hid.out (p := _) ?_))
    refine Lib.hid ?_
    refine (H1.out _).mono ?_
    rintro e w1 ⟨rfl, hb⟩
    replace bl := bl.trans (hb.mono bl.size)
    clear hb
    simp only []
    go_wp2_with (go_at_call 12; refine (Hid.out (p := _) ?_))
    refine Lib.hid ?_
    refine (H2.out _).mono ?_
    rintro e w2 ⟨rfl, hb⟩
    replace bl := bl.trans (hb.mono bl.size)
    clear hb
    simp only []
    go_wp2_with (go_at_call 12; refine (Hid.out (p := _) ?_))
    refine Lib.hid ?_
    refine (H3.out _).mono ?_
    rintro e w3 ⟨rfl, hb⟩
    replace bl := bl.trans (hb.mono bl.size)
    clear hb
    simp only []
    go_wp2_with fail
    go_ret
    exact ⟨by rw [HE.out]; rfl, bl⟩
  | true =>
  by_cases x3 : c3 < 0
  · have d3 : decide (c3 < 0) = true := decide_eq_true x3
    obtain ⟨b1, g1⟩ : ∃ b1, decide (c1 < 0) = b1 := ⟨_, rfl⟩
    have HX := Lib.hid (And.intro x3 g1)
    clear x3
    cases b1
    all_goals
      go_enter Tryz.func11, Tryz.ntmps11
      go_wp2_with (go_at_call 12; refine (Hid.out (p := _) ?_))
      refine Lib.hid ?_
      refine (H1.out _).mono ?_
      rintro e w1 ⟨rfl, hb⟩
      replace bl := bl.trans (hb.mono bl.size)
      clear hb
      simp only []
      go_wp2_with (go_at_call 12; refine (Hid.out (p := _) ?_))
      refine Lib.hid ?_
      refine (H2.out _).mono ?_
      rintro e w2 ⟨rfl, hb⟩
      replace bl := bl.trans (hb.mono bl.size)
      clear hb
      simp only []
      go_wp2_with (go_at_call 12; refine (Hid.out (p := _) ?_))
      refine Lib.hid ?_
      refine (H3.out _).mono ?_
      rintro e w3 ⟨rfl, hb⟩
      replace bl := bl.trans (hb.mono bl.size)
      clear hb
      simp only []
      go_wp2_with (go_at_call 31; refine (Hid.out (p := _) ?_))
      refine Lib.hid ?_
      refine (H4.out _).mono ?_
      rintro e w4 ⟨rfl, hb⟩
      replace bl := bl.trans (hb.mono bl.size)
      clear hb
      simp only []
      go_wp2_with (go_at_call 31; refine (Hid.out (p := _) ?_))
      refine Lib.hid ?_
      refine (H5.out _).mono ?_
      rintro e w5 ⟨rfl, hb⟩
      replace bl := bl.trans (hb.mono bl.size)
      clear hb
      simp only []
      go_wp2_with (go_at_call 31; refine (Hid.out (p := _) ?_))
      refine Lib.hid ?_
      refine (H6.out _).mono ?_
      rintro e w6 ⟨rfl, hb⟩
      replace bl := bl.trans (hb.mono bl.size)
      clear hb
      simp only []
      go_wp2_with fail
      go_ret
      refine ⟨?_, bl⟩
      rw [HE.out]
      simp [HX.out]
  · have d3 : decide (c3 < 0) = false := decide_eq_false x3
    obtain ⟨b1, g1⟩ : ∃ b1, decide (c1 < 0) = b1 := ⟨_, rfl⟩
    obtain ⟨b2, g2⟩ : ∃ b2, decide (c2 < 0) = b2 := ⟨_, rfl⟩
    have HX := Lib.hid (And.intro x3 (And.intro g1 g2))
    clear x3
    cases b1 <;> cases b2
    all_goals
      go_enter Tryz.func11, Tryz.ntmps11
      go_wp2_with (go_at_call 12; refine (Hid.out (p := _) ?_))
      refine Lib.hid ?_
      refine (H1.out _).mono ?_
      rintro e w1 ⟨rfl, hb⟩
      replace bl := bl.trans (hb.mono bl.size)
      clear hb
      simp only []
      go_wp2_with (go_at_call 12; refine (Hid.out (p := _) ?_))
      refine Lib.hid ?_
      refine (H2.out _).mono ?_
      rintro e w2 ⟨rfl, hb⟩
      replace bl := bl.trans (hb.mono bl.size)
      clear hb
      simp only []
      go_wp2_with (go_at_call 12; refine (Hid.out (p := _) ?_))
      refine Lib.hid ?_
      refine (H3.out _).mono ?_
      rintro e w3 ⟨rfl, hb⟩
      replace bl := bl.trans (hb.mono bl.size)
      clear hb
      simp only []
      go_wp2_with (go_at_call 31; refine (Hid.out (p := _) ?_))
      refine Lib.hid ?_
      refine (H4.out _).mono ?_
      rintro e w4 ⟨rfl, hb⟩
      replace bl := bl.trans (hb.mono bl.size)
      clear hb
      simp only []
      go_wp2_with (go_at_call 31; refine (Hid.out (p := _) ?_))
      refine Lib.hid ?_
      refine (H5.out _).mono ?_
      rintro e w5 ⟨rfl, hb⟩
      replace bl := bl.trans (hb.mono bl.size)
      clear hb
      simp only []
      go_wp2_with (go_at_call 31; refine (Hid.out (p := _) ?_))
      refine Lib.hid ?_
      refine (H6.out _).mono ?_
      rintro e w6 ⟨rfl, hb⟩
      replace bl := bl.trans (hb.mono bl.size)
      clear hb
      simp only []
      go_wp2_with (go_at_call 13; refine (H7.out _).mono ?_; rintro e w7 ⟨rfl, hb⟩; replace bl := bl.trans (hb.mono bl.size))
      go_ret
      refine ⟨?_, bl⟩
      rw [HE.out]
      simp [HX.out]
end Go.Proofs.YtmkodendjlmijaaGreatDoor

/- What denial asks of proofs: matches, covers. -/
namespace Go.Proofs.YtmkodendjlmijaaGreatDoor
open Go.RowKit

/-- A function value that tells q of a proof. -/
def GivesQ (q : PrfD → Bool) (w : World) (e : Ending) (w' : World) : Prop := Below w.heap.size w w' ∧ ∃ k bnd, e = .returned (.func (.func k) #[] bnd) ∧ AsksP k bnd q w'
def matchQ (n : ByteArray) (p : PrfD) : Bool := nameEq p.owner n
def coverQ (n : ByteArray) (p : PrfD) : Bool := btwB p.owner n p.next && !((p.has 2 && !p.has 6 || p.has 39) && underB n p.owner)
set_option maxRecDepth 100000 in
theorem match_asks (n : ByteArray) (b : Nat) (w : World) (hb : Blk w b #[.string n] 9) : AsksP 70 #[.pointer (some ⟨b, 0, none⟩)] (matchQ n) w := by
  refine ⟨fun args W => by kernel_rfl, fun p tv W hW hti => ?_⟩
  have he : ∀ W, Calls Tryz.prog 13 #[.string p.owner, .string n] W (BoolB (matchQ n p) W) := fun W => name_equal p.owner n W
  generalize matchQ n p = q at *
  obtain ⟨x0, x1, x2, x3, x4⟩ := p
  obtain ⟨A, c, rfl, _⟩ := hti
  have hM := (hb.below hW hb.lt).alloc (.cells #[.string x0, .string x1, .string x2, .slice A x3.length c, .bool x4] 71)
  have hN := Blk.new W #[.string x0, .string x1, .string x2, .slice A x3.length c, .bool x4] 71
  have bl : Below W.heap.size W (W.alloc (.cells #[.string x0, .string x1, .string x2, .slice A x3.length c, .bool x4] 71)) := (Below.refl _ W).alloc (Nat.le_refl _) _
  have c0 := hN.cell 0; have m0 := hM.cell 0
  have HE := Lib.hid he
  clear he hM hN hb hW
  simp only [PrfD.v, List.append_toArray, List.cons_append, List.nil_append]
  go_enter Tryz.func70, Tryz.ntmps70
  go_wp2_with (go_at_call 13; refine (HE.out _).mono ?_; rintro e w2 ⟨rfl, hb⟩; replace bl := bl.trans (hb.mono bl.size))
  go_ret
  exact ⟨rfl, bl⟩
set_option maxRecDepth 100000 in
theorem den_matches (b : Nat) (l : List PrfD) (apex n : ByteArray) (w : World) (hp : PsAt b l apex w) : Calls Tryz.prog 37 #[.pointer (some ⟨b, 0, none⟩), .string n] w (GivesQ (matchQ n) w) := by
  obtain ⟨lv, hb, _⟩ := hp
  have c1 := (hb.alloc (.cells #[.string n] 9)).cell 1
  have hmf := makeFunc_run
  clear hb
  go_enter Tryz.func37, Tryz.ntmps37
  go_wp2_with fail
  go_ret
  exact ⟨(Below.refl _ w).alloc (Nat.le_refl _) _, _, _, rfl, match_asks n _ _ (Blk.new w _ _)⟩
set_option maxRecDepth 100000 in
set_option maxHeartbeats 2000000 in
theorem cover_asks (n : ByteArray) (b : Nat) (w : World) (hb : Blk w b #[.string n] 9) : AsksP 73 #[.pointer (some ⟨b, 0, none⟩)] (coverQ n) w := by
  refine ⟨fun args W => by kernel_rfl, fun p tv W hW hti => ?_⟩
  have hh : ∀ k W1, Below W.heap.size W W1 → Calls Tryz.prog 74 #[p.v tv, .int .i64 k] W1 (BoolB (p.has k) W1) := fun k W1 hb => prf_has p tv k W1 (hti.below hb)
  have hbt : ∀ W1, Below W.heap.size W W1 → Calls Tryz.prog 11 #[.string p.owner, .string n, .string p.next] W1 (BoolB (btwB p.owner n p.next) W1) := fun W1 _ => den_between p.owner n p.next W1
  have hu : ∀ W1, Below W.heap.size W W1 → Calls Tryz.prog 35 #[.string n, .string p.owner] W1 (BoolB (underB n p.owner) W1) := fun W1 _ => name_under n p.owner W1
  have hr : coverQ n p = (btwB p.owner n p.next && !((p.has 2 && !p.has 6 || p.has 39) && underB n p.owner)) := rfl
  rw [hr]
  have h2 := hh 2; have h39 := hh 39; have h6 := hh 6
  generalize p.has 2 = b2 at *
  generalize p.has 39 = b39 at *
  generalize p.has 6 = b6 at *
  generalize btwB p.owner n p.next = bt at *
  generalize underB n p.owner = bu at *
  obtain ⟨x0, x1, x2, x3, x4⟩ := p
  obtain ⟨A, c, rfl, _⟩ := hti
  simp only [PrfD.v] at h2 h39 h6
  have hM := (hb.below hW hb.lt).alloc (.cells #[.string x0, .string x1, .string x2, .slice A x3.length c, .bool x4] 71)
  have hN := Blk.new W #[.string x0, .string x1, .string x2, .slice A x3.length c, .bool x4] 71
  have bl : Below W.heap.size W (W.alloc (.cells #[.string x0, .string x1, .string x2, .slice A x3.length c, .bool x4] 71)) := (Below.refl _ W).alloc (Nat.le_refl _) _
  have c0 := hN.cell 0; have c1 := hN.cell 1; have c2 := hN.cell 2; have c3 := hN.cell 3; have c4 := hN.cell 4
  have m0 := hM.cell 0
  have H2 := Lib.hid h2; have H39 := Lib.hid h39; have H6 := Lib.hid h6; have HBT := Lib.hid hbt; have HU := Lib.hid hu
  clear hh hbt hu h2 h39 h6 hr hb hW
  simp only [PrfD.v, List.append_toArray, List.cons_append, List.nil_append]
  cases b2 <;> cases b6 <;> cases b39 <;> cases bt
  all_goals
    go_enter Tryz.func73, Tryz.ntmps73
    go_wp2_with (first | (go_at_call 74; (with_reducible refine (H2.out _ bl).mono ?_); rintro e w2 ⟨rfl, hb⟩; replace bl := bl.trans (hb.mono bl.size); replace hN := hN.below hb hN.lt; replace hM := hM.below hb hM.lt; clear hb c0 c1 c2 c3 c4 m0; have c0 := hN.cell 0; have c1 := hN.cell 1; have c2 := hN.cell 2; have c3 := hN.cell 3; have c4 := hN.cell 4; have m0 := hM.cell 0) | (go_at_call 74; (with_reducible refine (H6.out _ bl).mono ?_); rintro e w2 ⟨rfl, hb⟩; replace bl := bl.trans (hb.mono bl.size); replace hN := hN.below hb hN.lt; replace hM := hM.below hb hM.lt; clear hb c0 c1 c2 c3 c4 m0; have c0 := hN.cell 0; have c1 := hN.cell 1; have c2 := hN.cell 2; have c3 := hN.cell 3; have c4 := hN.cell 4; have m0 := hM.cell 0) | (go_at_call 74; (with_reducible refine (H39.out _ bl).mono ?_); rintro e w2 ⟨rfl, hb⟩; replace bl := bl.trans (hb.mono bl.size); replace hN := hN.below hb hN.lt; replace hM := hM.below hb hM.lt; clear hb c0 c1 c2 c3 c4 m0; have c0 := hN.cell 0; have c1 := hN.cell 1; have c2 := hN.cell 2; have c3 := hN.cell 3; have c4 := hN.cell 4; have m0 := hM.cell 0) | (go_at_call 11; (with_reducible refine (HBT.out _ bl).mono ?_); rintro e w2 ⟨rfl, hb⟩; replace bl := bl.trans (hb.mono bl.size); replace hN := hN.below hb hN.lt; replace hM := hM.below hb hM.lt; clear hb c0 c1 c2 c3 c4 m0; have c0 := hN.cell 0; have c1 := hN.cell 1; have c2 := hN.cell 2; have c3 := hN.cell 3; have c4 := hN.cell 4; have m0 := hM.cell 0) | (go_at_call 35; (with_reducible refine (HU.out _ bl).mono ?_); rintro e w2 ⟨rfl, hb⟩; replace bl := bl.trans (hb.mono bl.size); replace hN := hN.below hb hN.lt; replace hM := hM.below hb hM.lt; clear hb c0 c1 c2 c3 c4 m0; have c0 := hN.cell 0; have c1 := hN.cell 1; have c2 := hN.cell 2; have c3 := hN.cell 3; have c4 := hN.cell 4; have m0 := hM.cell 0))
    go_ret
    exact ⟨by simp, bl⟩
set_option maxRecDepth 100000 in
theorem den_covers (b : Nat) (l : List PrfD) (apex n : ByteArray) (w : World) (hp : PsAt b l apex w) : Calls Tryz.prog 40 #[.pointer (some ⟨b, 0, none⟩), .string n] w (GivesQ (coverQ n) w) := by
  obtain ⟨lv, hb, _⟩ := hp
  have c1 := (hb.alloc (.cells #[.string n] 9)).cell 1
  have hmf := makeFunc_run
  clear hb
  go_enter Tryz.func40, Tryz.ntmps40
  go_wp2_with fail
  go_ret
  exact ⟨(Below.refl _ w).alloc (Nat.le_refl _) _, _, _, rfl, cover_asks n _ _ (Blk.new w _ _)⟩
end Go.Proofs.YtmkodendjlmijaaGreatDoor

/- denial's proofs: wild. -/
namespace Go.Proofs.YtmkodendjlmijaaGreatDoor
open Go.RowKit

/-- The method K of the proofs at block b: what it asks of a proof, for a name. -/
def MethP (K b : Nat) (q : ByteArray → PrfD → Bool) (w : World) : Prop :=
  (∀ args W, (callFunc K args).run Tryz.prog W = .ok (.enter K args) W) ∧ ∀ n W, Below w.heap.size w W → Calls Tryz.prog K #[.pointer (some ⟨b, 0, none⟩), .string n] W (GivesQ (q n) W)
theorem meth_covers (b : Nat) (l : List PrfD) (apex : ByteArray) (w : World) (h : PsAt b l apex w) : MethP 40 b coverQ w :=
  ⟨fun args W => by kernel_rfl, fun n W hb => den_covers b l apex n W (h.below hb)⟩
theorem meth_matches (b : Nat) (l : List PrfD) (apex : ByteArray) (w : World) (h : PsAt b l apex w) : MethP 37 b matchQ w :=
  ⟨fun args W => by kernel_rfl, fun n W hb => den_matches b l apex n W (h.below hb)⟩
def wildR (l : List PrfD) (q : ByteArray → PrfD → Bool) (e : ByteArray) : Option PrfD := if (childR ⟨#[42]⟩ e).2 = 0 then l.find? (q (childR ⟨#[42]⟩ e).1) else none
def starB : ByteArray := ⟨#[42]⟩
set_option maxRecDepth 100000 in
set_option maxHeartbeats 1000000 in
theorem den_wild (b : Nat) (l : List PrfD) (apex e : ByteArray) (K : Nat) (q : ByteArray → PrfD → Bool) (w : World) (hp : PsAt b l apex w) (hk : MethP K b q w) :
    Calls Tryz.prog 39 #[.pointer (some ⟨b, 0, none⟩), .string e, .func (.func K) #[.pointer (some ⟨b, 0, none⟩)] #[]] w (FirstP (wildR l q e) w w) := by
  have hch : ∀ W, Calls Tryz.prog 21 #[.string ⟨#[42]⟩, .string e] W fun e' w' => e' = .returned (.tuple #[.string (childR ⟨#[42]⟩ e).1, .int .i64 (childR ⟨#[42]⟩ e).2]) ∧ Below W.heap.size W w' := fun W => name_child ⟨#[42]⟩ e W
  have hr : wildR l q e = (if (childR ⟨#[42]⟩ e).2 = 0 then l.find? (q (childR ⟨#[42]⟩ e).1) else none) := rfl
  rw [hr]
  clear hr
  generalize (childR ⟨#[42]⟩ e).1 = cn at *
  generalize (childR ⟨#[42]⟩ e).2 = ce at *
  have hm := hk.2 cn
  have hcf := hk.1
  have bl : Below w.heap.size w (w.alloc (.cells #[.string ⟨#[]⟩, .string ⟨#[]⟩, .string ⟨#[]⟩, .slice none 0 0, .bool false] 71)) := (Below.refl _ w).alloc (Nat.le_refl _) _
  have hN := Blk.new w #[.string ⟨#[]⟩, .string ⟨#[]⟩, .string ⟨#[]⟩, .slice none 0 0, .bool false] 71
  have HC := Lib.hid hch; have HM := Lib.hid hm; have HP := Lib.hid hp; have HCF := Lib.hid hcf
  clear hch hm hp hcf hk
  by_cases h0 : ce = 0
  · subst h0
    rw [if_pos rfl]
    have hq0 : ∀ W, Below w.heap.size w W → ∀ k bnd, AsksP k bnd (q cn) W → Calls Tryz.prog 36 #[.pointer (some ⟨b, 0, none⟩), .func (.func k) #[] bnd] W (FirstP (l.find? (q cn)) w W) := fun W h k bnd ha => den_first b l apex k bnd (q cn) w W HP.out h ha
    generalize l.find? (q cn) = r at *
    have HF := Lib.hid hq0
    clear hq0
    go_enter Tryz.func39, Tryz.ntmps39
    go_wp2_with (go_at_call 21; refine (HC.out _).mono ?_; rintro e1 w1 ⟨rfl, hb⟩; replace bl := bl.trans (hb.mono bl.size); replace hN := hN.below hb hN.lt; clear hb)
    rw [HCF.out _ w1, Oper.upon_enter]
    refine (HM.out w1 bl).mono ?_
    rintro e2 w2 ⟨hb, k, bnd, rfl, ha⟩
    replace bl := bl.trans (hb.mono bl.size)
    replace hN := hN.below hb hN.lt
    clear hb
    simp only []
    have HFF := Lib.hid (HF.out w2 bl k bnd ha)
    clear ha
    go_wp2_with (go_at_call 36; refine (Hid.out (p := _) ?_))
    refine Lib.hid ?_
    obtain ⟨p, hp⟩ : ∃ p, r.getD zPrf = p := ⟨_, rfl⟩
    refine HFF.out.mono ?_
    rintro e3 w3 ⟨hb, tv, he, hti⟩
    replace bl := bl.trans (hb.mono bl.size)
    replace hN := hN.below hb hN.lt
    rw [hp] at he hti
    obtain ⟨x0, x1, x2, x3, x4⟩ := p
    obtain ⟨A, c, rfl, hti⟩ := hti
    simp only [PrfD.v] at he
    subst he
    have HQ := Lib.hid hp; have HTI := Lib.hid hti
    clear hb hp hti HFF HF HM HC HP HCF
    simp only []
    have c0 := hN.cell 0; have c1 := hN.cell 1; have c2 := hN.cell 2; have c3 := hN.cell 3; have c4 := hN.cell 4; have f0 := fun j => hN.free j
    go_wp2_with fail
    refine bodyPost_ret (results2 rfl ⟨_, rfl, loadVar_blk (cs := #[.string x0, .string x1, .string x2, .slice A x3.length c, .bool x4]) (t := 71) ?_ Tryz.underlying71 rfl info_prf5⟩ rfl) rfl ⟨?_, .slice A x3.length c, ?_, ?_⟩
    · simpa using (((((hN.set 0 (.string x0)).set 1 (.string x1)).set 2 (.string x2)).set 3 (.slice A x3.length c)).set 4 (.bool x4))
    · iterate 5 refine Below.setCell ?_ (by exact Nat.le_refl _) _
      exact bl
    · rw [HQ.out]; rfl
    · rw [HQ.out]; exact ⟨A, c, rfl, HTI.out⟩
  · rw [if_neg h0]
    have q1 : (ce == 0) = false := beq_eq_false_iff_ne.2 h0
    go_enter Tryz.func39, Tryz.ntmps39
    go_wp2_with (go_at_call 21; refine (HC.out _).mono ?_; rintro e1 w1 ⟨rfl, hb⟩; replace bl := bl.trans (hb.mono bl.size); replace hN := hN.below hb hN.lt; clear hb; have c0 := hN.cell 0; have c1 := hN.cell 1; have c2 := hN.cell 2; have c3 := hN.cell 3; have c4 := hN.cell 4; have f0 := fun j => hN.free j)
    refine bodyPost_ret (results2 rfl ⟨_, rfl, loadVar_blk (cs := #[.string ⟨#[]⟩, .string ⟨#[]⟩, .string ⟨#[]⟩, .slice none 0 0, .bool false]) (t := 71) ?_ Tryz.underlying71 rfl info_prf5⟩ rfl) rfl ⟨?_, .slice none 0 0, rfl, IntsAt.nil _⟩
    · simpa using (((((hN.set 0 (.string ⟨#[]⟩)).set 1 (.string ⟨#[]⟩)).set 2 (.string ⟨#[]⟩)).set 3 (.slice none 0 0)).set 4 (.bool false))
    · iterate 5 refine Below.setCell ?_ (by exact Nat.le_refl _) _
      exact bl
end Go.Proofs.YtmkodendjlmijaaGreatDoor

/- denial.read, over sets of NSEC. -/
namespace Go.Proofs.YtmkodendjlmijaaGreatDoor
open Go.RowKit

/-- v is a slice that reads as these sets. -/
def SetsAt (v : Value) (l : List SetD) (w : World) : Prop :=
  ∃ A c, v = .slice A l.length c ∧ l.length ≤ 1000000 ∧ (0 < l.length → ∃ g, A = some ⟨g, 0, none⟩ ∧ g < w.heap.size ∧ ∀ j (h : j < l.length), ∃ dv sv, w.rangeAt g (j * 6) (l[j].cells dv sv).toList ∧ StrsAt dv l[j].data w ∧ StrsAt sv l[j].sigs w)
theorem SetsAt.below {v : Value} {l : List SetD} {w w' : World} (h : SetsAt v l w) (hb : Below w.heap.size w w') : SetsAt v l w' := by
  obtain ⟨A, c, rfl, h1, h2⟩ := h
  refine ⟨A, c, rfl, h1, fun h0 => ?_⟩
  obtain ⟨g, e, hg, hr⟩ := h2 h0
  refine ⟨g, e, Nat.lt_of_lt_of_le hg hb.size, fun j hj => ?_⟩
  obtain ⟨dv, sv, a1, a2, a3⟩ := hr j hj
  exact ⟨dv, sv, fun i v hv => by rw [hb.cell (p := ⟨g, j * 6 + i, none⟩) hg]; exact a1 i v hv, a2.below hb, a3.below hb⟩
/-- The cells of proofs, one behind the other. -/
def PrfCells (W : World) : List PrfD → List Value → Prop
  | [], xs => xs = []
  | p :: ps, xs => ∃ tv ys, xs = p.cl tv ++ ys ∧ OwnI 0 tv p.types W ∧ PrfCells W ps ys
theorem PrfCells.len {W : World} : ∀ {ps : List PrfD} {xs : List Value}, PrfCells W ps xs → xs.length = ps.length * 5
  | [], xs, h => by rw [show xs = [] from h]; rfl
  | p :: ps, xs, h => by
    obtain ⟨tv, ys, rfl, _, h3⟩ := h
    rw [List.length_append, PrfCells.len h3, List.length_cons]
    simp [PrfD.cl]; omega
theorem PrfCells.mono {W W' : World} (hW : ∀ tv l, OwnI 0 tv l W → OwnI 0 tv l W') : ∀ {ps : List PrfD} {xs : List Value}, PrfCells W ps xs → PrfCells W' ps xs
  | [], _, h => h
  | p :: ps, xs, h => by
    obtain ⟨tv, ys, h1, h2, h3⟩ := h
    exact ⟨tv, ys, h1, hW _ _ h2, h3.mono hW⟩
theorem PrfCells.snoc {W : World} {p : PrfD} {tv : Value} (ht : OwnI 0 tv p.types W) : ∀ {ps : List PrfD} {xs : List Value}, PrfCells W ps xs → PrfCells W (ps ++ [p]) (xs ++ p.cl tv)
  | [], xs, h => by
    rw [show xs = [] from h]
    exact ⟨tv, [], by simp, ht, rfl⟩
  | q :: ps, xs, h => by
    obtain ⟨t, ys, rfl, h2, h3⟩ := h
    exact ⟨t, ys ++ p.cl tv, by simp, h2, h3.snoc ht⟩
theorem PrfCells.get {W : World} : ∀ {ps : List PrfD} {xs : List Value}, PrfCells W ps xs → ∀ j (h : j < ps.length), ∃ tv, (∀ i v, (ps[j].cl tv)[i]? = some v → xs[j * 5 + i]? = some v) ∧ OwnI 0 tv ps[j].types W
  | [], _, _, j, h => by simp at h
  | p :: ps, xs, h, 0, _ => by
    obtain ⟨tv, ys, rfl, h2, h3⟩ := h
    refine ⟨tv, fun i v hv => ?_, h2⟩
    rw [Nat.zero_mul, Nat.zero_add]
    exact List.getElem?_append_left (l₁ := p.cl tv) (l₂ := ys) (List.getElem?_eq_some_iff.1 hv).1 ▸ hv
  | p :: ps, xs, h, j + 1, hj => by
    obtain ⟨tv, ys, rfl, h2, h3⟩ := h
    obtain ⟨t, h4, h5⟩ := h3.get j (by simpa using hj)
    refine ⟨t, fun i v hv => ?_, h5⟩
    have := h4 i v hv
    rw [List.getElem?_append_right (by simp [PrfD.cl]; omega), show (j + 1) * 5 + i - (p.cl tv).length = j * 5 + i by simp [PrfD.cl]; omega]
    exact this
theorem PrfCells.one {W : World} : ∀ {ps : List PrfD} {xs : List Value}, PrfCells W ps xs → ps ≠ [] → xs ≠ []
  | [], _, _, h => absurd rfl h
  | p :: ps, xs, h, _ => by
    obtain ⟨tv, ys, rfl, _, _⟩ := h
    simp [PrfD.cl]
/-- The proofs in a row of the call's own. -/
def PrfOwn (base : Nat) (v : Value) (ps : List PrfD) (W : World) : Prop := ∃ xs, W.ownsRow base 71 5 v ps.length xs ∧ PrfCells W ps xs
theorem PrfOwn.at {base : Nat} {v : Value} {ps : List PrfD} {W : World} (h : PrfOwn base v ps W) (hl : ps.length ≤ 1000000) : PrfsAt v ps W := by
  obtain ⟨xs, h1, h2⟩ := h
  rcases h1.2 with ⟨rfl, h0⟩ | ⟨g, cap, cur, rfl, hb, hg, hn, hm, hsz, htk⟩
  · obtain rfl := List.eq_nil_of_length_eq_zero h0
    exact ⟨none, 0, rfl, by simp, fun h => absurd h (by simp)⟩
  · refine ⟨some ⟨g, 0, none⟩, cap, rfl, hl, fun _ => ⟨g, rfl, lt_of_block hg, fun j hj => ?_⟩⟩
    obtain ⟨tv, h3, h4⟩ := h2.get j hj
    refine ⟨tv, fun i v hv => ?_, h4.ints⟩
    rw [cell_of_row W g (j * 5 + i) cur 71 (0, 0) hg]
    have e := h3 i v hv
    have hi : i < 5 := (List.getElem?_eq_some_iff.1 hv).1
    rw [← htk, List.getElem?_take, if_pos (by omega)] at e
    rw [← Array.getElem?_toList]; exact e
/-- What is read. -/
def nsecPrf (s : SetD) : PrfD := match takeR nsecT (s.data.headD ⟨#[]⟩) with
  | some x => ⟨s.name, x.next, ⟨#[]⟩, x.types, false⟩
  | none => ⟨s.name, ⟨#[]⟩, ⟨#[]⟩, [], false⟩
def readC (apex : ByteArray) (s : SetD) : Bool := rightS s && decide (s.cls = 1) && decide (s.data.length = 1) && underB s.name apex
def readN (l : List SetD) (apex : ByteArray) : List PrfD := (l.filter (readC apex)).map nsecPrf
theorem readN_snoc {l : List SetD} {apex : ByteArray} (j : Nat) (h : j < l.length) : readN (l.take (j + 1)) apex = readN (l.take j) apex ++ (if readC apex l[j] = true then [nsecPrf l[j]] else []) := by
  rw [List.take_succ_eq_append_getElem h, readN, List.filter_append, List.map_append]
  congr 1
  rw [List.filter_cons]
  split
  · rfl
  · rfl
theorem readN_len (l : List SetD) (apex : ByteArray) : (readN l apex).length ≤ l.length := by
  rw [readN, List.length_map]; exact List.length_filter_le _ _
theorem info_prfA : (Tryz.prog.info? 71).map (fun i => (i.zero, i.size, i.bytes)) = some (some (.agg #[.string ⟨#[]⟩, .string ⟨#[]⟩, .string ⟨#[]⟩, .slice none 0 0, .bool false]), 5, 80) := by kernel_rfl
theorem info_set6 : (Tryz.prog.info? 49).map (·.size) = some 6 := by kernel_rfl
/-- The world of the loop. -/
structure RdSt (w : World) (apex : ByteArray) (ps : List PrfD) (v : Value) (W : World) : Prop where
  x : Blk W w.heap.size #[.slice none 0 0, .bool false, .string ⟨#[]⟩, .int .i64 0, .string apex] 69
  own : PrfOwn (w.heap.size + 1) v ps W
  below : Below w.heap.size w W
theorem OwnI.grownApart {lo base n : Nat} {v v2 : Value} {l : List Int} {xs : List Value} {w w' : World} (h : OwnI lo v l w) (ho : w.ownsRow base 71 5 v2 n xs) (hg : w.grownBy w' v2.ownBlock) : OwnI lo v l w' := by
  refine ⟨h.1, ?_⟩
  rcases h.2 with h1 | ⟨g, cap, cur, h1, h2, h3, h4⟩
  · exact .inl h1
  · refine .inr ⟨g, cap, cur, h1, h2, ?_, h4⟩
    rw [hg.block g (lt_of_block h3)]
    · exact h3
    · intro e
      rcases ho.2 with ⟨rfl, _⟩ | ⟨g2, cap2, cur2, rfl, _, hg2, _⟩
      · cases e
      · have e2 : g2 = g := by simpa [Value.ownBlock] using e.symm
        subst e2
        rw [h3] at hg2
        simp at hg2
theorem OwnI.setApart {lo : Nat} {v : Value} {l : List Int} {W : World} {b : Nat} {cs : Array Value} (h : OwnI lo v l W) (hb : Blk W b cs 69) (j : Nat) (u : Value) : OwnI lo v l (W.setCell ⟨b, j, none⟩ u) := by
  refine ⟨h.1, ?_⟩
  rcases h.2 with h1 | ⟨g, cap, cur, h1, h2, h3, h4⟩
  · exact .inl h1
  · refine .inr ⟨g, cap, cur, h1, h2, ?_, h4⟩
    rw [heap_setCell_other _ _ _ _ (fun e : g = b => by subst e; unfold Blk at hb; rw [h3] at hb; simp at hb)]
    exact h3
theorem ownP_set {b n : Nat} {v : Value} {xs : List Value} {W : World} (h : W.ownsRow (b + 1) 71 5 v n xs) (j : Nat) (u : Value) : (W.setCell ⟨b, j, none⟩ u).ownsRow (b + 1) 71 5 v n xs :=
  h.kept (row := some b) ⟨rfl, rfl, rfl, by simp, fun k _ hk => heap_setCell_other _ _ _ _ (fun e : k = b => hk (by rw [e]))⟩ (by
    cases hv : v.ownBlock with
    | none => exact .inl rfl
    | some k => right; intro e; have := (World.ownsRow.lt h _ hv).1; injection e; omega)
theorem RdSt.below' {w W W' : World} {apex : ByteArray} {ps : List PrfD} {v : Value} (h : RdSt w apex ps v W) (hb : Below W.heap.size W W') : RdSt w apex ps v W' := by
  obtain ⟨xs, h1, h2⟩ := h.own
  exact ⟨h.x.below hb h.x.lt, ⟨xs, h1.kept (grown_of_below hb) (by cases hv : v.ownBlock <;> simp), h2.mono fun tv l ht => ht.below hb⟩, h.below.trans (hb.mono h.below.size)⟩
theorem prf_append {ops : Array Oper} {rest : List Oper} {o : Oper} {a : Act} {Q : Exit → Act → World → Prop} {base n : Nat} {v : Value} {xs : List Value} {W : World} (HO : W.ownsRow base 71 5 v n xs) (hbase : base ≤ W.heap.size) (hn : n ≤ 1000000) (x0 x1 x2 : ByteArray) (tv : Value) (x4 : Bool) (htv : tv.oneCell' = true)
    (hgd : o.guard = none) (s y : Operand) (ho : o.op = .call { callee := .builtin .append, args := #[s, y], argTypes := #[67, 67] }) (cs : Array Value) (m c B : Nat) (hs : a.eval s = v) (hB : B = W.heap.size) (hx : a.eval y = .slice (some ⟨B, 0, none⟩) m c) (hcs : cs = #[.string x0, .string x1, .string x2, tv, .bool x4]) (hm : m = 1)
    (h : ∀ v1 w1, w1.ownsRow base 71 5 v1 (n + 1) (xs ++ [.string x0, .string x1, .string x2, tv, .bool x4]) → (W.alloc (.cells cs 71)).grownBy w1 v.ownBlock → wpList Tryz.prog ops Q rest (a.put o.dst v1) w1) : wpList Tryz.prog ops Q (o :: rest) a (W.alloc (.cells cs 71)) := by
  subst hcs hm hB
  obtain ⟨i0, hi, hzz⟩ := Option.map_eq_some_iff.1 info_prfA
  simp only [Prod.mk.injEq] at hzz
  obtain ⟨hz0, hz1, hz2⟩ := hzz
  refine wpList_append_own_at (W.alloc (.cells #[.string x0, .string x1, .string x2, tv, .bool x4] 71)) hgd s y 67 ho base 71 i0 _ 5 80 Tryz.underlying67 hi hz0 hz1 hz2 rfl (by omega) v n xs hs (HO.alloc _) ⟨W.heap.size, 0, none⟩ 1 c [.string x0, .string x1, .string x2, tv, .bool x4] hx rfl
    (World.news_of_block (cs := #[.string x0, .string x1, .string x2, tv, .bool x4]) (t := 71) (fr := (0, 0)) (heap_alloc_new W _)) (by intro u hu; simp at hu; rcases hu with rfl | rfl | rfl | rfl | rfl <;> first | rfl | exact htv) (by simp only [maxLen]; omega) (by omega) (by simp; omega) ?_
  intro v1 w1 hown hg _ _
  exact h v1 w1 hown hg
set_option maxRecDepth 100000 in
set_option maxHeartbeats 1000000 in
theorem den_read (l : List SetD) (v : Value) (apex : ByteArray) (w : World) (hl : SetsAt v l w) (h47 : ∀ s ∈ l, s.kind = 47) (hne : readN l apex ≠ []) :
    Calls Tryz.prog 34 #[v, .string apex] w fun e w' => Below w.heap.size w w' ∧ ∃ b, e = .returned (.pointer (some ⟨b, 0, none⟩)) ∧ PsAt b (readN l apex) apex w' := by
  obtain ⟨A, c, rfl, hlen, hA⟩ := hl
  have HA := Lib.hid hA; have H47 := Lib.hid h47
  have hlb : (l.length : Int) ≤ 1000000 := by omega
  have H0 : Hid (RdSt w apex (readN (l.take 0) apex) (.slice none 0 0) (w.alloc (.cells #[.slice none 0 0, .bool false, .string ⟨#[]⟩, .int .i64 0, .string apex] 69))) :=
    Lib.hid ⟨Blk.new w _ _, ⟨[], World.ownsRow_nil _ _ _ _, rfl⟩, (Below.refl _ w).alloc (Nat.le_refl _) _⟩
  clear hA h47
  go_enter Tryz.func34, Tryz.ntmps34
  go_wp2_with fail
  go_loopw [5, 21] (fun pv i wr => ∃ j : Nat, j ≤ l.length ∧ i = .int .i64 j ∧ Hid (RdSt w apex (readN (l.take j) apex) pv wr)) (fun _ i _ => l.length - (intOf i).toNat)
  case atStart => exact ⟨0, Nat.zero_le _, rfl, H0⟩
  case round =>
    obtain ⟨j, hj, rfl, hS0⟩ := hrel
    by_cases hlt : j < l.length
    · have hsn := readN_snoc (apex := apex) j hlt
      obtain ⟨g, rfl, hg, hr⟩ := HA.out (by omega)
      obtain ⟨dv, sv, hra0, hdv0, hsv0⟩ := hr j hlt
      have hk := H47.out l[j] (List.getElem_mem hlt)
      have hbw := hS0.out.below
      have q1 : (j : Int) < (l.length : Int) := by omega
      generalize l[j] = s at *
      obtain ⟨xn, xk, xc, xt, xd, xs⟩ := s
      simp only at hk
      subst hk
      have hrr := fun W (hb : Below w.heap.size w W) => rrset_right ⟨xn, 47, xc, xt, xd, xs⟩ dv sv W (hdv0.below hb) (hsv0.below hb)
      obtain ⟨B1, k1, rfl, hB1⟩ := hdv0
      have hfd : 0 < xd.length → ∃ gd od, B1 = some ⟨gd, od, none⟩ ∧ gd < w.heap.size ∧ w.cell? ⟨gd, od, none⟩ = some (.string (xd.headD ⟨#[]⟩)) := fun h0 => by
        obtain ⟨gd, od, hB, h1, h2⟩ := hB1 h0
        have h3 := h2 0 h0
        rw [Nat.add_zero] at h3
        refine ⟨gd, od, hB, h1, h3.trans ?_⟩
        cases xd with
        | nil => exact absurd h0 (by simp)
        | cons a t => rfl
      obtain ⟨B2, k2, rfl, _⟩ := hsv0
      have hra : wr.rangeAt g (j * 6) (SetD.cells ⟨xn, 47, xc, xt, xd, xs⟩ (.slice B1 xd.length k1) (.slice B2 xs.length k2)).toList := fun i v hv => by rw [hbw.cell (p := ⟨g, j * 6 + i, none⟩) hg]; exact hra0 i v hv
      have e0 : wr.cell? ⟨g, j * 6, none⟩ = some (.string xn) := hra 0 _ rfl
      have e1 : wr.cell? ⟨g, j * 6 + 1, none⟩ = some (.int .i64 47) := hra 1 _ rfl
      have e2 : wr.cell? ⟨g, j * 6 + 2, none⟩ = some (.int .i64 xc) := hra 2 _ rfl
      have e3 : wr.cell? ⟨g, j * 6 + 3, none⟩ = some (.int .i64 xt) := hra 3 _ rfl
      have e4 : wr.cell? ⟨g, j * 6 + 4, none⟩ = some (.slice B1 xd.length k1) := hra 4 _ rfl
      have e5 : wr.cell? ⟨g, j * 6 + 5, none⟩ = some (.slice B2 xs.length k2) := hra 5 _ rfl
      have hS := hS0.out.below' ((Below.refl _ wr).alloc (Nat.le_refl _) (.cells #[.string xn, .int .i64 47, .int .i64 xc, .int .i64 xt, .slice B1 xd.length k1, .slice B2 xs.length k2] 49))
      have hN := Blk.new wr #[.string xn, .int .i64 47, .int .i64 xc, .int .i64 xt, .slice B1 xd.length k1, .slice B2 xs.length k2] 49
      simp only [SetD.v, SetD.cells] at hrr
      have hcc : readC apex ⟨xn, 47, xc, xt, xd, xs⟩ = (rightS ⟨xn, 47, xc, xt, xd, xs⟩ && decide (xc = 1) && decide (xd.length = 1) && underB xn apex) := rfl
      have hu : ∀ W, Calls Tryz.prog 35 #[.string xn, .string apex] W (BoolB (underB xn apex) W) := fun W => name_under xn apex W
      have hpr : nsecPrf ⟨xn, 47, xc, xt, xd, xs⟩ = (match takeR nsecT (xd.headD ⟨#[]⟩) with | some x => ⟨xn, x.next, ⟨#[]⟩, x.types, false⟩ | none => ⟨xn, ⟨#[]⟩, ⟨#[]⟩, [], false⟩) := rfl
      rw [hcc, hpr] at hsn
      generalize rightS ⟨xn, 47, xc, xt, xd, xs⟩ = q at *
      generalize underB xn apex = u at *
      generalize xd.headD ⟨#[]⟩ = d at *
      have HRR := Lib.hid hrr; have HSN := Lib.hid hsn; have HFD := Lib.hid hfd; have HU := Lib.hid hu
      clear hrr hsn hfd hra hra0 hr hbw hcc hu hpr hB1
      cases q with
      | false =>
        have HX : Hid True := Lib.hid trivial
        go_wp2_with (go_at_call 64; refine (HRR.out _ hS.below).mono ?_; rintro e w2 ⟨rfl, hb⟩; replace hS := hS.below' hb; clear hb)
        go_roundw
        case rel => exact ⟨j + 1, by omega, by go_num, Lib.hid (by rw [HSN.out]; simpa [HX.out] using hS)⟩
        case measure => simp [intOf]; omega
      | true =>
      go_wp2_with (go_at_call 64; refine (Hid.out (p := _) ?_))
      refine Lib.hid ?_
      refine (HRR.out _ hS.below).mono ?_
      rintro e w2 ⟨rfl, hb⟩
      replace hS := hS.below' hb
      replace hN := hN.below hb hN.lt
      clear hb
      have c0 := hN.cell 0
      have c1 := hN.cell 1
      have c2 := hN.cell 2
      have c3 := hN.cell 3
      have c4 := hN.cell 4
      have c5 := hN.cell 5
      simp only []
      by_cases hc1 : xc = 1
      case neg =>
        have t1 : (xc != 1) = true := by rw [bne_iff_ne]; exact hc1
        have HX := Lib.hid (show ¬ (xc = 1) from hc1)
        clear hc1
        go_wp2_with fail
        go_roundw
        case rel => exact ⟨j + 1, by omega, by go_num, Lib.hid (by rw [HSN.out]; simpa [HX.out] using hS)⟩
        case measure => simp [intOf]; omega
      have t1 : (xc != 1) = false := by rw [bne_eq_false_iff_eq]; exact hc1
      by_cases hc2 : xd.length = 1
      case neg =>
        have t2 : ((xd.length : Int) != 1) = true := by rw [bne_iff_ne]; omega
        have HX := Lib.hid (show ¬ (xd.length = 1) from hc2)
        clear hc1 hc2
        go_wp2_with fail
        go_roundw
        case rel => exact ⟨j + 1, by omega, by go_num, Lib.hid (by rw [HSN.out]; simpa [HX.out] using hS)⟩
        case measure => simp [intOf]; omega
      have t2 : ((xd.length : Int) != 1) = false := by rw [bne_eq_false_iff_eq]; omega
      cases u with
      | false =>
        clear hc1 hc2
        have HX : Hid True := Lib.hid trivial
        go_wp2_with (go_at_call 35; refine (HU.out _).mono ?_; rintro e w3 ⟨rfl, hb⟩; replace hS := hS.below' hb; clear hb)
        go_roundw
        case rel => exact ⟨j + 1, by omega, by go_num, Lib.hid (by rw [HSN.out]; simpa [HX.out] using hS)⟩
        case measure => simp [intOf]; omega
      | true =>
      have HX := Lib.hid (And.intro hc1 hc2)
      obtain ⟨gd, od, rfl, hgd, hcd⟩ := HFD.out (by omega)
      have q5 : (0 : Int) < (xd.length : Int) := by omega
      clear hc1 hc2
      go_wp2_with (go_at_call 35; refine (Hid.out (p := _) ?_))
      refine Lib.hid ?_
      refine (HU.out _).mono ?_
      rintro e w3 ⟨rfl, hb⟩
      replace hS := hS.below' hb
      replace hN := hN.below hb hN.lt
      clear hb
      have c0 := hN.cell 0
      have c1 := hN.cell 1
      have c2 := hN.cell 2
      have c3 := hN.cell 3
      have c4 := hN.cell 4
      have c5 := hN.cell 5
      simp only []
      have cd : w3.cell? ⟨gd, od, none⟩ = some (.string d) := (hS.below.cell (p := ⟨gd, od, none⟩) hgd).trans hcd
      clear hcd
      go_wp2_with (go_at_call 65; refine (Hid.out (p := _) ?_))
      refine Lib.hid ?_
      refine (data_nsec d _).mono ?_
      rintro e w4 ⟨hb, ht⟩
      have hw4 := hb.size
      replace hS := hS.below' hb
      replace hN := hN.below hb hN.lt
      clear hb cd c0 c1 c2 c3 c4 c5
      cases htk : takeR nsecT d with
      | none =>
        rw [htk] at ht HSN
        obtain rfl := ht
        have hx := OwnI.nil 0 w4
        try simp only []
        have c0 := hN.cell 0
        have lt0 := hN.lt
        obtain ⟨xs5, ho5, hp5⟩ := hS.own
        have HS := Lib.hid hS; have HX2 := Lib.hid hx; have HP5 := Lib.hid hp5; have HO5 := Lib.hid ho5
        have hlen5 := readN_len (l.take j) apex
        have HL5 := Lib.hid (show (readN (l.take j) apex).length ≤ 1000000 by rw [List.length_take] at hlen5; omega)
        clear hS hx hp5 ho5 hN hlen5
        go_wp2_with (at_builtin; go_loud (refine prf_append (HO5.out.alloc _) (by have := HS.out.below.size; have := HS.out.x.lt; simp; omega) HL5.out xn ⟨#[]⟩ ⟨#[]⟩ (.slice none 0 0) false rfl rfl _ _ rfl _ 1 1 (w4.heap.size + 1) rfl (by simp) rfl rfl rfl ?_))
        intro v1 w5 ho hg
        have B1 := (Below.refl w4.heap.size w4).alloc (Nat.le_refl _) (.cells #[.string ⟨#[]⟩, (.slice none 0 0)] 64)
        have B2 := B1.alloc (by simp) (.cells #[.string xn, .string ⟨#[]⟩, .string ⟨#[]⟩, (.slice none 0 0), .bool false] 71)
        have ho2 := (HO5.out.alloc (.cells #[.string ⟨#[]⟩, (.slice none 0 0)] 64)).alloc (.cells #[.string xn, .string ⟨#[]⟩, .string ⟨#[]⟩, (.slice none 0 0), .bool false] 71)
        have keep : ∀ tv l, OwnI 0 tv l w4 → OwnI 0 tv l w5 := fun tv l h => OwnI.grownApart (h.below B2) ho2 hg
        have hcells := PrfCells.snoc (p := ⟨xn, ⟨#[]⟩, ⟨#[]⟩, [], false⟩) (tv := (.slice none 0 0)) (keep _ _ HX2.out) (HP5.out.mono keep)
        have hx5 : Blk w5 w.heap.size #[.slice none 0 0, .bool false, .string ⟨#[]⟩, .int .i64 0, .string apex] 69 := by
          have h := (HS.out.x.alloc (.cells #[.string ⟨#[]⟩, (.slice none 0 0)] 64)).alloc (.cells #[.string xn, .string ⟨#[]⟩, .string ⟨#[]⟩, (.slice none 0 0), .bool false] 71)
          unfold Blk
          rw [hg.block _ h.lt (fun e => by have := (World.ownsRow.lt HO5.out _ e.symm).1; omega)]
          exact h
        have hbl : Below w.heap.size w w5 := (HS.out.below.trans (B2.mono HS.out.below.size)).grown hg (by have := HS.out.below.size; simp; omega) (fun k hk => by have := (World.ownsRow.lt HO5.out _ hk).1; omega)
        have hlist : readN (l.take (j + 1)) apex = readN (l.take j) apex ++ [⟨xn, ⟨#[]⟩, ⟨#[]⟩, [], false⟩] := by rw [HSN.out]; simp [HX.out]
        have HR5 : Hid (RdSt w apex (readN (l.take (j + 1)) apex) v1 w5) := Lib.hid ⟨hx5, by rw [hlist]; exact ⟨_, by simpa [PrfD.cl] using ho, hcells⟩, hbl⟩
        clear B1 B2 ho2 keep hcells hx5 hbl hlist ho hg HO5 HP5 HX2 HS HSN
        go_wp2_with fail
        go_roundw
        case rel => exact ⟨j + 1, by omega, by go_num, HR5⟩
        case measure => simp [intOf]; omega
      | some x =>
        rw [htk] at ht HSN
        obtain ⟨v2, ⟨u2, rfl, hu2⟩, rfl⟩ := ht
        have hx : OwnI 0 u2 x.types w4 := hu2.lift (Nat.zero_le _)
        obtain ⟨uA, uc, rfl⟩ := OwnI.len hu2
        clear hu2
        obtain ⟨y1, y2⟩ := x
        try simp only [NsecR.v]
        try simp only []
        have c0 := hN.cell 0
        have lt0 := hN.lt
        obtain ⟨xs5, ho5, hp5⟩ := hS.own
        have HS := Lib.hid hS; have HX2 := Lib.hid hx; have HP5 := Lib.hid hp5; have HO5 := Lib.hid ho5
        have hlen5 := readN_len (l.take j) apex
        have HL5 := Lib.hid (show (readN (l.take j) apex).length ≤ 1000000 by rw [List.length_take] at hlen5; omega)
        clear hS hx hp5 ho5 hN hlen5
        go_wp2_with (at_builtin; go_loud (refine prf_append (HO5.out.alloc _) (by have := HS.out.below.size; have := HS.out.x.lt; simp; omega) HL5.out xn y1 ⟨#[]⟩ (.slice uA y2.length uc) false rfl rfl _ _ rfl _ 1 1 (w4.heap.size + 1) rfl (by simp) rfl rfl rfl ?_))
        intro v1 w5 ho hg
        have B1 := (Below.refl w4.heap.size w4).alloc (Nat.le_refl _) (.cells #[.string y1, (.slice uA y2.length uc)] 64)
        have B2 := B1.alloc (by simp) (.cells #[.string xn, .string y1, .string ⟨#[]⟩, (.slice uA y2.length uc), .bool false] 71)
        have ho2 := (HO5.out.alloc (.cells #[.string y1, (.slice uA y2.length uc)] 64)).alloc (.cells #[.string xn, .string y1, .string ⟨#[]⟩, (.slice uA y2.length uc), .bool false] 71)
        have keep : ∀ tv l, OwnI 0 tv l w4 → OwnI 0 tv l w5 := fun tv l h => OwnI.grownApart (h.below B2) ho2 hg
        have hcells := PrfCells.snoc (p := ⟨xn, y1, ⟨#[]⟩, y2, false⟩) (tv := (.slice uA y2.length uc)) (keep _ _ HX2.out) (HP5.out.mono keep)
        have hx5 : Blk w5 w.heap.size #[.slice none 0 0, .bool false, .string ⟨#[]⟩, .int .i64 0, .string apex] 69 := by
          have h := (HS.out.x.alloc (.cells #[.string y1, (.slice uA y2.length uc)] 64)).alloc (.cells #[.string xn, .string y1, .string ⟨#[]⟩, (.slice uA y2.length uc), .bool false] 71)
          unfold Blk
          rw [hg.block _ h.lt (fun e => by have := (World.ownsRow.lt HO5.out _ e.symm).1; omega)]
          exact h
        have hbl : Below w.heap.size w w5 := (HS.out.below.trans (B2.mono HS.out.below.size)).grown hg (by have := HS.out.below.size; simp; omega) (fun k hk => by have := (World.ownsRow.lt HO5.out _ hk).1; omega)
        have hlist : readN (l.take (j + 1)) apex = readN (l.take j) apex ++ [⟨xn, y1, ⟨#[]⟩, y2, false⟩] := by rw [HSN.out]; simp [HX.out]
        have HR5 : Hid (RdSt w apex (readN (l.take (j + 1)) apex) v1 w5) := Lib.hid ⟨hx5, by rw [hlist]; exact ⟨_, by simpa [PrfD.cl] using ho, hcells⟩, hbl⟩
        clear B1 B2 ho2 keep hcells hx5 hbl hlist ho hg HO5 HP5 HX2 HS HSN
        go_wp2_with fail
        go_roundw
        case rel => exact ⟨j + 1, by omega, by go_num, HR5⟩
        case measure => simp [intOf]; omega
    · obtain rfl : j = l.length := by omega
      have hS := hS0.out
      rw [List.take_length] at hS
      obtain ⟨xs5, ho5, hp5⟩ := hS.own
      have hps := hS.own
      have hpos : 0 < (readN l apex).length := List.length_pos_iff.2 hne
      have hll : (readN l apex).length ≤ 1000000 := Nat.le_trans (readN_len l apex) hlen
      obtain ⟨A5, c5, rfl⟩ : ∃ A5 c5, u5 = .slice A5 (readN l apex).length c5 := by
        rcases ho5.2 with ⟨_, h0⟩ | ⟨g, cap, cur, rfl, _⟩
        · omega
        · exact ⟨_, _, rfl⟩
      have q1 : (((readN l apex).length : Int) == 0) = false := beq_eq_false_iff_ne.2 (by omega)
      have d0 := hS.x.cell 0; have d1 := hS.x.cell 1; have f0 := fun k => hS.x.free k
      have hfin : PsAt w.heap.size (readN l apex) apex ((wr.setCell ⟨w.heap.size, 0, none⟩ (.slice A5 (readN l apex).length c5)).setCell ⟨w.heap.size, 1, none⟩ (.bool false)) := by
        have hx1 := hS.x.set 0 (.slice A5 (readN l apex).length c5)
        have hx2 := hx1.set 1 (.bool false)
        refine ⟨.slice A5 (readN l apex).length c5, by simpa using hx2, ?_⟩
        refine PrfOwn.at (base := w.heap.size + 1) ⟨xs5, ?_, ?_⟩ hll
        · exact ownP_set (ownP_set ho5 0 _) 1 _
        · exact hp5.mono fun tv l ht => OwnI.setApart (OwnI.setApart ht hS.x 0 _) hx1 1 _
      have HF := Lib.hid hfin; have HB := Lib.hid hS.below
      clear hfin hps hp5 ho5 hS hS0 hpos hll hne
      generalize (readN l apex).length = nn at *
      go_wp2_with fail
      go_ret
      exact ⟨(HB.out.setCell (p := ⟨w.heap.size, 0, none⟩) (Nat.le_refl _) _).setCell (p := ⟨w.heap.size, 1, none⟩) (Nat.le_refl _) _, _, rfl, HF.out⟩
end Go.Proofs.YtmkodendjlmijaaGreatDoor

/- denial.Type and denial.Cut, over sets of NSEC, for a name that has one. -/
namespace Go.Proofs.YtmkodendjlmijaaGreatDoor
open Go.RowKit

set_option maxRecDepth 100000 in
set_option maxHeartbeats 1000000 in
theorem den_type (l : List SetD) (v : Value) (n apex : ByteArray) (kind : Int) (p : PrfD) (w : World) (hl : SetsAt v l w) (h47 : ∀ s ∈ l, s.kind = 47) (hne : readN l apex ≠ []) (hu : underB n apex = true) (hk0 : 0 ≤ kind) (hk1 : kind ≤ 65535) (hm : (readN l apex).find? (matchQ n) = some p) :
    Calls Tryz.prog 19 #[v, .string n, .int .i64 kind, .string apex] w fun e w' => e = .returned (.int .i64 (worthI (p.lacks kind) zPrf)) ∧ Below w.heap.size w w' := by
  have h1 := den_read l v apex w hl h47 hne
  have h2 : ∀ W, Calls Tryz.prog 35 #[.string n, .string apex] W (BoolB (underB n apex) W) := fun W => name_under n apex W
  rw [hu] at h2
  obtain ⟨A, c, rfl, _⟩ := hl
  generalize readN l apex = ps at *
  have hcv : ∀ b w0 W, PsAt b ps apex w0 → Below w0.heap.size w0 W → Calls Tryz.prog 37 #[.pointer (some ⟨b, 0, none⟩), .string n] W (GivesQ (matchQ n) W) := fun b w0 W h hb => den_matches b ps apex n W (h.below hb)
  have hfi : ∀ b w0 W, PsAt b ps apex w0 → Below w0.heap.size w0 W → ∀ k bnd, AsksP k bnd (matchQ n) W → Calls Tryz.prog 36 #[.pointer (some ⟨b, 0, none⟩), .func (.func k) #[] bnd] W (FirstP (some p) w0 W) := fun b w0 W h hb k bnd ha => by
    have := den_first b ps apex k bnd (matchQ n) w0 W h hb ha
    rw [hm] at this; exact this
  have hlk : ∀ W tv, IntsAt tv p.types W → Calls Tryz.prog 44 #[p.v tv, .int .i64 kind] W (BoolB (p.lacks kind) W) := fun W tv h => prf_lacks p tv kind W h
  generalize p.lacks kind = lk at *
  obtain ⟨x0, x1, x2, x3, x4⟩ := p
  have H1 := Lib.hid h1; have H2 := Lib.hid h2; have HC := Lib.hid hcv; have HF := Lib.hid hfi; have HL := Lib.hid hlk
  clear h1 h2 hcv hfi hlk hm hu h47 hne
  have q1 : decide (kind < 0) = false := decide_eq_false (by omega)
  have q2 : decide ((65535 : Int) < kind) = false := decide_eq_false (by omega)
  go_enter Tryz.func19, Tryz.ntmps19
  go_wp2_with (go_at_call 34; refine (Hid.out (p := _) ?_))
  refine Lib.hid ?_
  refine (H1.out).mono ?_
  rintro e w1 ⟨hb, b, rfl, hp⟩
  have bl := hb
  simp only []
  go_wp2_with (go_at_call 35; refine (Hid.out (p := _) ?_))
  refine Lib.hid ?_
  refine (H2.out _).mono ?_
  rintro e w2 ⟨rfl, hb2⟩
  simp only []
  replace bl := bl.trans (hb2.mono bl.size)
  have HP := Lib.hid hp
  clear hp H1 H2
  go_wp2_with (go_at_call 37; refine (Hid.out (p := _) ?_))
  refine Lib.hid ?_
  refine (HC.out _ _ _ HP.out hb2).mono ?_
  rintro e w3 ⟨hb3, k, bnd, rfl, ha⟩
  have hb23 := hb2.trans (hb3.mono hb2.size)
  replace bl := bl.trans (hb3.mono bl.size)
  clear hb hb2 hb3
  simp only []
  have HFF := Lib.hid (HF.out _ _ _ HP.out hb23 k bnd ha)
  clear ha HC HF
  go_wp2_with (go_at_call 36; refine (Hid.out (p := _) ?_))
  refine Lib.hid ?_
  refine (HFF.out).mono ?_
  rintro e w4 ⟨hb4, tv, he, hti⟩
  replace bl := bl.trans (hb4.mono bl.size)
  have b14 := hb23.trans (hb4.mono hb23.size)
  clear hb4 hb23 HFF
  have hti0 := hti
  obtain ⟨A2, c2, rfl, hti⟩ := hti
  simp only [Option.getD_some, PrfD.v, Option.isSome_some] at he
  subst he
  simp only []
  have bA := bl.alloc bl.size (.cells #[.string x0, .string x1, .string x2, .slice A2 x3.length c2, .bool x4] 71)
  have bB := b14.alloc b14.size (.cells #[.string x0, .string x1, .string x2, .slice A2 x3.length c2, .bool x4] 71)
  have HL4 := Lib.hid (HL.out _ _ (hti0.below bB))
  go_wp2_with (go_at_call 44; refine (Hid.out (p := _) ?_))
  refine Lib.hid ?_
  refine (HL4.out).mono ?_
  rintro e w5 ⟨rfl, hb5⟩
  replace bA := bA.trans (hb5.mono bA.size)
  clear hb5
  simp only []
  have HW8 := Lib.hid (fun ok => den_worth ok zPrf (.slice none 0 0) w5 (IntsAt.nil _))
  go_wp2_with (go_at_call 41; refine (Hid.out (p := _) ?_))
  refine Lib.hid ?_
  refine (HW8.out _).mono ?_
  rintro e w6 ⟨rfl, hb6⟩
  replace bA := bA.trans (hb6.mono bA.size)
  simp only []
  go_wp2_with fail
  go_ret
  exact ⟨rfl, bA⟩
set_option maxRecDepth 100000 in
set_option maxHeartbeats 1000000 in
theorem den_cut (l : List SetD) (v : Value) (n apex : ByteArray) (p : PrfD) (w : World) (hl : SetsAt v l w) (h47 : ∀ s ∈ l, s.kind = 47) (hne : readN l apex ≠ []) (hu : underB n apex = true) (hm : (readN l apex).find? (matchQ n) = some p) :
    Calls Tryz.prog 18 #[v, .string n, .string apex] w fun e w' => e = .returned (.int .i64 (if nameEq n apex = true then 0 else worthI p.bare zPrf)) ∧ Below w.heap.size w w' := by
  have h1 := den_read l v apex w hl h47 hne
  have h2 : ∀ W, Calls Tryz.prog 35 #[.string n, .string apex] W (BoolB (underB n apex) W) := fun W => name_under n apex W
  have h3 : ∀ W, Calls Tryz.prog 13 #[.string n, .string apex] W (BoolB (nameEq n apex) W) := fun W => name_equal n apex W
  rw [hu] at h2
  obtain ⟨A, c, rfl, _⟩ := hl
  generalize readN l apex = ps at *
  generalize nameEq n apex = ne at *
  have hcv : ∀ b w0 W, PsAt b ps apex w0 → Below w0.heap.size w0 W → Calls Tryz.prog 37 #[.pointer (some ⟨b, 0, none⟩), .string n] W (GivesQ (matchQ n) W) := fun b w0 W h hb => den_matches b ps apex n W (h.below hb)
  have hfi : ∀ b w0 W, PsAt b ps apex w0 → Below w0.heap.size w0 W → ∀ k bnd, AsksP k bnd (matchQ n) W → Calls Tryz.prog 36 #[.pointer (some ⟨b, 0, none⟩), .func (.func k) #[] bnd] W (FirstP (some p) w0 W) := fun b w0 W h hb k bnd ha => by
    have := den_first b ps apex k bnd (matchQ n) w0 W h hb ha
    rw [hm] at this; exact this
  have hlk : ∀ W tv, IntsAt tv p.types W → Calls Tryz.prog 43 #[p.v tv] W (BoolB p.bare W) := fun W tv h => prf_bare p tv W h
  generalize p.bare = lk at *
  obtain ⟨x0, x1, x2, x3, x4⟩ := p
  have H1 := Lib.hid h1; have H2 := Lib.hid h2; have H3 := Lib.hid h3; have HC := Lib.hid hcv; have HF := Lib.hid hfi; have HL := Lib.hid hlk
  clear h1 h2 h3 hcv hfi hlk hm hu h47 hne
  cases ne with
  | true =>
    go_enter Tryz.func18, Tryz.ntmps18
    go_wp2_with (go_at_call 34; refine (Hid.out (p := _) ?_))
    refine Lib.hid ?_
    refine (H1.out).mono ?_
    rintro e w1 ⟨hb, b, rfl, hp⟩
    have bl := hb
    simp only []
    go_wp2_with (go_at_call 35; refine (Hid.out (p := _) ?_))
    refine Lib.hid ?_
    refine (H2.out _).mono ?_
    rintro e w2 ⟨rfl, hb2⟩
    simp only []
    replace bl := bl.trans (hb2.mono bl.size)
    go_wp2_with (go_at_call 13; refine (Hid.out (p := _) ?_))
    refine Lib.hid ?_
    refine (H3.out _).mono ?_
    rintro e w3 ⟨rfl, hb3⟩
    replace bl := bl.trans (hb3.mono bl.size)
    simp only []
    go_wp2_with fail
    go_ret
    exact ⟨rfl, bl⟩
  | false =>
    go_enter Tryz.func18, Tryz.ntmps18
    go_wp2_with (go_at_call 34; refine (Hid.out (p := _) ?_))
    refine Lib.hid ?_
    refine (H1.out).mono ?_
    rintro e w1 ⟨hb, b, rfl, hp⟩
    have bl := hb
    simp only []
    go_wp2_with (go_at_call 35; refine (Hid.out (p := _) ?_))
    refine Lib.hid ?_
    refine (H2.out _).mono ?_
    rintro e w2 ⟨rfl, hb2⟩
    simp only []
    replace bl := bl.trans (hb2.mono bl.size)
    go_wp2_with (go_at_call 13; refine (Hid.out (p := _) ?_))
    refine Lib.hid ?_
    refine (H3.out _).mono ?_
    rintro e w9 ⟨rfl, hb9⟩
    replace bl := bl.trans (hb9.mono bl.size)
    replace hb2 := hb2.trans (hb9.mono hb2.size)
    clear hb9
    simp only []
    have HP := Lib.hid hp
    clear hp H1 H2
    go_wp2_with (go_at_call 37; refine (Hid.out (p := _) ?_))
    refine Lib.hid ?_
    refine (HC.out _ _ _ HP.out hb2).mono ?_
    rintro e w3 ⟨hb3, k, bnd, rfl, ha⟩
    have hb23 := hb2.trans (hb3.mono hb2.size)
    replace bl := bl.trans (hb3.mono bl.size)
    clear hb hb2 hb3
    simp only []
    have HFF := Lib.hid (HF.out _ _ _ HP.out hb23 k bnd ha)
    clear ha HC HF
    go_wp2_with (go_at_call 36; refine (Hid.out (p := _) ?_))
    refine Lib.hid ?_
    refine (HFF.out).mono ?_
    rintro e w4 ⟨hb4, tv, he, hti⟩
    replace bl := bl.trans (hb4.mono bl.size)
    have b14 := hb23.trans (hb4.mono hb23.size)
    clear hb4 hb23 HFF
    have hti0 := hti
    obtain ⟨A2, c2, rfl, hti⟩ := hti
    simp only [Option.getD_some, PrfD.v, Option.isSome_some] at he
    subst he
    simp only []
    have bA := bl.alloc bl.size (.cells #[.string x0, .string x1, .string x2, .slice A2 x3.length c2, .bool x4] 71)
    have bB := b14.alloc b14.size (.cells #[.string x0, .string x1, .string x2, .slice A2 x3.length c2, .bool x4] 71)
    have HL4 := Lib.hid (HL.out _ _ (hti0.below bB))
    go_wp2_with (go_at_call 43; refine (Hid.out (p := _) ?_))
    refine Lib.hid ?_
    refine (HL4.out).mono ?_
    rintro e w5 ⟨rfl, hb5⟩
    replace bA := bA.trans (hb5.mono bA.size)
    clear hb5
    simp only []
    have HW8 := Lib.hid (fun ok => den_worth ok zPrf (.slice none 0 0) w5 (IntsAt.nil _))
    go_wp2_with (go_at_call 41; refine (Hid.out (p := _) ?_))
    refine Lib.hid ?_
    refine (HW8.out _).mono ?_
    rintro e w6 ⟨rfl, hb6⟩
    replace bA := bA.trans (hb6.mono bA.size)
    simp only []
    go_wp2_with fail
    go_ret
    exact ⟨rfl, bA⟩
end Go.Proofs.YtmkodendjlmijaaGreatDoor

/- denial.Name, over sets of NSEC. -/
namespace Go.Proofs.YtmkodendjlmijaaGreatDoor
open Go.RowKit

def nameR (ps : List PrfD) (n apex : ByteArray) : Int :=
  if underB n apex = false then 0 else match ps.find? (coverQ n) with
    | none => 0
    | some p => if underB p.next n = true then 0 else if (wildR ps coverQ (p.encl n)).isSome = true then 1 else 0
theorem worth_plain (ok : Bool) : worthI ok zPrf = if ok = true then 1 else 0 := by cases ok <;> rfl
set_option maxRecDepth 100000 in
set_option maxHeartbeats 1000000 in
theorem den_name (l : List SetD) (v : Value) (n apex : ByteArray) (w : World) (hl : SetsAt v l w) (h47 : ∀ s ∈ l, s.kind = 47) (hne : readN l apex ≠ []) :
    Calls Tryz.prog 17 #[v, .string n, .string apex] w fun e w' => e = .returned (.int .i64 (nameR (readN l apex) n apex)) ∧ Below w.heap.size w w' := by
  have h1 := den_read l v apex w hl h47 hne
  have h2 : ∀ W, Calls Tryz.prog 35 #[.string n, .string apex] W (BoolB (underB n apex) W) := fun W => name_under n apex W
  obtain ⟨A, c, rfl, _⟩ := hl
  generalize readN l apex = ps at *
  have H1 := Lib.hid h1; have H2 := Lib.hid h2
  clear h1 h2 h47 hne
  cases hu : underB n apex with
  | false =>
    rw [hu] at H2
    have e : nameR ps n apex = 0 := by rw [nameR, if_pos hu]
    rw [e]
    clear hu e
    go_enter Tryz.func17, Tryz.ntmps17
    go_wp2_with (go_at_call 34; refine (Hid.out (p := _) ?_))
    refine Lib.hid ?_
    refine (H1.out).mono ?_
    rintro e w1 ⟨hb, b, rfl, hp⟩
    simp only []
    go_wp2_with (go_at_call 35; refine (H2.out _).mono ?_; rintro e w2 ⟨rfl, hb2⟩)
    go_ret
    exact ⟨rfl, hb.trans (hb2.mono hb.size)⟩
  | true =>
  rw [hu] at H2
  have hcv : ∀ b w0 W, PsAt b ps apex w0 → Below w0.heap.size w0 W → Calls Tryz.prog 40 #[.pointer (some ⟨b, 0, none⟩), .string n] W (GivesQ (coverQ n) W) := fun b w0 W h hb => den_covers b ps apex n W (h.below hb)
  have hfi : ∀ b w0 W, PsAt b ps apex w0 → Below w0.heap.size w0 W → ∀ k bnd, AsksP k bnd (coverQ n) W → Calls Tryz.prog 36 #[.pointer (some ⟨b, 0, none⟩), .func (.func k) #[] bnd] W (FirstP (ps.find? (coverQ n)) w0 W) := fun b w0 W h hb k bnd ha => den_first b ps apex k bnd (coverQ n) w0 W h hb ha
  have HC := Lib.hid hcv; have HF := Lib.hid hfi
  clear hcv hfi
  have hnr : nameR ps n apex = (match ps.find? (coverQ n) with
    | none => 0
    | some p => if underB p.next n = true then 0 else if (wildR ps coverQ (p.encl n)).isSome = true then 1 else 0) := by rw [nameR, hu]; rfl
  rw [hnr]
  clear hnr hu
  generalize ps.find? (coverQ n) = r at *
  cases r with
  | none =>
    go_enter Tryz.func17, Tryz.ntmps17
    go_wp2_with (go_at_call 34; refine (Hid.out (p := _) ?_))
    refine Lib.hid ?_
    refine (H1.out).mono ?_
    rintro e w1 ⟨hb, b, rfl, hp⟩
    have bl := hb
    simp only []
    go_wp2_with (go_at_call 35; refine (Hid.out (p := _) ?_))
    refine Lib.hid ?_
    refine (H2.out _).mono ?_
    rintro e w2 ⟨rfl, hb2⟩
    simp only []
    obtain ⟨lv, hx, _⟩ := id hp
    have d1 := (hx.below hb2 hx.lt).cell 1
    replace bl := bl.trans (hb2.mono bl.size)
    have HP := Lib.hid hp
    clear hx hp H1 H2
    go_wp2_with (go_at_call 40; refine (Hid.out (p := _) ?_))
    refine Lib.hid ?_
    refine (HC.out _ _ _ HP.out hb2).mono ?_
    rintro e w3 ⟨hb3, k, bnd, rfl, ha⟩
    have hb23 := hb2.trans (hb3.mono hb2.size)
    replace bl := bl.trans (hb3.mono bl.size)
    clear hb hb2 hb3
    simp only []
    have HFF := Lib.hid (HF.out _ _ _ HP.out hb23 k bnd ha)
    clear ha HC HF d1
    go_wp2_with (go_at_call 36; refine (Hid.out (p := _) ?_))
    refine Lib.hid ?_
    refine (HFF.out).mono ?_
    rintro e w4 ⟨hb4, tv, he, hti⟩
    replace bl := bl.trans (hb4.mono bl.size)
    have b14 := hb23.trans (hb4.mono hb23.size)
    clear hb4 hb23 HFF
    obtain ⟨A2, c2, rfl, _⟩ := hti
    simp only [Option.getD_none, zPrf, PrfD.v, Option.isSome_none] at he
    subst he
    simp only []
    go_wp2_with fail
    go_ret
    exact ⟨rfl, bl.alloc bl.size _⟩
  | some p =>
    have hen : ∀ W tv, IntsAt tv p.types W → Calls Tryz.prog 42 #[p.v tv, .string n] W fun e w' => e = .returned (.string (p.encl n)) ∧ Below W.heap.size W w' := fun W tv h => prf_encloser p tv n W h
    have hwl : ∀ b W, PsAt b ps apex W → Calls Tryz.prog 39 #[.pointer (some ⟨b, 0, none⟩), .string (p.encl n), .func (.func 40) #[.pointer (some ⟨b, 0, none⟩)] #[]] W (FirstP (wildR ps coverQ (p.encl n)) W W) := fun b W h => den_wild b ps apex (p.encl n) 40 coverQ W h (meth_covers b ps apex W h)
    simp only []
    generalize p.encl n = en at *
    generalize wildR ps coverQ en = wr at *
    obtain ⟨x0, x1, x2, x3, x4⟩ := p
    have hu2 : ∀ W, Calls Tryz.prog 35 #[.string x1, .string n] W (BoolB (underB x1 n) W) := fun W => name_under x1 n W
    simp only []
    generalize hun : underB x1 n = un at *
    have HU2 := Lib.hid hu2; have HEN := Lib.hid hen; have HWL := Lib.hid hwl
    clear hu2 hen hwl hun
    have hmf := makeFunc_run
    cases un with
    | true =>
      go_enter Tryz.func17, Tryz.ntmps17
      go_wp2_with (go_at_call 34; refine (Hid.out (p := _) ?_))
      refine Lib.hid ?_
      refine (H1.out).mono ?_
      rintro e w1 ⟨hb, b, rfl, hp⟩
      have bl := hb
      simp only []
      go_wp2_with (go_at_call 35; refine (Hid.out (p := _) ?_))
      refine Lib.hid ?_
      refine (H2.out _).mono ?_
      rintro e w2 ⟨rfl, hb2⟩
      simp only []
      obtain ⟨lv, hx, _⟩ := id hp
      have d1 := (hx.below hb2 hx.lt).cell 1
      replace bl := bl.trans (hb2.mono bl.size)
      have HP := Lib.hid hp
      clear hx hp H1 H2
      go_wp2_with (go_at_call 40; refine (Hid.out (p := _) ?_))
      refine Lib.hid ?_
      refine (HC.out _ _ _ HP.out hb2).mono ?_
      rintro e w3 ⟨hb3, k, bnd, rfl, ha⟩
      have hb23 := hb2.trans (hb3.mono hb2.size)
      replace bl := bl.trans (hb3.mono bl.size)
      clear hb hb2 hb3
      simp only []
      have HFF := Lib.hid (HF.out _ _ _ HP.out hb23 k bnd ha)
      clear ha HC HF d1
      go_wp2_with (go_at_call 36; refine (Hid.out (p := _) ?_))
      refine Lib.hid ?_
      refine (HFF.out).mono ?_
      rintro e w4 ⟨hb4, tv, he, hti⟩
      replace bl := bl.trans (hb4.mono bl.size)
      have b14 := hb23.trans (hb4.mono hb23.size)
      clear hb4 hb23 HFF
      obtain ⟨A2, c2, rfl, hti⟩ := hti
      simp only [Option.getD_some, PrfD.v, Option.isSome_some] at he
      subst he
      simp only []
      have bA := bl.alloc bl.size (.cells #[.string x0, .string x1, .string x2, .slice A2 x3.length c2, .bool x4] 71)
      go_wp2_with (go_at_call 35; refine (HU2.out _).mono ?_; rintro e w5 ⟨rfl, hb5⟩; replace bA := bA.trans (hb5.mono bA.size))
      go_ret
      exact ⟨rfl, bA⟩
    | false =>
      cases hws : wr.isSome
      all_goals
        go_enter Tryz.func17, Tryz.ntmps17
        go_wp2_with (go_at_call 34; refine (Hid.out (p := _) ?_))
        refine Lib.hid ?_
        refine (H1.out).mono ?_
        rintro e w1 ⟨hb, b, rfl, hp⟩
        have bl := hb
        simp only []
        go_wp2_with (go_at_call 35; refine (Hid.out (p := _) ?_))
        refine Lib.hid ?_
        refine (H2.out _).mono ?_
        rintro e w2 ⟨rfl, hb2⟩
        simp only []
        obtain ⟨lv, hx, _⟩ := id hp
        have d1 := (hx.below hb2 hx.lt).cell 1
        replace bl := bl.trans (hb2.mono bl.size)
        have HP := Lib.hid hp
        clear hx hp H1 H2
        go_wp2_with (go_at_call 40; refine (Hid.out (p := _) ?_))
        refine Lib.hid ?_
        refine (HC.out _ _ _ HP.out hb2).mono ?_
        rintro e w3 ⟨hb3, k, bnd, rfl, ha⟩
        have hb23 := hb2.trans (hb3.mono hb2.size)
        replace bl := bl.trans (hb3.mono bl.size)
        clear hb hb2 hb3
        simp only []
        have HFF := Lib.hid (HF.out _ _ _ HP.out hb23 k bnd ha)
        clear ha HC HF d1
        go_wp2_with (go_at_call 36; refine (Hid.out (p := _) ?_))
        refine Lib.hid ?_
        refine (HFF.out).mono ?_
        rintro e w4 ⟨hb4, tv, he, hti⟩
        replace bl := bl.trans (hb4.mono bl.size)
        have b14 := hb23.trans (hb4.mono hb23.size)
        clear hb4 hb23 HFF
        have hti0 := hti
        obtain ⟨A2, c2, rfl, hti⟩ := hti
        simp only [Option.getD_some, PrfD.v, Option.isSome_some] at he
        subst he
        simp only []
        have bA := bl.alloc bl.size (.cells #[.string x0, .string x1, .string x2, .slice A2 x3.length c2, .bool x4] 71)
        have bB := b14.alloc b14.size (.cells #[.string x0, .string x1, .string x2, .slice A2 x3.length c2, .bool x4] 71)
        have hN := Blk.new w4 #[.string x0, .string x1, .string x2, .slice A2 x3.length c2, .bool x4] 71
        go_wp2_with (go_at_call 35; refine (Hid.out (p := _) ?_))
        refine Lib.hid ?_
        refine (HU2.out _).mono ?_
        rintro e w5 ⟨rfl, hb5⟩
        replace bA := bA.trans (hb5.mono bA.size)
        replace bB := bB.trans (hb5.mono bB.size)
        replace hN := hN.below hb5 hN.lt
        clear hb5
        have c0 := hN.cell 0; have c1 := hN.cell 1; have c2' := hN.cell 2; have c3 := hN.cell 3; have c4 := hN.cell 4
        simp only []
        have HE5 := Lib.hid (HEN.out w5 _ (hti0.below bB))
        go_wp2_with (go_at_call 42; refine (Hid.out (p := _) ?_))
        refine Lib.hid ?_
        refine (HE5.out).mono ?_
        rintro e w6 ⟨rfl, hb6⟩
        replace bA := bA.trans (hb6.mono bA.size)
        replace bB := bB.trans (hb6.mono bB.size)
        clear hb6 c0 c1 c2' c3 c4 hN
        simp only []
        have HW6 := Lib.hid (HWL.out b w6 (HP.out.below bB))
        go_wp2_with (go_at_call 39; refine (Hid.out (p := _) ?_))
        refine Lib.hid ?_
        refine (HW6.out).mono ?_
        rintro e w7 ⟨hb7, tv7, he7, hti7⟩
        replace bA := bA.trans (hb7.mono bA.size)
        rw [hws] at he7
        subst he7
        simp only []
        have HW8 := Lib.hid (fun ok => den_worth ok zPrf (.slice none 0 0) w7 (IntsAt.nil _))
        go_wp2_with (go_at_call 41; refine (Hid.out (p := _) ?_))
        refine Lib.hid ?_
        refine (HW8.out _).mono ?_
        rintro e w8 ⟨rfl, hb8⟩
        replace bA := bA.trans (hb8.mono bA.size)
        simp only []
        go_wp2_with fail
        go_ret
        exact ⟨rfl, bA⟩
end Go.Proofs.YtmkodendjlmijaaGreatDoor

/- Quiet steps over a class of worlds of one's own: an operation with a value, a call, a load of a whole variable. -/
namespace Go.Proofs.YtmkodendjlmijaaGreatDoor
open Go.RowKit Go.BigFrame

section
variable {P : Program} {C : World → Prop} {o : Oper} {a : Act} {K : Act → Prop}
theorem qs_run (v : Value) (h : ∀ w, C w → (execOp a.eval o).run P w = .ok (.value v) w) (hk : K (a.put o.dst v)) : o.quiet P a C K :=
  ⟨v, fun w hw => by unfold Oper.quietAt; rw [h w hw]; exact ⟨rfl, rfl⟩, hk⟩
theorem qs_call (f : FuncId) (args : Array Value) (v : Value) (h : ∀ w, C w → (execOp a.eval o).run P w = .ok (.enter f args) w) (hc : ∀ w, C w → Calls P f args w (fun e w'' => e = .returned v ∧ C w'')) (hk : K (a.put o.dst v)) : o.quiet P a C K :=
  ⟨v, fun w hw => by unfold Oper.quietAt; rw [h w hw]; exact ⟨rfl, hc w hw⟩, hk⟩
theorem qs_load (ty : TypeId) (x : Operand) (ho : o.op = .load ty x) (p : Addr) (v : Value) (hx : a.eval x = .pointer (some p)) (hl : ∀ w, C w → (loadVar ty p).run P w = .ok v w) (hk : K (a.put o.dst v)) : o.quiet P a C K :=
  qs_run v (fun w hw => by
    unfold execOp
    simp only [ho, hx, Instr.loadAt, Instr.sureAddr, Sem.run_bind, Sem.run_pure, Result.andThen_ok, hl w hw]) hk
end
end Go.Proofs.YtmkodendjlmijaaGreatDoor

