import Derived.Test.YtdflhnbpcnmpfaaGreatDoorSo9
import Derived.Test.YtdflhnbpcnmpfaaGreatDoorSo7
/- What denial asks of proofs: matches, covers. -/
namespace Go.Proofs.YtdflhnbpcnmpfaaGreatDoor
open Go.RowKit

/-- A function value that tells q of a proof. -/
def GivesQ (q : PrfD → Bool) (w : World) (e : Ending) (w' : World) : Prop := Below w.heap.size w w' ∧ ∃ k bnd, e = .returned (.func (.func k) #[] bnd) ∧ AsksP k bnd q w'
def matchQ (n : ByteArray) (p : PrfD) : Bool := nameEq p.owner n
def coverQ (n : ByteArray) (p : PrfD) : Bool := btwB p.owner n p.next && !((p.has 2 && !p.has 6 || p.has 39) && underB n p.owner)
set_option maxRecDepth 100000 in
theorem match_asks (n : ByteArray) (b : Nat) (w : World) (hb : Blk w b #[.string n] 9) : AsksP 47 #[.pointer (some ⟨b, 0, none⟩)] (matchQ n) w := by
  refine ⟨fun args W => by kernel_rfl, fun p tv W hW hti => ?_⟩
  have he : ∀ W, Calls Tryz.prog 7 #[.string p.owner, .string n] W (BoolB (matchQ n p) W) := fun W => name_equal p.owner n W
  generalize matchQ n p = q at *
  obtain ⟨x0, x1, x2, x3, x4⟩ := p
  obtain ⟨A, c, rfl, _⟩ := hti
  have hM := (hb.below hW hb.lt).alloc (.cells #[.string x0, .string x1, .string x2, .slice A x3.length c, .bool x4] 58)
  have hN := Blk.new W #[.string x0, .string x1, .string x2, .slice A x3.length c, .bool x4] 58
  have bl : Below W.heap.size W (W.alloc (.cells #[.string x0, .string x1, .string x2, .slice A x3.length c, .bool x4] 58)) := (Below.refl _ W).alloc (Nat.le_refl _) _
  have c0 := hN.cell 0; have m0 := hM.cell 0
  have HE := Lib.hid he
  clear he hM hN hb hW
  simp only [PrfD.v, List.append_toArray, List.cons_append, List.nil_append]
  go_enter Tryz.func47, Tryz.ntmps47
  go_wp2_with (go_at_call 7; refine (HE.out _).mono ?_; rintro e w2 ⟨rfl, hb⟩; replace bl := bl.trans (hb.mono bl.size))
  go_ret
  exact ⟨rfl, bl⟩
set_option maxRecDepth 100000 in
theorem den_matches (b : Nat) (l : List PrfD) (apex n : ByteArray) (w : World) (hp : PsAt b l apex w) : Calls Tryz.prog 24 #[.pointer (some ⟨b, 0, none⟩), .string n] w (GivesQ (matchQ n) w) := by
  obtain ⟨lv, hb, _⟩ := hp
  have c1 := (hb.alloc (.cells #[.string n] 9)).cell 1
  have hmf := makeFunc_run
  clear hb
  go_enter Tryz.func24, Tryz.ntmps24
  go_wp2_with fail
  go_ret
  exact ⟨(Below.refl _ w).alloc (Nat.le_refl _) _, _, _, rfl, match_asks n _ _ (Blk.new w _ _)⟩
set_option maxRecDepth 100000 in
set_option maxHeartbeats 2000000 in
theorem cover_asks (n : ByteArray) (b : Nat) (w : World) (hb : Blk w b #[.string n] 9) : AsksP 50 #[.pointer (some ⟨b, 0, none⟩)] (coverQ n) w := by
  refine ⟨fun args W => by kernel_rfl, fun p tv W hW hti => ?_⟩
  have hh : ∀ k W1, Below W.heap.size W W1 → Calls Tryz.prog 51 #[p.v tv, .int .i64 k] W1 (BoolB (p.has k) W1) := fun k W1 hb => prf_has p tv k W1 (hti.below hb)
  have hbt : ∀ W1, Below W.heap.size W W1 → Calls Tryz.prog 52 #[.string p.owner, .string n, .string p.next] W1 (BoolB (btwB p.owner n p.next) W1) := fun W1 _ => den_between p.owner n p.next W1
  have hu : ∀ W1, Below W.heap.size W W1 → Calls Tryz.prog 22 #[.string n, .string p.owner] W1 (BoolB (underB n p.owner) W1) := fun W1 _ => name_under n p.owner W1
  have hr : coverQ n p = (btwB p.owner n p.next && !((p.has 2 && !p.has 6 || p.has 39) && underB n p.owner)) := rfl
  rw [hr]
  have h2 := hh 2; have h39 := hh 39; have h6 := hh 6
  generalize p.has 2 = b2 at *
  generalize p.has 39 = b39 at *
  generalize p.has 6 = b6 at *
  generalize btwB p.owner n p.next = bt at *
  generalize underB n p.owner = bu at *
  obtain ⟨x0, x1, x2, x3, x4⟩ := p
  obtain ⟨A, c, rfl, _⟩ := hti
  simp only [PrfD.v] at h2 h39 h6
  have hM := (hb.below hW hb.lt).alloc (.cells #[.string x0, .string x1, .string x2, .slice A x3.length c, .bool x4] 58)
  have hN := Blk.new W #[.string x0, .string x1, .string x2, .slice A x3.length c, .bool x4] 58
  have bl : Below W.heap.size W (W.alloc (.cells #[.string x0, .string x1, .string x2, .slice A x3.length c, .bool x4] 58)) := (Below.refl _ W).alloc (Nat.le_refl _) _
  have c0 := hN.cell 0; have c1 := hN.cell 1; have c2 := hN.cell 2; have c3 := hN.cell 3; have c4 := hN.cell 4
  have m0 := hM.cell 0
  have H2 := Lib.hid h2; have H39 := Lib.hid h39; have H6 := Lib.hid h6; have HBT := Lib.hid hbt; have HU := Lib.hid hu
  clear hh hbt hu h2 h39 h6 hr hb hW
  simp only [PrfD.v, List.append_toArray, List.cons_append, List.nil_append]
  cases b2 <;> cases b6 <;> cases b39 <;> cases bt
  all_goals
    go_enter Tryz.func50, Tryz.ntmps50
    go_wp2_with (first | (go_at_call 51; (with_reducible refine (H2.out _ bl).mono ?_); rintro e w2 ⟨rfl, hb⟩; replace bl := bl.trans (hb.mono bl.size); replace hN := hN.below hb hN.lt; replace hM := hM.below hb hM.lt; clear hb c0 c1 c2 c3 c4 m0; have c0 := hN.cell 0; have c1 := hN.cell 1; have c2 := hN.cell 2; have c3 := hN.cell 3; have c4 := hN.cell 4; have m0 := hM.cell 0) | (go_at_call 51; (with_reducible refine (H6.out _ bl).mono ?_); rintro e w2 ⟨rfl, hb⟩; replace bl := bl.trans (hb.mono bl.size); replace hN := hN.below hb hN.lt; replace hM := hM.below hb hM.lt; clear hb c0 c1 c2 c3 c4 m0; have c0 := hN.cell 0; have c1 := hN.cell 1; have c2 := hN.cell 2; have c3 := hN.cell 3; have c4 := hN.cell 4; have m0 := hM.cell 0) | (go_at_call 51; (with_reducible refine (H39.out _ bl).mono ?_); rintro e w2 ⟨rfl, hb⟩; replace bl := bl.trans (hb.mono bl.size); replace hN := hN.below hb hN.lt; replace hM := hM.below hb hM.lt; clear hb c0 c1 c2 c3 c4 m0; have c0 := hN.cell 0; have c1 := hN.cell 1; have c2 := hN.cell 2; have c3 := hN.cell 3; have c4 := hN.cell 4; have m0 := hM.cell 0) | (go_at_call 52; (with_reducible refine (HBT.out _ bl).mono ?_); rintro e w2 ⟨rfl, hb⟩; replace bl := bl.trans (hb.mono bl.size); replace hN := hN.below hb hN.lt; replace hM := hM.below hb hM.lt; clear hb c0 c1 c2 c3 c4 m0; have c0 := hN.cell 0; have c1 := hN.cell 1; have c2 := hN.cell 2; have c3 := hN.cell 3; have c4 := hN.cell 4; have m0 := hM.cell 0) | (go_at_call 22; (with_reducible refine (HU.out _ bl).mono ?_); rintro e w2 ⟨rfl, hb⟩; replace bl := bl.trans (hb.mono bl.size); replace hN := hN.below hb hN.lt; replace hM := hM.below hb hM.lt; clear hb c0 c1 c2 c3 c4 m0; have c0 := hN.cell 0; have c1 := hN.cell 1; have c2 := hN.cell 2; have c3 := hN.cell 3; have c4 := hN.cell 4; have m0 := hM.cell 0))
    go_ret
    exact ⟨by simp, bl⟩
set_option maxRecDepth 100000 in
theorem den_covers (b : Nat) (l : List PrfD) (apex n : ByteArray) (w : World) (hp : PsAt b l apex w) : Calls Tryz.prog 27 #[.pointer (some ⟨b, 0, none⟩), .string n] w (GivesQ (coverQ n) w) := by
  obtain ⟨lv, hb, _⟩ := hp
  have c1 := (hb.alloc (.cells #[.string n] 9)).cell 1
  have hmf := makeFunc_run
  clear hb
  go_enter Tryz.func27, Tryz.ntmps27
  go_wp2_with fail
  go_ret
  exact ⟨(Below.refl _ w).alloc (Nat.le_refl _) _, _, _, rfl, cover_asks n _ _ (Blk.new w _ _)⟩
end Go.Proofs.YtdflhnbpcnmpfaaGreatDoor

/- denial's proofs: wild. -/
namespace Go.Proofs.YtdflhnbpcnmpfaaGreatDoor
open Go.RowKit

/-- The method K of the proofs at block b: what it asks of a proof, for a name. -/
def MethP (K b : Nat) (q : ByteArray → PrfD → Bool) (w : World) : Prop :=
  (∀ args W, (callFunc K args).run Tryz.prog W = .ok (.enter K args) W) ∧ ∀ n W, Below w.heap.size w W → Calls Tryz.prog K #[.pointer (some ⟨b, 0, none⟩), .string n] W (GivesQ (q n) W)
theorem meth_covers (b : Nat) (l : List PrfD) (apex : ByteArray) (w : World) (h : PsAt b l apex w) : MethP 27 b coverQ w :=
  ⟨fun args W => by kernel_rfl, fun n W hb => den_covers b l apex n W (h.below hb)⟩
theorem meth_matches (b : Nat) (l : List PrfD) (apex : ByteArray) (w : World) (h : PsAt b l apex w) : MethP 24 b matchQ w :=
  ⟨fun args W => by kernel_rfl, fun n W hb => den_matches b l apex n W (h.below hb)⟩
def wildR (l : List PrfD) (q : ByteArray → PrfD → Bool) (e : ByteArray) : Option PrfD := if (childR ⟨#[42]⟩ e).2 = 0 then l.find? (q (childR ⟨#[42]⟩ e).1) else none
def starB : ByteArray := ⟨#[42]⟩
set_option maxRecDepth 100000 in
set_option maxHeartbeats 1000000 in
theorem den_wild (b : Nat) (l : List PrfD) (apex e : ByteArray) (K : Nat) (q : ByteArray → PrfD → Bool) (w : World) (hp : PsAt b l apex w) (hk : MethP K b q w) :
    Calls Tryz.prog 26 #[.pointer (some ⟨b, 0, none⟩), .string e, .func (.func K) #[.pointer (some ⟨b, 0, none⟩)] #[]] w (FirstP (wildR l q e) w w) := by
  have hch : ∀ W, Calls Tryz.prog 12 #[.string ⟨#[42]⟩, .string e] W fun e' w' => e' = .returned (.tuple #[.string (childR ⟨#[42]⟩ e).1, .int .i64 (childR ⟨#[42]⟩ e).2]) ∧ Below W.heap.size W w' := fun W => name_child ⟨#[42]⟩ e W
  have hr : wildR l q e = (if (childR ⟨#[42]⟩ e).2 = 0 then l.find? (q (childR ⟨#[42]⟩ e).1) else none) := rfl
  rw [hr]
  clear hr
  generalize (childR ⟨#[42]⟩ e).1 = cn at *
  generalize (childR ⟨#[42]⟩ e).2 = ce at *
  have hm := hk.2 cn
  have hcf := hk.1
  have bl : Below w.heap.size w (w.alloc (.cells #[.string ⟨#[]⟩, .string ⟨#[]⟩, .string ⟨#[]⟩, .slice none 0 0, .bool false] 58)) := (Below.refl _ w).alloc (Nat.le_refl _) _
  have hN := Blk.new w #[.string ⟨#[]⟩, .string ⟨#[]⟩, .string ⟨#[]⟩, .slice none 0 0, .bool false] 58
  have HC := Lib.hid hch; have HM := Lib.hid hm; have HP := Lib.hid hp; have HCF := Lib.hid hcf
  clear hch hm hp hcf hk
  by_cases h0 : ce = 0
  · subst h0
    rw [if_pos rfl]
    have hq0 : ∀ W, Below w.heap.size w W → ∀ k bnd, AsksP k bnd (q cn) W → Calls Tryz.prog 23 #[.pointer (some ⟨b, 0, none⟩), .func (.func k) #[] bnd] W (FirstP (l.find? (q cn)) w W) := fun W h k bnd ha => den_first b l apex k bnd (q cn) w W HP.out h ha
    generalize l.find? (q cn) = r at *
    have HF := Lib.hid hq0
    clear hq0
    go_enter Tryz.func26, Tryz.ntmps26
    go_wp2_with (go_at_call 12; refine (HC.out _).mono ?_; rintro e1 w1 ⟨rfl, hb⟩; replace bl := bl.trans (hb.mono bl.size); replace hN := hN.below hb hN.lt; clear hb)
    rw [HCF.out _ w1, Oper.upon_enter]
    refine (HM.out w1 bl).mono ?_
    rintro e2 w2 ⟨hb, k, bnd, rfl, ha⟩
    replace bl := bl.trans (hb.mono bl.size)
    replace hN := hN.below hb hN.lt
    clear hb
    simp only []
    have HFF := Lib.hid (HF.out w2 bl k bnd ha)
    clear ha
    go_wp2_with (go_at_call 23; refine (Hid.out (p := _) ?_))
    refine Lib.hid ?_
    obtain ⟨p, hp⟩ : ∃ p, r.getD zPrf = p := ⟨_, rfl⟩
    refine HFF.out.mono ?_
    rintro e3 w3 ⟨hb, tv, he, hti⟩
    replace bl := bl.trans (hb.mono bl.size)
    replace hN := hN.below hb hN.lt
    rw [hp] at he hti
    obtain ⟨x0, x1, x2, x3, x4⟩ := p
    obtain ⟨A, c, rfl, hti⟩ := hti
    simp only [PrfD.v] at he
    subst he
    have HQ := Lib.hid hp; have HTI := Lib.hid hti
    clear hb hp hti HFF HF HM HC HP HCF
    simp only []
    have c0 := hN.cell 0; have c1 := hN.cell 1; have c2 := hN.cell 2; have c3 := hN.cell 3; have c4 := hN.cell 4; have f0 := fun j => hN.free j
    go_wp2_with fail
    refine bodyPost_ret (results2 rfl ⟨_, rfl, loadVar_blk (cs := #[.string x0, .string x1, .string x2, .slice A x3.length c, .bool x4]) (t := 58) ?_ Tryz.underlying58 rfl info_prf5⟩ rfl) rfl ⟨?_, .slice A x3.length c, ?_, ?_⟩
    · simpa using (((((hN.set 0 (.string x0)).set 1 (.string x1)).set 2 (.string x2)).set 3 (.slice A x3.length c)).set 4 (.bool x4))
    · iterate 5 refine Below.setCell ?_ (by exact Nat.le_refl _) _
      exact bl
    · rw [HQ.out]; rfl
    · rw [HQ.out]; exact ⟨A, c, rfl, HTI.out⟩
  · rw [if_neg h0]
    have q1 : (ce == 0) = false := beq_eq_false_iff_ne.2 h0
    go_enter Tryz.func26, Tryz.ntmps26
    go_wp2_with (go_at_call 12; refine (HC.out _).mono ?_; rintro e1 w1 ⟨rfl, hb⟩; replace bl := bl.trans (hb.mono bl.size); replace hN := hN.below hb hN.lt; clear hb; have c0 := hN.cell 0; have c1 := hN.cell 1; have c2 := hN.cell 2; have c3 := hN.cell 3; have c4 := hN.cell 4; have f0 := fun j => hN.free j)
    refine bodyPost_ret (results2 rfl ⟨_, rfl, loadVar_blk (cs := #[.string ⟨#[]⟩, .string ⟨#[]⟩, .string ⟨#[]⟩, .slice none 0 0, .bool false]) (t := 58) ?_ Tryz.underlying58 rfl info_prf5⟩ rfl) rfl ⟨?_, .slice none 0 0, rfl, IntsAt.nil _⟩
    · simpa using (((((hN.set 0 (.string ⟨#[]⟩)).set 1 (.string ⟨#[]⟩)).set 2 (.string ⟨#[]⟩)).set 3 (.slice none 0 0)).set 4 (.bool false))
    · iterate 5 refine Below.setCell ?_ (by exact Nat.le_refl _) _
      exact bl
end Go.Proofs.YtdflhnbpcnmpfaaGreatDoor

/- The names right under x.: a plain law. -/
namespace Go.Proofs.YtdflhnbpcnmpfaaGreatDoor
open Go.RowKit

def xB : ByteArray := ⟨#[1, 120, 0]⟩
def kid (l : ByteArray) : ByteArray := (bs1 l.size ++ l) ++ xB
def labOk (l : ByteArray) : Prop := 1 ≤ l.size ∧ l.size ≤ 63
theorem xB_right : nameRight xB = true := by decide
theorem childR_kid {l : ByteArray} (h : labOk l) : childR l xB = (kid l, 0) := by
  rw [childR, if_neg, if_neg]
  · rfl
  · have : xB.size = 3 := rfl
    have := h.2; omega
  · rw [xB_right]; have := h.1; have := h.2; simp only [Bool.true_eq_false, false_or]; omega
theorem kid_size (l : ByteArray) : (kid l).size = l.size + 4 := by
  rw [kid, ByteArray.size_append, ByteArray.size_append, show (bs1 l.size).size = 1 from rfl, show xB.size = 3 from rfl]; omega
theorem kid_list (l : ByteArray) : (kid l).data.toList = UInt8.ofNat l.size :: (l.data.toList ++ [1, 120, 0]) := by
  simp [kid, bs1, xB]
theorem kid_first (l : ByteArray) : byt (kid l) 0 = UInt8.ofNat l.size := by rw [byt, kid_list]; rfl
theorem kid_at (l : ByteArray) (k : Nat) : byt (kid l) (1 + l.size + k) = ([1, 120, 0] : List UInt8).getD k 0 := by
  rw [byt, kid_list, show 1 + l.size + k = (l.size + k) + 1 by omega, List.getD_cons_succ, List.getD, List.getElem?_append_right (by simp)]
  simp [List.getD]
theorem kid_lab (l : ByteArray) : (kid l).extract 1 (1 + l.size) = l := by
  rw [kid, ByteArray.append_assoc]
  apply bytes_toList_ext
  simp [bs1, xB, ByteArray.data_extract, List.extract_eq_take_drop]
  exact List.take_of_length_le (by simp)
theorem kid_ext (l : ByteArray) : (kid l).extract (1 + l.size) (kid l).size = xB := by
  rw [kid_size, kid]
  apply bytes_toList_ext
  have e : (1 : Nat) + l.size = (bs1 l.size ++ l).size := by rw [ByteArray.size_append]; rfl
  simp [bs1, xB, ByteArray.data_extract, List.extract_eq_take_drop]
theorem kid_x (l : ByteArray) : (kid l).extract (1 + l.size + 1) (1 + l.size + 1 + 1) = ⟨#[120]⟩ := by
  apply bytes_toList_ext
  simp [kid, bs1, xB, ByteArray.data_extract, List.extract_eq_take_drop]
  rw [List.drop_eq_nil_of_le (by simp), show 1 + l.size + 1 - l.size - 1 = 1 by omega]
  rfl
theorem size_u8 {l : ByteArray} (h : labOk l) : (UInt8.ofNat l.size).toNat = l.size := by
  rw [UInt8.toNat_ofNat']; have := h.2; omega
theorem kid_labels {l : ByteArray} (h : labOk l) : labels (kid l) = [(0, l), (1 + l.size, ⟨#[120]⟩)] := by
  have hs := kid_size l
  have h1 := h.1; have h2 := h.2
  have b0 := kid_first l
  have u8 := size_u8 h
  have b1 : byt (kid l) (1 + l.size) = 1 := kid_at l 0
  have b2 : byt (kid l) (1 + l.size + 1 + 1) = 0 := kid_at l 2
  have ne0 : byt (kid l) 0 ≠ 0 := fun e => by rw [b0] at e; have := congrArg UInt8.toNat e; rw [u8, show (0 : UInt8).toNat = 0 from rfl] at this; omega
  rw [labels, hs, labs, if_pos ⟨by omega, ne0, by rw [b0, u8]; omega, by rw [b0, u8]; omega⟩, b0, u8]
  rw [show 0 + 1 + l.size = 1 + l.size by omega, Nat.zero_add, kid_lab]
  rw [labs, b1, if_pos ⟨by omega, by decide, by decide, by rw [hs]; simp; omega⟩, show (1 : UInt8).toNat = 1 from rfl, kid_x]
  rw [labs, b2, if_neg (by simp)]
theorem kid_right {l : ByteArray} (h : labOk l) : nameRight (kid l) = true := by
  have hs := kid_size l
  have he : nameEnd (kid l) = 1 + l.size + 1 + 1 := by rw [nameEnd, kid_labels h]; rfl
  rw [nameRight, he, show byt (kid l) (1 + l.size + 1 + 1) = 0 from kid_at l 2, hs]
  have h1 := h.1; have h2 := h.2
  rw [decide_eq_true (by omega), decide_eq_true (by omega)]
  rfl
theorem kid_back {l : ByteArray} (h : labOk l) : backLabels (kid l) = [⟨#[120]⟩, lowS l] := by
  rw [backLabels, labels_lower _ (kid_right h), kid_labels h]
  show [lowS ⟨#[120]⟩, lowS l] = _
  rw [show lowS ⟨#[120]⟩ = ⟨#[120]⟩ by decide +kernel]
theorem xB_back : backLabels xB = [⟨#[120]⟩] := by decide +kernel
theorem xB_lower : nameLower xB = xB := by decide +kernel
theorem cmp_x_kid {l : ByteArray} (h : labOk l) : nameCmp xB (kid l) < 0 := by
  rw [nameCmp_right xB_right (kid_right h), kid_back h, xB_back]
  rw [cmpL, if_neg (by decide +kernel), cmpL]
  decide
theorem kid_eq {l m : ByteArray} (h : labOk l) (k : labOk m) : nameEq (kid l) (kid m) = decide (lowS l = lowS m) := by
  rw [Bool.eq_iff_iff, ← nameCmp_eq (kid_right h) (kid_right k), nameCmp_right (kid_right h) (kid_right k), kid_back h, kid_back k, decide_eq_true_eq]
  constructor
  · intro e
    have := cmpL_eq _ _ e
    simpa using this
  · intro e; rw [e, cmpL_self]
theorem kid_lower_size {l : ByteArray} (h : labOk l) : (nameLower (kid l)).size = l.size + 4 := by
  rw [nameLower, if_pos (kid_right h), size_lowS, kid_size]
theorem under_x {l : ByteArray} (h : labOk l) : underB (kid l) xB = true := by
  rw [underB, kid_right h, xB_right, xB_lower, nameLower, if_pos (kid_right h), labels_lowS, kid_labels h]
  have e : (lowS (kid l)).extract (1 + l.size) (lowS (kid l)).size = xB := by
    rw [lowS_extract, size_lowS, kid_ext]; decide +kernel
  simp [anyFrom, e]
theorem under_xx : underB xB xB = true := by decide +kernel
theorem under_no {l : ByteArray} (h : labOk l) : underB xB (kid l) = false := by
  have hs := kid_lower_size h
  have e1 : decide (nameLower xB = nameLower (kid l)) = false := by
    rw [xB_lower, decide_eq_false_iff_not]; intro e; have := congrArg ByteArray.size e; rw [hs, show xB.size = 3 from rfl] at this; omega
  have e2 : decide (nameLower (kid l) = ⟨#[0]⟩) = false := by
    rw [decide_eq_false_iff_not]; intro e; have := congrArg ByteArray.size e; rw [hs, show (⟨#[0]⟩ : ByteArray).size = 1 from rfl] at this; omega
  have e3 : labels xB = [(0, ⟨#[120]⟩)] := by decide +kernel
  have e4 : anyFrom xB (nameLower (kid l)) (labels xB) = false := by
    rw [e3, anyFrom]
    have : xB ≠ nameLower (kid l) := by
      intro e; have := congrArg ByteArray.size e; rw [hs, show xB.size = 3 from rfl] at this; omega
    simp [this]
  rw [underB, e1, e2, xB_lower, e4]; simp
theorem under_kid {l m : ByteArray} (h : labOk l) (k : labOk m) (hne : nameEq (kid l) (kid m) = false) : underB (kid l) (kid m) = false := by
  have hs := kid_lower_size k
  have e1 : decide (nameLower (kid l) = nameLower (kid m)) = false := by
    simpa [nameEq, kid_right h, kid_right k] using hne
  have e2 : decide (nameLower (kid m) = ⟨#[0]⟩) = false := by
    rw [decide_eq_false_iff_not]; intro e; have := congrArg ByteArray.size e; rw [hs, show (⟨#[0]⟩ : ByteArray).size = 1 from rfl] at this; omega
  have e5 : (lowS (kid l)).extract (1 + l.size) (lowS (kid l)).size = xB := by
    rw [lowS_extract, size_lowS, kid_ext]; decide +kernel
  have e6 : (lowS (kid l)).extract 0 (lowS (kid l)).size = lowS (kid l) := by
    apply bytes_toList_ext; simp
  have e7 : xB ≠ nameLower (kid m) := by
    intro e; have := congrArg ByteArray.size e; rw [hs, show xB.size = 3 from rfl] at this; omega
  have e8 : lowS (kid l) ≠ nameLower (kid m) := by
    have := of_decide_eq_false e1
    rwa [nameLower, if_pos (kid_right h)] at this
  rw [underB, e1, e2, show nameLower (kid l) = lowS (kid l) by rw [nameLower, if_pos (kid_right h)], labels_lowS, kid_labels h]
  simp [anyFrom, e5, e6, e7, e8]
end Go.Proofs.YtdflhnbpcnmpfaaGreatDoor

/- data's sink: types, as windows of bits. -/
namespace Go.Proofs.YtdflhnbpcnmpfaaGreatDoor
open Go.RowKit

set_option maxRecDepth 100000 in
theorem sink_short (b : Nat) (l : List UInt8) (wr : Bool) (s : ByteArray) (n : Int) (w : World) (hS : Sk b l wr w) (hl : l.length + s.size ≤ 100000) :
    Calls Tryz.prog 61 #[.pointer (some ⟨b, 0, none⟩), .string s, .int .i64 n] w fun e w' => e = .returned (.tuple #[]) ∧ Sk b (l ++ numB (s.size : Int) 1 ++ s.data.toList) (wr || badNum (s.size : Int) 1 || decide ((s.size : Int) < n)) w' ∧ Below b w w' := by
  have HS := Lib.hid hS
  have HL := Lib.hid hl
  clear hS hl
  go_enter Tryz.func61, Tryz.ntmps61
  go_wp2_with fail
  refine (sink_number b l wr (s.size : Int) 1 _ HS.out (by omega) (by have := HL.out; omega)).mono ?_
  rintro e W1 ⟨rfl, h1, h2, h3⟩
  have H1 := Lib.hid h1; have H2 := Lib.hid h2
  clear h1 h2 h3 HS
  go_wp2_with fail
  refine (sink_bytes b _ _ s n _ H1.out (by have := HL.out; simp [numB_len]; omega)).mono ?_
  rintro e W2 ⟨rfl, h1, h2⟩
  have H3 := Lib.hid h1; have H4 := Lib.hid (H2.out.trans h2)
  clear h1 h2 H1 H2
  go_wp2_with fail
  go_end0
  exact ⟨rfl, H3.out, H4.out⟩

/-- The bit of a type in its byte; the byte's place. -/
def tyB (x : Nat) : UInt8 := UInt8.ofNat (128 / 2 ^ (x % 8))
def bmStep (b : List UInt8) (x : Nat) : List UInt8 := b.set (x / 8 % 32) (b.getD (x / 8 % 32) 0 ||| tyB x)
def zero32 : List UInt8 := List.replicate 32 0
/-- A window's bytes, the last place, and the types that are left. -/
def bmG (w : Nat) : List UInt8 → Nat → List Nat → List UInt8 × Nat × List Nat
  | b, n, [] => (b, n, [])
  | b, n, x :: t => if x / 256 = w then bmG w (bmStep b x) (x / 8 % 32) t else (b, n, x :: t)
def winE (w : Nat) (r : List UInt8 × Nat × List Nat) : List UInt8 := numB (w : Int) 1 ++ numB ((r.2.1 + 1 : Nat) : Int) 1 ++ r.1.take (r.2.1 + 1)
def encT : Nat → List Nat → List UInt8
  | 0, _ => []
  | _ + 1, [] => []
  | f + 1, x :: t => winE (x / 256) (bmG (x / 256) (zero32) 0 (x :: t)) ++ encT f (bmG (x / 256) (zero32) 0 (x :: t)).2.2
/-- Types that may be told: each greater than the one before. -/
def tyOk (l : List Nat) : Prop := (∀ i (h : i < l.length), l[i] < 65536) ∧ ∀ i (h : i + 1 < l.length), l[i] < l[i + 1]
def nI (l : List Nat) : List Int := l.map (fun (n : Nat) => (n : Int))
theorem nI_len (l : List Nat) : (nI l).length = l.length := List.length_map _
theorem nI_at {A : Option Addr} {c : Nat} {ns : List Nat} {w0 w : World} (h : IntsAt (.slice A ns.length c) (nI ns) w0) (hb : Below w0.heap.size w0 w) (h0 : 0 < ns.length) : ∃ g o, A = some ⟨g, o, none⟩ ∧ g < w0.heap.size ∧ ∀ j (hj : j < ns.length), w.cell? ⟨g, o + j, none⟩ = some (.int .i64 (ns[j] : Int)) := by
  obtain ⟨A', c', e, hm, h⟩ := h
  simp only [Value.slice.injEq] at e
  obtain ⟨rfl, -, -⟩ := e
  obtain ⟨g, o, e, hg, hc⟩ := h (by rw [nI_len]; exact h0)
  refine ⟨g, o, e, hg, fun j hj => ?_⟩
  rw [hb.cell (p := ⟨g, o + j, none⟩) hg, hc j (by rw [nI_len]; exact hj)]
  simp [nI]
def encU (l : List UInt8) : Array Value := (l.map bv).toArray
theorem encU_get (l : List UInt8) (i : Nat) (h : i < l.length) : (encU l)[i]? = some (.int .u8 ((l.getD i 0).toNat : Int)) := by simp [encU, bv, List.getD, List.getElem?_eq_getElem h]
theorem encU_set (l : List UInt8) (i : Nat) (x : UInt8) : (encU l).setIfInBounds i (.int .u8 (x.toNat : Int)) = encU (l.set i x) := by simp [encU, bv, List.map_set]
/-- The world inside of a window: the sink, the window's bytes in a block of their own. -/
structure TyW (b g : Nat) (w : World) (l : List UInt8) (bm : List UInt8) (W : World) : Prop where
  sk : Sk b l false W
  bel : Below b w W
  blk : Blk W g (encU bm) 102
  apart : NotRow W b g
  gt : b < g
theorem TyW.start {b : Nat} {w W : World} {l bm : List UInt8} (h : Sk b l false W) (hb : Below b w W) : TyW b W.heap.size w l bm (W.alloc (.cells (encU bm) 102)) := by
  have ha : Below W.heap.size W (W.alloc (.cells (encU bm) 102)) := (Below.refl _ W).alloc (Nat.le_refl _) _
  refine ⟨h.below ha, hb.trans (ha.mono (Nat.le_of_lt h.lt)), Blk.new W _ _, fun v hv e => ?_, by have := h.lt; omega⟩
  obtain ⟨u, hB, hO⟩ := h
  rw [(hB.below ha hB.lt).cell 0] at hv
  obtain rfl : u = v := by simpa using hv
  have := World.ownsRow.lt hO _ e
  omega
theorem TyW.put {b g : Nat} {w W : World} {l bm : List UInt8} (h : TyW b g w l bm W) (nq i : Nat) (x : UInt8) : TyW b g w l (bm.set i x) ((W.drewN nq).setCell ⟨g, i, none⟩ (.int .u8 (x.toNat : Int))) := by
  obtain ⟨u, hB, hO⟩ := h.sk
  have hu : u.ownBlock ≠ some g := h.apart u (hB.cell 0)
  have hB2 : Blk ((W.drewN nq).setCell ⟨g, i, none⟩ (.int .u8 (x.toNat : Int))) b #[u, .bool false] 74 := Blk.other (w := W.drewN nq) hB (by have := h.gt; simp; omega) _
  refine ⟨⟨u, hB2, hO.block fun k hk => heap_setCell_other (W.drewN nq) _ _ _ (fun e => hu (by rw [hk, e]))⟩, ?_, ?_, fun v hv => ?_, h.gt⟩
  · exact Below.setCell (p := ⟨g, i, none⟩) (show Below b w (W.drewN nq) from ⟨h.bel.os, h.bel.tape, h.bel.output, h.bel.size, h.bel.block⟩) (by have := h.gt; simp; omega) _
  · rw [← encU_set]; exact Blk.set (w := W.drewN nq) h.blk _ _
  · rw [hB2.cell 0] at hv
    obtain rfl : u = v := by simpa using hv
    exact hu
theorem TyW.next {b g : Nat} {w W W' : World} {l l' : List UInt8} {bm : List UInt8} (h : TyW b g w l bm W) (h1 : Sk b l' false W') (h2 : Below b W W') (h3 : SkKeep b W W') : TyW b g w l' bm W' := by
  have hk := h3 g h.blk.lt (by have := h.gt; omega) h.apart
  exact ⟨h1, h.bel.trans h2, by unfold Blk; rw [hk.1]; exact h.blk, hk.2, h.gt⟩
theorem tyval (v : UInt8) (x r : Nat) (hr : x % 8 = r) : bits .or .u8 (v.toNat : Int) (128 / 2 ^ r) = ((v ||| tyB x).toNat : Int) := by
  have hv := v.toNat_lt
  have hl : 128 / 2 ^ r ≤ 128 := Nat.div_le_self _ _
  have e : (128 : Int) / 2 ^ r = ((128 / 2 ^ r : Nat) : Int) := by rw [Int.natCast_ediv, Int.natCast_pow]; rfl
  have h := u8_or_nat v.toNat (128 / 2 ^ r) (by omega) (by omega)
  rw [e, h, UInt8.toNat_or]
  have e2 : (tyB x).toNat = 128 / 2 ^ r := by rw [tyB, hr, UInt8.toNat_ofNat']; generalize 128 / 2 ^ r = z at hl; omega
  rw [e2]
theorem bmStep_len (b : List UInt8) (x : Nat) : (bmStep b x).length = b.length := by simp [bmStep]
theorem badNum_no (n : Nat) (h : n < 256) : badNum (n : Int) 1 = false := by
  simp only [badNum, Bool.or_eq_false_iff, decide_eq_false_iff_not]
  refine ⟨by omega, ?_⟩
  rw [show (2 : Int) ^ (8 * 1) = 256 from rfl]
  omega
theorem winE_len (w : Nat) (r : List UInt8 × Nat × List Nat) (h : r.1.length = 32) : (winE w r).length ≤ 34 := by
  simp [winE, numB_len, h]; omega
theorem bsOf_size (l : List UInt8) : (bsOf l).size = l.length := by simp [bsOf, ByteArray.size]
theorem TyW.row {b g : Nat} {w W : World} {l bm : List UInt8} (h : TyW b g w l bm W) (n : Nat) (hn : n ≤ bm.length) : BytesAt W g (bsOf (bm.take n)) := fun j hj => by
  have hj2 : j < n := by rw [bsOf_size, List.length_take] at hj; omega
  refine ⟨?_, h.blk.free j⟩
  rw [h.blk.cell, encU_get _ _ (by omega)]
  simp [bsOf, byt, List.getD, hj2]

set_option maxRecDepth 100000 in
set_option maxHeartbeats 1000000 in
theorem sink_types (b : Nat) (l : List UInt8) (A : Option Addr) (c : Nat) (ns : List Nat) (w0 w : World) (hI : IntsAt (.slice A ns.length c) (nI ns) w0) (h0 : Below w0.heap.size w0 w) (hb0 : w0.heap.size ≤ b) (hS : Sk b l false w) (hl : l.length ≤ 1000) (hn : ns.length ≤ 1000) (hok : tyOk ns) :
    Calls Tryz.prog 37 #[.pointer (some ⟨b, 0, none⟩), .slice A ns.length c] w fun e w' => e = .returned (.tuple #[]) ∧ Sk b (l ++ encT ns.length ns) false w' ∧ Below b w w' := by
  have HI := Lib.hid hI; have HW := Lib.hid (show ∀ W, Below b w W → Below w0.heap.size w0 W from fun W h => h0.trans (h.mono hb0)); have HS := Lib.hid hS; have HL := Lib.hid hl; have HK := Lib.hid hok
  have hni : (ns.length : Int) ≤ 1000 := by omega
  clear hI h0 hb0 hS hl hok
  go_enter Tryz.func37, Tryz.ntmps37
  go_wp2_with fail
  go_loopw [12] (fun i wr => ∃ j : Nat, j ≤ ns.length ∧ i = .int .i64 j ∧ Hid (Sk b l false wr ∧ Below b w wr)) (fun i _ => ns.length - (intOf i).toNat)
  case atStart => exact ⟨0, Nat.zero_le _, rfl, Lib.hid ⟨HS.out, Below.refl _ _⟩⟩
  case round =>
    obtain ⟨j, hj, rfl, HR⟩ := hrel
    by_cases hlt : j < ns.length
    · obtain ⟨g, o, rfl, hg, hc⟩ := nI_at HI.out (HW.out _ HR.out.2) (by omega)
      have q1 : (j : Int) < (ns.length : Int) := by omega
      have c0 := hc j hlt
      have hty := isType_any (ns[j] : Int)
      have e1 : (decide (0 ≤ (ns[j] : Int)) && decide ((ns[j] : Int) < 65536)) = true := by have := HK.out.1 j hlt; simp; omega
      rw [e1] at hty
      have HT := Lib.hid hty
      obtain ⟨u, hB, hO⟩ := HR.out.1
      have c1 : wr.cell? ⟨b, 1, none⟩ = some (.bool false) := hB.cell 1
      have f1 := fun j => hB.free j
      have HN := Lib.hid (show Sk b l false (wr.setCell ⟨b, 1, none⟩ (.bool false)) ∧ Below b w (wr.setCell ⟨b, 1, none⟩ (.bool false)) from ⟨(HR.out.1.flag false).1, Below.setCell (p := ⟨b, 1, none⟩) HR.out.2 (Nat.le_refl _) _⟩)
      rcases j with _ | j
      · clear hc hty e1 hB hO
        rw [Nat.add_zero] at c0
        generalize ns[0] = x at *
        go_wp2_with (go_at_call 59; refine (HT.out _).mono ?_; rintro e w' ⟨rfl, rfl⟩; simp only [])
        go_roundw
        case rel => exact ⟨1, by omega, by go_num, HN⟩
        case measure => simp [intOf]; omega
      · have c2 := hc j (by omega)
        have hinc := HK.out.2 j hlt
        clear hc hty e1 hB hO
        generalize ns[j + 1] = x at *
        generalize ns[j] = y at *
        have q2 : ¬ ((x : Int) ≤ (y : Int)) := by omega
        have q3 : ¬ (x ≤ y) := by omega
        go_wp2_with (go_at_call 59; refine (HT.out _).mono ?_; rintro e w' ⟨rfl, rfl⟩; simp only [])
        go_roundw
        case rel => exact ⟨j + 2, by omega, by go_num, HN⟩
        case measure => simp [intOf]; omega
    · obtain rfl : j = ns.length := by omega
      go_wp2_with fail
      go_loopw [6] (fun i wr2 => ∃ (k f : Nat) (l' : List UInt8), k ≤ ns.length ∧ i = .int .i64 k ∧ Hid (l' ++ encT f (ns.drop k) = l ++ encT ns.length ns ∧ ns.length - k ≤ f ∧ l'.length ≤ 1000 + 34 * k) ∧ Hid (Sk b l' false wr2 ∧ Below b w wr2)) (fun i _ => ns.length - (intOf i).toNat)
      case atStart => exact ⟨0, ns.length, l, Nat.zero_le _, rfl, Lib.hid ⟨rfl, by omega, by have := HL.out; omega⟩, HR⟩
      case round =>
        clear HR HS hlt hj
        obtain ⟨k, f, l', hk, rfl, HE, HR2⟩ := hrel
        have c1 : wr.cell? ⟨b, 1, none⟩ = some (.bool false) := by obtain ⟨u, hB, hO⟩ := HR2.out.1; exact hB.cell 1
        by_cases hlt2 : k < ns.length
        · obtain ⟨g, o, rfl, hg, hc⟩ := nI_at HI.out (HW.out _ HR2.out.2) (by omega)
          have q1 : (k : Int) < (ns.length : Int) := by omega
          have c0 := hc k hlt2
          have hdr : ns.drop k = ns[k] :: ns.drop (k + 1) := List.drop_eq_getElem_cons hlt2
          have hx := HK.out.1 k hlt2
          obtain ⟨f, rfl⟩ : ∃ f', f = f' + 1 := ⟨f - 1, by have := HE.out.2.1; omega⟩
          have hE := HE.out
          rw [hdr, encT, ← hdr] at hE
          obtain ⟨wn, hwn⟩ : ∃ wn, ns[k] / 256 = wn := ⟨_, rfl⟩
          have e8 : (ns[k] : Int) / 256 = (wn : Int) := by omega
          have hwl : wn < 256 := by omega
          rw [hwn] at hE
          have HE2 := Lib.hid hE
          have HWN := Lib.hid hwn
          have HHG := Lib.hid (show ∀ h : k < ns.length, ns[k] / 256 = wn from fun _ => hwn)
          clear hc hE HE hx hdr hwn
          generalize ns[k] = x at c0 e8
          go_wp2_with (refine wpList_alloc rfl 102 rfl (.agg (encU (zero32))) (fun w => by kernel_rfl) ?_)
          have hty := TyW.start (bm := zero32) HR2.out.1 HR2.out.2
          generalize wr.heap.size = g8 at hty ⊢
          change Code.wp _ _ _ _ (wr.alloc (.cells (encU zero32) 102))
          generalize wr.alloc (.cells (encU zero32) 102) = W3 at hty ⊢
          have HTY := Lib.hid hty
          clear hty c0 c1 HR2 e8 q1
          go_loopw [6, 9] (fun i nn wr3 => ∃ (m n' : Nat) (bm : List UInt8), k ≤ m ∧ m ≤ ns.length ∧ i = .int .i64 m ∧ nn = .int .i64 n' ∧ n' < 32 ∧ Hid (bm.length = 32 ∧ bmG wn bm n' (ns.drop m) = bmG wn zero32 0 (ns.drop k)) ∧ Hid (TyW b g8 w l' bm wr3)) (fun i _ _ => ns.length - (intOf i).toNat)
          case atStart => exact ⟨k, 0, zero32, Nat.le_refl _, hk, rfl, rfl, by omega, Lib.hid ⟨by simp [zero32], rfl⟩, HTY⟩
          case round =>
            clear HTY
            obtain ⟨m, n', bm, hkm, hm, rfl, rfl, hn', HBM, HT⟩ := hrel
            by_cases hlt3 : m < ns.length
            · obtain ⟨g', o', e', _, hc⟩ := nI_at HI.out (HW.out _ HT.out.bel) (by omega)
              cases e'
              have q1 : (m : Int) < (ns.length : Int) := by omega
              have c0 := hc m hlt3
              have hdr : ns.drop m = ns[m] :: ns.drop (m + 1) := List.drop_eq_getElem_cons hlt3
              have hx := HK.out.1 m hlt3
              have hbm := HBM.out
              rw [hdr, bmG] at hbm
              by_cases hw3 : ns[m] / 256 = wn
              · rw [if_pos hw3] at hbm
                generalize ns[m] = x at c0 hx hbm hw3
                obtain ⟨y, hy⟩ : ∃ y, x / 8 = y := ⟨_, rfl⟩
                have e8 : (x : Int) / 256 = (wn : Int) := by omega
                have y8 : (x : Int) / 8 = (y : Int) := by omega
                obtain ⟨pl, hpl⟩ : ∃ p, y % 32 = p := ⟨_, rfl⟩
                obtain ⟨r, hr⟩ : ∃ r, x % 8 = r := ⟨_, rfl⟩
                have ea : bits .and .i64 (y : Int) 31 = (pl : Int) := by
                  have := i64_and_nat y 31 (by omega) (by omega)
                  rw [show ((31 : Nat) : Int) = 31 from rfl] at this
                  rw [this, show (31 : Nat) = 2 ^ 5 - 1 from rfl, Nat.and_two_pow_sub_one_eq_mod]; omega
                have er : bits .and .i64 (x : Int) 7 = (r : Int) := by
                  have := i64_and_nat x 7 (by omega) (by omega)
                  rw [show ((7 : Nat) : Int) = 7 from rfl] at this
                  rw [this, show (7 : Nat) = 2 ^ 3 - 1 from rfl, Nat.and_two_pow_sub_one_eq_mod]; omega
                have hp32 : pl < 32 := by omega
                have hp32i : (pl : Int) < 32 := by omega
                have hr8 : min r 8 = r := by omega
                have c8 : wr.cell? ⟨g8, pl, none⟩ = some (.int .u8 ((bm.getD pl 0).toNat : Int)) := by rw [HT.out.blk.cell, encU_get _ _ (by rw [HBM.out.1]; exact hp32)]
                have f8 := HT.out.blk.free pl
                have HBN := Lib.hid hbm
                have HXY := Lib.hid (show x / 8 % 32 = pl ∧ x % 8 = r from ⟨by omega, hr⟩)
                have hmix : Tryz.prog.follows .mixedOrders = true := by kernel_rfl
                generalize hv : bm.getD pl 0 = v at c8
                have HV := Lib.hid hv
                clear hc hdr hx hbm hw3 hy hpl hr hv
                go_wp2_with fail
                refine wp_draw 11 (C := fun w' => ∃ n, w' = wr.drewN n) hmix (by kernel_rfl) (by kernel_rfl) (by kernel_rfl) (by simp) ⟨1, rfl⟩ ?_
                simp only [List.take_succ_cons, List.take_zero, List.drop_succ_cons, List.drop_zero]
                repeat (go_big_quiet_step (fail))
                refine wpQuiet_nil ?_
                intro _ hw'
                obtain ⟨nq, hw''⟩ := hw'
                subst hw''
                go_wp2_with fail
                rw [tyval v x r HXY.out.2]
                have hstep : (bmStep bm x).length = 32 ∧ bmG wn (bmStep bm x) pl (ns.drop (m + 1)) = bmG wn zero32 0 (ns.drop k) := by
                  have h1 := HBN.out
                  rw [HXY.out.1] at h1
                  exact ⟨by rw [bmStep_len]; exact HBM.out.1, h1.2⟩
                have hput := HT.out.put nq pl (v ||| tyB x)
                have hbs : bm.set pl (v ||| tyB x) = bmStep bm x := by rw [bmStep, HXY.out.1, HV.out]
                rw [hbs] at hput
                go_roundw
                case rel => exact ⟨m + 1, pl, bmStep bm x, by omega, by omega, by go_num, rfl, hp32, Lib.hid hstep, Lib.hid hput⟩
                case measure => simp [intOf]; omega
              · rw [if_neg hw3, ← hdr] at hbm
                have hkm2 : k < m := by
                  rcases Nat.lt_or_eq_of_le hkm with h | h
                  · exact h
                  · subst h; exact absurd (HHG.out hlt3) hw3
                have e8 : ((ns[m] : Int) / 256 == (wn : Int)) = false := by rw [beq_eq_false_iff_ne]; omega
                generalize ns[m] = x at c0 e8
                clear hc hdr hx hw3
                have HBE := Lib.hid hbm
                clear hbm
                go_wp2_with fail
                refine (sink_number b l' false (wn : Int) 1 _ HT.out.sk (by omega) (by have := HE2.out.2.2; omega)).mono ?_
                rintro e W5 ⟨rfl, h1, h2, h3⟩
                rw [badNum_no wn hwl] at h1
                have h5 := HT.out.next h1 h2 h3
                have hrow := h5.row (n' + 1) (by rw [HBM.out.1]; omega)
                have hbl : (bsOf (bm.take (n' + 1))).size = n' + 1 := by rw [bsOf_size, List.length_take, HBM.out.1]; omega
                have hcv := hrow.string (n' + 1) 32 hbl.symm
                have H5 := Lib.hid h5; have HBL := Lib.hid hbl
                have t1 : ((n' : Int) + 1).toNat = n' + 1 := by omega
                have t2 : (n' : Int) + 1 ≤ 32 := by omega
                have t3 : (0 : Int) ≤ (n' : Int) + 1 := by omega
                clear h1 h2 h3 h5 hrow hbl HT
                go_wp2_with (go_at_call 61; refine (Hid.out (p := _) ?_))
                refine Lib.hid ?_
                clear hcv
                refine (sink_short b _ false (bsOf (bm.take (n' + 1))) 1 _ H5.out.sk (by have := HE2.out.2.2; rw [HBL.out]; simp [numB_len]; omega)).mono ?_
                rintro e W6 ⟨rfl, h1, h2⟩
                rw [HBL.out, badNum_no (n' + 1) (by omega), decide_eq_false (by omega)] at h1
                have hN : Sk b (l' ++ winE wn (bmG wn zero32 0 (ns.drop k))) false W6 ∧ Below b w W6 := by
                  refine ⟨?_, H5.out.bel.trans h2⟩
                  rw [← HBE.out.2]
                  simpa [winE, bsOf, List.append_assoc] using h1
                have hL : (l' ++ winE wn (bmG wn zero32 0 (ns.drop k))) ++ encT f (ns.drop m) = l ++ encT ns.length ns ∧ ns.length - m ≤ f ∧ (l' ++ winE wn (bmG wn zero32 0 (ns.drop k))).length ≤ 1000 + 34 * m := by
                  have h7 := HE2.out
                  have h8 := winE_len wn (bmG wn zero32 0 (ns.drop k)) (by rw [← HBE.out.2]; exact HBE.out.1)
                  refine ⟨?_, by omega, by rw [List.length_append]; omega⟩
                  have h9 : (bmG wn zero32 0 (ns.drop k)).2.2 = ns.drop m := by rw [← HBE.out.2]
                  rw [← h7.1, h9, List.append_assoc]
                have HN := Lib.hid hN; have HLL := Lib.hid hL
                clear h1 h2 hN hL H5 HE2 HBE HBM
                simp only []
                go_wp2_with fail
                go_roundw
                case rel => exact ⟨m, f, _, by omega, rfl, HLL, HN⟩
                case measure => simp [intOf]; omega
            · obtain rfl : m = ns.length := by omega
              have hbm := HBM.out
              rw [List.drop_length, bmG] at hbm
              have hkm2 : k < ns.length := hlt2
              rw [← List.drop_length (l := ns)] at hbm
              have HBE := Lib.hid hbm
              clear hbm
              go_wp2_with fail
              refine (sink_number b l' false (wn : Int) 1 _ HT.out.sk (by omega) (by have := HE2.out.2.2; omega)).mono ?_
              rintro e W5 ⟨rfl, h1, h2, h3⟩
              rw [badNum_no wn hwl] at h1
              have h5 := HT.out.next h1 h2 h3
              have hrow := h5.row (n' + 1) (by rw [HBM.out.1]; omega)
              have hbl : (bsOf (bm.take (n' + 1))).size = n' + 1 := by rw [bsOf_size, List.length_take, HBM.out.1]; omega
              have hcv := hrow.string (n' + 1) 32 hbl.symm
              have H5 := Lib.hid h5; have HBL := Lib.hid hbl
              have t1 : ((n' : Int) + 1).toNat = n' + 1 := by omega
              have t2 : (n' : Int) + 1 ≤ 32 := by omega
              have t3 : (0 : Int) ≤ (n' : Int) + 1 := by omega
              clear h1 h2 h3 h5 hrow hbl HT
              go_wp2_with (go_at_call 61; refine (Hid.out (p := _) ?_))
              refine Lib.hid ?_
              clear hcv
              refine (sink_short b _ false (bsOf (bm.take (n' + 1))) 1 _ H5.out.sk (by have := HE2.out.2.2; rw [HBL.out]; simp [numB_len]; omega)).mono ?_
              rintro e W6 ⟨rfl, h1, h2⟩
              rw [HBL.out, badNum_no (n' + 1) (by omega), decide_eq_false (by omega)] at h1
              have hN : Sk b (l' ++ winE wn (bmG wn zero32 0 (ns.drop k))) false W6 ∧ Below b w W6 := by
                refine ⟨?_, H5.out.bel.trans h2⟩
                rw [← HBE.out.2]
                simpa [winE, bsOf, List.append_assoc] using h1
              have hL : (l' ++ winE wn (bmG wn zero32 0 (ns.drop k))) ++ encT f (ns.drop ns.length) = l ++ encT ns.length ns ∧ ns.length - ns.length ≤ f ∧ (l' ++ winE wn (bmG wn zero32 0 (ns.drop k))).length ≤ 1000 + 34 * ns.length := by
                have h7 := HE2.out
                have h8 := winE_len wn (bmG wn zero32 0 (ns.drop k)) (by rw [← HBE.out.2]; exact HBE.out.1)
                refine ⟨?_, by omega, by rw [List.length_append]; omega⟩
                have h9 : (bmG wn zero32 0 (ns.drop k)).2.2 = ns.drop ns.length := by rw [← HBE.out.2]
                rw [← h7.1, h9, List.append_assoc]
              have HN := Lib.hid hN; have HLL := Lib.hid hL
              clear h1 h2 hN hL H5 HE2 HBE HBM
              simp only []
              go_wp2_with fail
              go_roundw
              case rel => exact ⟨ns.length, f, _, by omega, rfl, HLL, HN⟩
              case measure => simp [intOf]; omega
        · obtain rfl : k = ns.length := by omega
          have hE := HE.out.1
          rw [List.drop_length] at hE
          have hE2 : l' = l ++ encT ns.length ns := by rw [← hE]; cases f <;> simp [encT]
          have HE2 := Lib.hid hE2
          clear hE hE2 HE hlt2
          go_wp2_with fail
          go_end0
          refine ⟨rfl, ?_, HR2.out.2⟩
          rw [← HE2.out]
          exact HR2.out.1
end Go.Proofs.YtdflhnbpcnmpfaaGreatDoor

/- data.OfNsec: a right name, right types. -/
namespace Go.Proofs.YtdflhnbpcnmpfaaGreatDoor
open Go.RowKit

def ofNsec (next : ByteArray) (ns : List Nat) : Option ByteArray := doneR (next.data.toList ++ encT ns.length ns) false
set_option maxRecDepth 100000 in
set_option maxHeartbeats 1000000 in
theorem data_ofNsec (next : ByteArray) (A : Option Addr) (c : Nat) (ns : List Nat) (w : World) (hI : IntsAt (.slice A ns.length c) (nI ns) w) (hr : nameRight next = true) (hz : next.size ≤ 1000) (hn : ns.length ≤ 1000) (hok : tyOk ns) :
    Calls Tryz.prog 18 #[.agg #[.string next, .slice A ns.length c]] w (DoneP w (ofNsec next ns)) := by
  have HI := Lib.hid hI; have HR := Lib.hid hr; have HOK := Lib.hid hok; have HZ := Lib.hid hz
  clear hI hr hok hz
  go_enter Tryz.func18, Tryz.ntmps18
  go_wp2_with fail
  have hx0 : Blk (w.alloc (.cells #[.string next, .slice A ns.length c] 50)) w.heap.size #[.string next, .slice A ns.length c] 50 := Blk.new w _ _
  have hb : (w.alloc (.cells #[.string next, .slice A ns.length c] 50)).heap.size = w.heap.size + 1 := by simp
  have hs0 := Sk.new (w.alloc (.cells #[.string next, .slice A ns.length c] 50))
  rw [hb] at hs0
  have hB0 : Below w.heap.size w ((w.alloc (.cells #[.string next, .slice A ns.length c] 50)).alloc (.cells #[.slice none 0 0, .bool false] 74)) := ((Below.refl _ w).alloc (Nat.le_refl _) _).alloc (by simp) _
  have hx1 := hx0.alloc (.cells #[.slice none 0 0, .bool false] 74)
  generalize ((w.alloc (.cells #[.string next, .slice A ns.length c] 50)).alloc (.cells #[.slice none 0 0, .bool false] 74)) = W0 at hs0 hB0 hx1 ⊢
  have HX := Lib.hid hx1; have HS := Lib.hid hs0; have HB := Lib.hid hB0
  clear hx0 hb hs0 hB0 hx1
  refine (sink_name (w.heap.size + 1) [] false next _ HS.out (by have := HZ.out; simp; omega)).mono ?_
  rintro e W1 ⟨rfl, h1, h2⟩
  rw [HR.out] at h1
  have hx := HX.out.below h2 (Nat.lt_succ_self _)
  have hB1 := HB.out.trans (h2.mono (Nat.le_succ _))
  have c1 : W1.cell? ⟨w.heap.size, 1, none⟩ = some (.slice A ns.length c) := hx.cell 1
  have HS1 := Lib.hid h1; have HB1 := Lib.hid hB1
  clear h1 h2 hx hB1 HS HB HX
  go_wp2_with fail
  refine (sink_types (w.heap.size + 1) _ A c ns w _ HI.out HB1.out (Nat.le_succ _) HS1.out (by have := HZ.out; simp; omega) hn HOK.out).mono ?_
  rintro e W2 ⟨rfl, h1, h2⟩
  have HS2 := Lib.hid h1; have HB2 := Lib.hid (HB1.out.trans (h2.mono (Nat.le_succ _)))
  clear h1 h2 c1 HS1 HB1
  go_wp2_with fail
  refine (sink_done (w.heap.size + 1) _ _ _ HS2.out).mono ?_
  rintro e W3 ⟨rfl, h2⟩
  have HB3 := Lib.hid (HB2.out.trans (h2.mono HB2.out.size))
  clear h2 HS2 HB2
  generalize hq : doneR (([] ++ next.data.toList) ++ encT ns.length ns) false = q
  have HQ : Hid (ofNsec next ns = q) := Lib.hid (by rw [← hq]; rfl)
  clear hq
  cases q with
  | none =>
    simp only [Option.getD, Option.isSome, Bool.false_eq_true, if_false]
    go_wp2
    go_ret2
    refine ⟨?_, HB3.out⟩
    rw [HQ.out]
    rfl
  | some q =>
    simp only [Option.getD, Option.isSome, if_true]
    go_wp2
    go_ret2
    refine ⟨?_, HB3.out⟩
    rw [HQ.out]
    rfl
end Go.Proofs.YtdflhnbpcnmpfaaGreatDoor

/- Types told and taken: a plain law. -/
namespace Go.Proofs.YtdflhnbpcnmpfaaGreatDoor
open Go.RowKit

/-- What bmG does: a first part of the list, all of this window. -/
theorem bmG_split (w : Nat) : ∀ (l : List Nat) (b : List UInt8) (n : Nat), ∃ g, l = g ++ (bmG w b n l).2.2 ∧ (∀ x ∈ g, x / 256 = w) ∧ (bmG w b n l).1 = g.foldl bmStep b ∧
    ((g = [] ∧ (bmG w b n l).2.1 = n) ∨ ∃ g' x, g = g' ++ [x] ∧ (bmG w b n l).2.1 = x / 8 % 32) ∧ (∀ y t, (bmG w b n l).2.2 = y :: t → y / 256 ≠ w) := by
  intro l
  induction l with
  | nil => intro b n; exact ⟨[], rfl, by simp, rfl, .inl ⟨rfl, rfl⟩, by simp [bmG]⟩
  | cons x t ih =>
    intro b n
    by_cases h : x / 256 = w
    · obtain ⟨g, h1, h2, h3, h4, h5⟩ := ih (bmStep b x) (x / 8 % 32)
      rw [bmG, if_pos h]
      refine ⟨x :: g, by rw [List.cons_append, ← h1], ?_, by rw [h3]; rfl, .inr ?_, h5⟩
      · intro y hy
        rcases List.mem_cons.1 hy with e | e
        · rw [e]; exact h
        · exact h2 y e
      · rcases h4 with ⟨rfl, e⟩ | ⟨g', y, rfl, e⟩
        · exact ⟨[], x, rfl, e⟩
        · exact ⟨x :: g', y, rfl, e⟩
    · rw [bmG, if_neg h]
      exact ⟨[], rfl, by simp, rfl, .inl ⟨rfl, rfl⟩, fun y t' e => by cases e; exact h⟩

theorem tyB_bit (x k : Nat) (hk : k < 8) : (tyB x).toNat.testBit (7 - k) = decide (x % 8 = k) := by
  have hx : x % 8 < 8 := Nat.mod_lt _ (by omega)
  unfold tyB
  generalize x % 8 = r at *
  have : ∀ r, r < 8 → ∀ k, k < 8 → (UInt8.ofNat (128 / 2 ^ r)).toNat.testBit (7 - k) = decide (r = k) := by decide
  exact this r hx k hk
theorem foldl_len (g : List Nat) : ∀ b, (g.foldl bmStep b).length = b.length := by
  induction g with
  | nil => intro b; rfl
  | cons x g ih => intro b; rw [List.foldl_cons, ih, bmStep_len]
theorem bm_bit (g : List Nat) : ∀ (b : List UInt8), b.length = 32 → ∀ i k, i < 32 → k < 8 →
    ((g.foldl bmStep b).getD i 0).toNat.testBit (7 - k) = ((b.getD i 0).toNat.testBit (7 - k) || g.any (fun x => decide (x / 8 % 32 = i ∧ x % 8 = k))) := by
  induction g with
  | nil => intro b _ i k _ _; simp
  | cons x g ih =>
    intro b hb i k hi hk
    rw [List.foldl_cons, ih (bmStep b x) (by rw [bmStep_len]; exact hb) i k hi hk, List.any_cons, ← Bool.or_assoc]
    congr 1
    by_cases h : x / 8 % 32 = i
    · have e : (bmStep b x).getD i 0 = b.getD i 0 ||| tyB x := by
        rw [bmStep, h]; simp [List.getD, hb, hi]
      rw [e, UInt8.toNat_or, Nat.testBit_or, tyB_bit x k hk]
      simp [h]
    · have e : (bmStep b x).getD i 0 = b.getD i 0 := by
        rw [bmStep]; simp [List.getD, h]
      rw [e]; simp [h]

theorem filter_next (g : List Nat) (a : Nat) (hs : g.Pairwise (· < ·)) : g.filter (fun x => decide (x < a + 1)) = g.filter (fun x => decide (x < a)) ++ (if a ∈ g then [a] else []) := by
  induction g with
  | nil => simp
  | cons x g ih =>
    rw [List.pairwise_cons] at hs
    have ih := ih hs.2
    by_cases h1 : x < a
    · rw [List.filter_cons_of_pos (by simp; omega), List.filter_cons_of_pos (by simpa using h1), ih, List.cons_append]
      have : (a ∈ x :: g) ↔ a ∈ g := ⟨fun h => (List.mem_cons.1 h).resolve_left (by omega), fun h => List.mem_cons.2 (.inr h)⟩
      simp [this]
    · have e1 : g.filter (fun y => decide (y < a)) = [] := List.filter_eq_nil_iff.2 fun y hy => by have := hs.1 y hy; simp; omega
      by_cases h2 : x = a
      · subst h2
        have e2 : g.filter (fun y => decide (y < x + 1)) = [] := List.filter_eq_nil_iff.2 fun y hy => by have := hs.1 y hy; simp; omega
        rw [List.filter_cons_of_pos (by simp), List.filter_cons_of_neg (by simp), e1, e2]
        simp
      · have e2 : g.filter (fun y => decide (y < a + 1)) = [] := List.filter_eq_nil_iff.2 fun y hy => by have := hs.1 y hy; simp; omega
        rw [List.filter_cons_of_neg (by simp; omega), List.filter_cons_of_neg (by simp; omega), e1, e2]
        have : ¬ a ∈ x :: g := fun h => by
          rcases List.mem_cons.1 h with h | h
          · omega
          · have := hs.1 a h; omega
        simp [this]
theorem nI_append (a b : List Nat) : nI (a ++ b) = nI a ++ nI b := List.map_append
theorem bits8_filter (w i : Nat) (c : UInt8) (g : List Nat) (hs : g.Pairwise (· < ·)) : ∀ k, k ≤ 8 → (∀ j, j < k → (c.toNat / 2 ^ (7 - j) % 2 = 1 ↔ w * 256 + i * 8 + j ∈ g)) →
    nI (g.filter (fun x => decide (x < w * 256 + i * 8))) ++ bits8 w i c k = nI (g.filter (fun x => decide (x < w * 256 + i * 8 + k))) := by
  intro k
  induction k with
  | zero => intro _ _; rw [bits8, List.append_nil, Nat.add_zero]
  | succ k ih =>
    intro hk hb
    rw [bits8, ← List.append_assoc, ih (by omega) (fun j hj => hb j (by omega)), ← Nat.add_assoc, filter_next g _ hs, nI_append]
    congr 1
    have h := hb k (by omega)
    unfold bit1
    by_cases h1 : c.toNat / 2 ^ (7 - k) % 2 = 1
    · rw [if_pos h1, if_pos (h.1 h1)]; rfl
    · rw [if_neg h1, if_neg (fun h2 => h1 (h.2 h2))]; rfl
theorem winL_filter (w : Nat) (b : ByteArray) (g : List Nat) (hs : g.Pairwise (· < ·)) (hlo : ∀ x ∈ g, w * 256 ≤ x) : ∀ m, (∀ i, i < m → ∀ j, j < 8 → ((byt b i).toNat / 2 ^ (7 - j) % 2 = 1 ↔ w * 256 + i * 8 + j ∈ g)) →
    winL w b m = nI (g.filter (fun x => decide (x < w * 256 + m * 8))) := by
  intro m
  induction m with
  | zero =>
    intro _
    rw [winL, List.filter_eq_nil_iff.2 fun y hy => by have := hlo y hy; simp; omega]
    rfl
  | succ m ih =>
    intro hb
    rw [winL, ih (fun i hi => hb i (by omega)), bits8_filter w m (byt b m) g hs 8 (by omega) (hb m (by omega))]
    rw [show w * 256 + m * 8 + 8 = w * 256 + (m + 1) * 8 by omega]
theorem bs_tk (l : List UInt8) (k : Nat) : (bs l).extract 0 k = bs (l.take k) := by
  apply ByteArray.ext
  simp [bs, ByteArray.data_extract]
theorem num1_bs (a : UInt8) (l : List UInt8) : numT 1 (bs (a :: l)) = some ((a.toNat : Int), bs l) := by
  have h1 := bs_tk (a :: l) 1
  have h2 := bs_drop (a :: l) 1
  rw [numT, if_pos (by rw [bs_size]; simp), h1, show (bs (a :: l)).size = (a :: l).length from bs_size _, h2]
  simp [numOf, numL, bs]
theorem bytes_bs (l r : List UInt8) (n : Nat) (h : n = l.length) : bytesT n (bs (l ++ r)) = some (bs l, bs r) := by
  subst h
  have h1 := bs_tk (l ++ r) l.length
  have h2 := bs_drop (l ++ r) l.length
  rw [bytesT, if_pos (by rw [bs_size]; simp), h1, show (bs (l ++ r)).size = (l ++ r).length from bs_size _, h2]
  simp
theorem numB1 (n : Nat) (h : n < 256) : ∃ a : UInt8, numB (n : Int) 1 = [a] ∧ a.toNat = n := by
  refine ⟨byteAt n 0, rfl, ?_⟩
  have h1 := byteAt_int (n : Int) 0
  rw [show (2 : Int) ^ (8 * 0) = 1 from rfl, Int.ediv_one] at h1
  omega
theorem byt_take (l : List UInt8) (m i : Nat) (h : i < m) : byt (bs (l.take m)) i = l.getD i 0 := by
  simp [byt, bs, List.getD, h]
theorem win_enc (x : Nat) (t : List Nat) (hs : (x :: t).Pairwise (· < ·)) :
    ∃ g, x :: t = g ++ (bmG (x / 256) zero32 0 (x :: t)).2.2 ∧ g ≠ [] ∧ (bmG (x / 256) zero32 0 (x :: t)).1.length = 32 ∧ (bmG (x / 256) zero32 0 (x :: t)).2.1 < 32 ∧
      winL (x / 256) (bs ((bmG (x / 256) zero32 0 (x :: t)).1.take ((bmG (x / 256) zero32 0 (x :: t)).2.1 + 1))) ((bmG (x / 256) zero32 0 (x :: t)).2.1 + 1) = nI g ∧
      (byt (bs ((bmG (x / 256) zero32 0 (x :: t)).1.take ((bmG (x / 256) zero32 0 (x :: t)).2.1 + 1))) (bmG (x / 256) zero32 0 (x :: t)).2.1).toNat ≠ 0 ∧
      ∀ y t', (bmG (x / 256) zero32 0 (x :: t)).2.2 = y :: t' → x / 256 < y / 256 := by
  obtain ⟨g, h1, h2, h3, h4, h5⟩ := bmG_split (x / 256) (x :: t) zero32 0
  generalize bmG (x / 256) zero32 0 (x :: t) = r at *
  obtain ⟨bm, n, rest⟩ := r
  simp only at h1 h3 h4 h5 ⊢
  have hne : g ≠ [] := fun e => by
    subst e
    exact h5 x t h1.symm rfl
  rcases h4 with ⟨e, _⟩ | ⟨g', z, hg, hz⟩
  · exact absurd e hne
  rw [h1, List.pairwise_append] at hs
  obtain ⟨hs1, _, hs3⟩ := hs
  have hzg : z ∈ g := by rw [hg]; simp
  have hlen : bm.length = 32 := by rw [h3, foldl_len]; simp [zero32]
  have hn : n < 32 := by omega
  have hbit : ∀ i k, i < 32 → k < 8 → (bm.getD i 0).toNat.testBit (7 - k) = g.any (fun x => decide (x / 8 % 32 = i ∧ x % 8 = k)) := fun i k hi hk => by
    have h := bm_bit g zero32 (by simp [zero32]) i k hi hk
    have e : zero32.getD i 0 = 0 := by rw [zero32, List.getD, List.getElem?_replicate, if_pos hi]; rfl
    rw [← h3, e] at h
    rw [h]; simp
  have hzw := h2 z hzg
  refine ⟨g, h1, hne, hlen, hn, ?_, ?_, ?_⟩
  · rw [winL_filter (x / 256) _ g hs1 (fun y hy => by have := h2 y hy; omega) (n + 1)]
    · rw [List.filter_eq_self.2]
      intro y hy
      rw [hg] at hy hs1
      have h6 : y ≤ z := by
        rcases List.mem_append.1 hy with h | h
        · exact Nat.le_of_lt ((List.pairwise_append.1 hs1).2.2 y h z (by simp))
        · rw [List.mem_singleton.1 h]; exact Nat.le_refl _
      simp only [decide_eq_true_eq]
      omega
    · intro i hi j hj
      rw [byt_take _ _ _ hi]
      have h := hbit i j (by omega) hj
      rw [Nat.testBit_eq_decide_div_mod_eq] at h
      constructor
      · intro h6
        rw [decide_eq_true h6] at h
        obtain ⟨y, hy, h7⟩ := List.any_eq_true.1 h.symm
        simp only [decide_eq_true_eq] at h7
        have := h2 y hy
        have : y = x / 256 * 256 + i * 8 + j := by omega
        rw [← this]; exact hy
      · intro h6
        have : g.any (fun x => decide (x / 8 % 32 = i ∧ x % 8 = j)) = true := List.any_eq_true.2 ⟨_, h6, by simp only [decide_eq_true_eq]; omega⟩
        rw [this] at h
        exact of_decide_eq_true h
  · rw [byt_take _ _ _ (Nat.lt_succ_self _)]
    intro h6
    have h := hbit n (z % 8) hn (Nat.mod_lt _ (by omega))
    rw [h6, Nat.zero_testBit] at h
    have : g.any (fun x => decide (x / 8 % 32 = n ∧ x % 8 = z % 8)) = true := List.any_eq_true.2 ⟨z, hzg, by simp only [decide_eq_true_eq]; exact ⟨hz.symm, trivial⟩⟩
    rw [this] at h
    cases h
  · intro y t' he
    have h6 := h5 y t' he
    have h7 := hs3 z hzg y (by rw [he]; simp)
    omega
theorem encT_nil (k : Nat) : encT k [] = [] := by cases k <;> rfl
theorem typesG_end (f : Nat) (last : Int) (acc : List Int) : typesG f last acc (bs []) = some acc := by cases f <;> rfl
theorem typesG_enc : ∀ (k : Nat) (ns : List Nat) (f : Nat) (last : Int) (acc : List Int), ns.length ≤ k → ns.Pairwise (· < ·) → (∀ x ∈ ns, x < 65536) → (∀ x t, ns = x :: t → last < ((x / 256 : Nat) : Int)) → (encT k ns).length ≤ f →
    typesG f last acc (bs (encT k ns)) = some (acc ++ nI ns) := by
  intro k
  induction k with
  | zero =>
    intro ns f last acc hl _ _ _ _
    obtain rfl := List.eq_nil_of_length_eq_zero (Nat.le_zero.1 hl)
    rw [encT_nil, typesG_end]; simp [nI]
  | succ k ih =>
    intro ns f last acc hl hs hb hh hf
    cases ns with
    | nil => rw [encT_nil, typesG_end]; simp [nI]
    | cons x t =>
      obtain ⟨g, h1, h2, h3, h4, h5, h6, h7⟩ := win_enc x t hs
      have hx := hb x (by simp)
      have hlast := hh x t rfl
      rw [encT] at hf ⊢
      generalize bmG (x / 256) zero32 0 (x :: t) = r at *
      obtain ⟨bm, n, rest⟩ := r
      simp only [winE] at h1 h3 h4 h5 h6 h7 hf ⊢
      obtain ⟨a, ha, ha2⟩ := numB1 (x / 256) (by omega)
      obtain ⟨c, hc, hc2⟩ := numB1 (n + 1) (by omega)
      rw [ha, hc] at hf ⊢
      have hbl : (bm.take (n + 1)).length = n + 1 := by rw [List.length_take]; omega
      have e : [a] ++ [c] ++ bm.take (n + 1) ++ encT k rest = a :: c :: (bm.take (n + 1) ++ encT k rest) := by simp
      rw [e] at hf ⊢
      obtain ⟨f, rfl⟩ : ∃ f', f = f' + 1 := ⟨f - 1, by simp at hf; omega⟩
      have hwin : winT (bs (a :: c :: (bm.take (n + 1) ++ encT k rest))) = some ((((x / 256 : Nat) : Int), bs (bm.take (n + 1))), bs (encT k rest)) := by
        rw [winT, num1_bs]
        simp only
        rw [num1_bs]
        simp only
        rw [bytes_bs _ _ _ (by rw [hbl]; omega), ha2]
      rw [typesG, if_neg (by rw [bs_size]; simp), hwin]
      simp only
      have hsz : (bs (bm.take (n + 1))).size = n + 1 := by rw [bs_size, hbl]
      rw [if_pos ⟨hlast, by rw [hsz]; omega, by rw [hsz]; omega, by rw [hsz, Nat.add_sub_cancel]; exact h6⟩, hsz, Int.toNat_natCast, h5]
      have hg1 : 0 < g.length := List.length_pos_iff.2 h2
      have hlen : (x :: t).length = g.length + rest.length := by rw [h1, List.length_append]
      rw [ih rest f _ _ (by omega) (by rw [h1, List.pairwise_append] at hs; exact hs.2.1) (fun y hy => hb y (by rw [h1]; exact List.mem_append_right _ hy)) (fun y t' he => by have := h7 y t' he; omega) (by simp [hbl] at hf; omega), h1, nI_append, List.append_assoc]
theorem typesT_enc (ns : List Nat) (hs : ns.Pairwise (· < ·)) (hb : ∀ x ∈ ns, x < 65536) : typesT (bs (encT ns.length ns)) = some (nI ns, ⟨#[]⟩) := by
  rw [typesT, typesG_enc ns.length ns _ (-1) [] (Nat.le_refl _) hs hb (fun x t _ => by omega) (by rw [bs_size]; exact Nat.le_refl _)]
  rfl
end Go.Proofs.YtdflhnbpcnmpfaaGreatDoor

/- denial.read, over sets of NSEC. -/
namespace Go.Proofs.YtdflhnbpcnmpfaaGreatDoor
open Go.RowKit

/-- v is a slice that reads as these sets. -/
def SetsAt (v : Value) (l : List SetD) (w : World) : Prop :=
  ∃ A c, v = .slice A l.length c ∧ l.length ≤ 1000000 ∧ (0 < l.length → ∃ g, A = some ⟨g, 0, none⟩ ∧ g < w.heap.size ∧ ∀ j (h : j < l.length), ∃ dv sv, w.rangeAt g (j * 6) (l[j].cells dv sv).toList ∧ StrsAt dv l[j].data w ∧ StrsAt sv l[j].sigs w)
theorem SetsAt.below {v : Value} {l : List SetD} {w w' : World} (h : SetsAt v l w) (hb : Below w.heap.size w w') : SetsAt v l w' := by
  obtain ⟨A, c, rfl, h1, h2⟩ := h
  refine ⟨A, c, rfl, h1, fun h0 => ?_⟩
  obtain ⟨g, e, hg, hr⟩ := h2 h0
  refine ⟨g, e, Nat.lt_of_lt_of_le hg hb.size, fun j hj => ?_⟩
  obtain ⟨dv, sv, a1, a2, a3⟩ := hr j hj
  exact ⟨dv, sv, fun i v hv => by rw [hb.cell (p := ⟨g, j * 6 + i, none⟩) hg]; exact a1 i v hv, a2.below hb, a3.below hb⟩
/-- The cells of proofs, one behind the other. -/
def PrfCells (W : World) : List PrfD → List Value → Prop
  | [], xs => xs = []
  | p :: ps, xs => ∃ tv ys, xs = p.cl tv ++ ys ∧ OwnI 0 tv p.types W ∧ PrfCells W ps ys
theorem PrfCells.len {W : World} : ∀ {ps : List PrfD} {xs : List Value}, PrfCells W ps xs → xs.length = ps.length * 5
  | [], xs, h => by rw [show xs = [] from h]; rfl
  | p :: ps, xs, h => by
    obtain ⟨tv, ys, rfl, _, h3⟩ := h
    rw [List.length_append, PrfCells.len h3, List.length_cons]
    simp [PrfD.cl]; omega
theorem PrfCells.mono {W W' : World} (hW : ∀ tv l, OwnI 0 tv l W → OwnI 0 tv l W') : ∀ {ps : List PrfD} {xs : List Value}, PrfCells W ps xs → PrfCells W' ps xs
  | [], _, h => h
  | p :: ps, xs, h => by
    obtain ⟨tv, ys, h1, h2, h3⟩ := h
    exact ⟨tv, ys, h1, hW _ _ h2, h3.mono hW⟩
theorem PrfCells.snoc {W : World} {p : PrfD} {tv : Value} (ht : OwnI 0 tv p.types W) : ∀ {ps : List PrfD} {xs : List Value}, PrfCells W ps xs → PrfCells W (ps ++ [p]) (xs ++ p.cl tv)
  | [], xs, h => by
    rw [show xs = [] from h]
    exact ⟨tv, [], by simp, ht, rfl⟩
  | q :: ps, xs, h => by
    obtain ⟨t, ys, rfl, h2, h3⟩ := h
    exact ⟨t, ys ++ p.cl tv, by simp, h2, h3.snoc ht⟩
theorem PrfCells.get {W : World} : ∀ {ps : List PrfD} {xs : List Value}, PrfCells W ps xs → ∀ j (h : j < ps.length), ∃ tv, (∀ i v, (ps[j].cl tv)[i]? = some v → xs[j * 5 + i]? = some v) ∧ OwnI 0 tv ps[j].types W
  | [], _, _, j, h => by simp at h
  | p :: ps, xs, h, 0, _ => by
    obtain ⟨tv, ys, rfl, h2, h3⟩ := h
    refine ⟨tv, fun i v hv => ?_, h2⟩
    rw [Nat.zero_mul, Nat.zero_add]
    exact List.getElem?_append_left (l₁ := p.cl tv) (l₂ := ys) (List.getElem?_eq_some_iff.1 hv).1 ▸ hv
  | p :: ps, xs, h, j + 1, hj => by
    obtain ⟨tv, ys, rfl, h2, h3⟩ := h
    obtain ⟨t, h4, h5⟩ := h3.get j (by simpa using hj)
    refine ⟨t, fun i v hv => ?_, h5⟩
    have := h4 i v hv
    rw [List.getElem?_append_right (by simp [PrfD.cl]; omega), show (j + 1) * 5 + i - (p.cl tv).length = j * 5 + i by simp [PrfD.cl]; omega]
    exact this
theorem PrfCells.one {W : World} : ∀ {ps : List PrfD} {xs : List Value}, PrfCells W ps xs → ps ≠ [] → xs ≠ []
  | [], _, _, h => absurd rfl h
  | p :: ps, xs, h, _ => by
    obtain ⟨tv, ys, rfl, _, _⟩ := h
    simp [PrfD.cl]
/-- The proofs in a row of the call's own. -/
def PrfOwn (base : Nat) (v : Value) (ps : List PrfD) (W : World) : Prop := ∃ xs, W.ownsRow base 58 5 v ps.length xs ∧ PrfCells W ps xs
theorem PrfOwn.at {base : Nat} {v : Value} {ps : List PrfD} {W : World} (h : PrfOwn base v ps W) (hl : ps.length ≤ 1000000) : PrfsAt v ps W := by
  obtain ⟨xs, h1, h2⟩ := h
  rcases h1.2 with ⟨rfl, h0⟩ | ⟨g, cap, cur, rfl, hb, hg, hn, hm, hsz, htk⟩
  · obtain rfl := List.eq_nil_of_length_eq_zero h0
    exact ⟨none, 0, rfl, by simp, fun h => absurd h (by simp)⟩
  · refine ⟨some ⟨g, 0, none⟩, cap, rfl, hl, fun _ => ⟨g, rfl, lt_of_block hg, fun j hj => ?_⟩⟩
    obtain ⟨tv, h3, h4⟩ := h2.get j hj
    refine ⟨tv, fun i v hv => ?_, h4.ints⟩
    rw [cell_of_row W g (j * 5 + i) cur 58 (0, 0) hg]
    have e := h3 i v hv
    have hi : i < 5 := (List.getElem?_eq_some_iff.1 hv).1
    rw [← htk, List.getElem?_take, if_pos (by omega)] at e
    rw [← Array.getElem?_toList]; exact e
/-- What is read. -/
def nsecPrf (s : SetD) : PrfD := match takeR nsecT (s.data.headD ⟨#[]⟩) with
  | some x => ⟨s.name, x.next, ⟨#[]⟩, x.types, false⟩
  | none => ⟨s.name, ⟨#[]⟩, ⟨#[]⟩, [], false⟩
def readC (apex : ByteArray) (s : SetD) : Bool := rightS s && decide (s.cls = 1) && decide (s.data.length = 1) && underB s.name apex
def readN (l : List SetD) (apex : ByteArray) : List PrfD := (l.filter (readC apex)).map nsecPrf
theorem readN_snoc {l : List SetD} {apex : ByteArray} (j : Nat) (h : j < l.length) : readN (l.take (j + 1)) apex = readN (l.take j) apex ++ (if readC apex l[j] = true then [nsecPrf l[j]] else []) := by
  rw [List.take_succ_eq_append_getElem h, readN, List.filter_append, List.map_append]
  congr 1
  rw [List.filter_cons]
  split
  · rfl
  · rfl
theorem readN_len (l : List SetD) (apex : ByteArray) : (readN l apex).length ≤ l.length := by
  rw [readN, List.length_map]; exact List.length_filter_le _ _
theorem info_prfA : (Tryz.prog.info? 58).map (fun i => (i.zero, i.size, i.bytes)) = some (some (.agg #[.string ⟨#[]⟩, .string ⟨#[]⟩, .string ⟨#[]⟩, .slice none 0 0, .bool false]), 5, 80) := by kernel_rfl
theorem info_set6 : (Tryz.prog.info? 40).map (·.size) = some 6 := by kernel_rfl
/-- The world of the loop. -/
structure RdSt (w : World) (apex : ByteArray) (ps : List PrfD) (v : Value) (W : World) : Prop where
  x : Blk W w.heap.size #[.slice none 0 0, .bool false, .string ⟨#[]⟩, .int .i64 0, .string apex] 56
  own : PrfOwn (w.heap.size + 1) v ps W
  below : Below w.heap.size w W
theorem OwnI.grownApart {lo base n : Nat} {v v2 : Value} {l : List Int} {xs : List Value} {w w' : World} (h : OwnI lo v l w) (ho : w.ownsRow base 58 5 v2 n xs) (hg : w.grownBy w' v2.ownBlock) : OwnI lo v l w' := by
  refine ⟨h.1, ?_⟩
  rcases h.2 with h1 | ⟨g, cap, cur, h1, h2, h3, h4⟩
  · exact .inl h1
  · refine .inr ⟨g, cap, cur, h1, h2, ?_, h4⟩
    rw [hg.block g (lt_of_block h3)]
    · exact h3
    · intro e
      rcases ho.2 with ⟨rfl, _⟩ | ⟨g2, cap2, cur2, rfl, _, hg2, _⟩
      · cases e
      · have e2 : g2 = g := by simpa [Value.ownBlock] using e.symm
        subst e2
        rw [h3] at hg2
        simp at hg2
theorem OwnI.setApart {lo : Nat} {v : Value} {l : List Int} {W : World} {b : Nat} {cs : Array Value} (h : OwnI lo v l W) (hb : Blk W b cs 56) (j : Nat) (u : Value) : OwnI lo v l (W.setCell ⟨b, j, none⟩ u) := by
  refine ⟨h.1, ?_⟩
  rcases h.2 with h1 | ⟨g, cap, cur, h1, h2, h3, h4⟩
  · exact .inl h1
  · refine .inr ⟨g, cap, cur, h1, h2, ?_, h4⟩
    rw [heap_setCell_other _ _ _ _ (fun e : g = b => by subst e; unfold Blk at hb; rw [h3] at hb; simp at hb)]
    exact h3
theorem ownP_set {b n : Nat} {v : Value} {xs : List Value} {W : World} (h : W.ownsRow (b + 1) 58 5 v n xs) (j : Nat) (u : Value) : (W.setCell ⟨b, j, none⟩ u).ownsRow (b + 1) 58 5 v n xs :=
  h.kept (row := some b) ⟨rfl, rfl, rfl, by simp, fun k _ hk => heap_setCell_other _ _ _ _ (fun e : k = b => hk (by rw [e]))⟩ (by
    cases hv : v.ownBlock with
    | none => exact .inl rfl
    | some k => right; intro e; have := (World.ownsRow.lt h _ hv).1; injection e; omega)
theorem RdSt.below' {w W W' : World} {apex : ByteArray} {ps : List PrfD} {v : Value} (h : RdSt w apex ps v W) (hb : Below W.heap.size W W') : RdSt w apex ps v W' := by
  obtain ⟨xs, h1, h2⟩ := h.own
  exact ⟨h.x.below hb h.x.lt, ⟨xs, h1.kept (grown_of_below hb) (by cases hv : v.ownBlock <;> simp), h2.mono fun tv l ht => ht.below hb⟩, h.below.trans (hb.mono h.below.size)⟩
theorem prf_append {ops : Array Oper} {rest : List Oper} {o : Oper} {a : Act} {Q : Exit → Act → World → Prop} {base n : Nat} {v : Value} {xs : List Value} {W : World} (HO : W.ownsRow base 58 5 v n xs) (hbase : base ≤ W.heap.size) (hn : n ≤ 1000000) (x0 x1 x2 : ByteArray) (tv : Value) (x4 : Bool) (htv : tv.oneCell' = true)
    (hgd : o.guard = none) (s y : Operand) (ho : o.op = .call { callee := .builtin .append, args := #[s, y], argTypes := #[54, 54] }) (cs : Array Value) (m c B : Nat) (hs : a.eval s = v) (hB : B = W.heap.size) (hx : a.eval y = .slice (some ⟨B, 0, none⟩) m c) (hcs : cs = #[.string x0, .string x1, .string x2, tv, .bool x4]) (hm : m = 1)
    (h : ∀ v1 w1, w1.ownsRow base 58 5 v1 (n + 1) (xs ++ [.string x0, .string x1, .string x2, tv, .bool x4]) → (W.alloc (.cells cs 58)).grownBy w1 v.ownBlock → wpList Tryz.prog ops Q rest (a.put o.dst v1) w1) : wpList Tryz.prog ops Q (o :: rest) a (W.alloc (.cells cs 58)) := by
  subst hcs hm hB
  obtain ⟨i0, hi, hzz⟩ := Option.map_eq_some_iff.1 info_prfA
  simp only [Prod.mk.injEq] at hzz
  obtain ⟨hz0, hz1, hz2⟩ := hzz
  refine wpList_append_own_at (W.alloc (.cells #[.string x0, .string x1, .string x2, tv, .bool x4] 58)) hgd s y 54 ho base 58 i0 _ 5 80 Tryz.underlying54 hi hz0 hz1 hz2 rfl (by omega) v n xs hs (HO.alloc _) ⟨W.heap.size, 0, none⟩ 1 c [.string x0, .string x1, .string x2, tv, .bool x4] hx rfl
    (World.news_of_block (cs := #[.string x0, .string x1, .string x2, tv, .bool x4]) (t := 58) (fr := (0, 0)) (heap_alloc_new W _)) (by intro u hu; simp at hu; rcases hu with rfl | rfl | rfl | rfl | rfl <;> first | rfl | exact htv) (by simp only [maxLen]; omega) (by omega) (by simp; omega) ?_
  intro v1 w1 hown hg _ _
  exact h v1 w1 hown hg
set_option maxRecDepth 100000 in
set_option maxHeartbeats 1000000 in
theorem den_read (l : List SetD) (v : Value) (apex : ByteArray) (w : World) (hl : SetsAt v l w) (h47 : ∀ s ∈ l, s.kind = 47) (hne : readN l apex ≠ []) :
    Calls Tryz.prog 21 #[v, .string apex] w fun e w' => Below w.heap.size w w' ∧ ∃ b, e = .returned (.pointer (some ⟨b, 0, none⟩)) ∧ PsAt b (readN l apex) apex w' := by
  obtain ⟨A, c, rfl, hlen, hA⟩ := hl
  have HA := Lib.hid hA; have H47 := Lib.hid h47
  have hlb : (l.length : Int) ≤ 1000000 := by omega
  have H0 : Hid (RdSt w apex (readN (l.take 0) apex) (.slice none 0 0) (w.alloc (.cells #[.slice none 0 0, .bool false, .string ⟨#[]⟩, .int .i64 0, .string apex] 56))) :=
    Lib.hid ⟨Blk.new w _ _, ⟨[], World.ownsRow_nil _ _ _ _, rfl⟩, (Below.refl _ w).alloc (Nat.le_refl _) _⟩
  clear hA h47
  go_enter Tryz.func21, Tryz.ntmps21
  go_wp2_with fail
  go_loopw [5, 21] (fun pv i wr => ∃ j : Nat, j ≤ l.length ∧ i = .int .i64 j ∧ Hid (RdSt w apex (readN (l.take j) apex) pv wr)) (fun _ i _ => l.length - (intOf i).toNat)
  case atStart => exact ⟨0, Nat.zero_le _, rfl, H0⟩
  case round =>
    obtain ⟨j, hj, rfl, hS0⟩ := hrel
    by_cases hlt : j < l.length
    · have hsn := readN_snoc (apex := apex) j hlt
      obtain ⟨g, rfl, hg, hr⟩ := HA.out (by omega)
      obtain ⟨dv, sv, hra0, hdv0, hsv0⟩ := hr j hlt
      have hk := H47.out l[j] (List.getElem_mem hlt)
      have hbw := hS0.out.below
      have q1 : (j : Int) < (l.length : Int) := by omega
      generalize l[j] = s at *
      obtain ⟨xn, xk, xc, xt, xd, xs⟩ := s
      simp only at hk
      subst hk
      have hrr := fun W (hb : Below w.heap.size w W) => rrset_right ⟨xn, 47, xc, xt, xd, xs⟩ dv sv W (hdv0.below hb) (hsv0.below hb)
      obtain ⟨B1, k1, rfl, hB1⟩ := hdv0
      have hfd : 0 < xd.length → ∃ gd od, B1 = some ⟨gd, od, none⟩ ∧ gd < w.heap.size ∧ w.cell? ⟨gd, od, none⟩ = some (.string (xd.headD ⟨#[]⟩)) := fun h0 => by
        obtain ⟨gd, od, hB, h1, h2⟩ := hB1 h0
        have h3 := h2 0 h0
        rw [Nat.add_zero] at h3
        refine ⟨gd, od, hB, h1, h3.trans ?_⟩
        cases xd with
        | nil => exact absurd h0 (by simp)
        | cons a t => rfl
      obtain ⟨B2, k2, rfl, _⟩ := hsv0
      have hra : wr.rangeAt g (j * 6) (SetD.cells ⟨xn, 47, xc, xt, xd, xs⟩ (.slice B1 xd.length k1) (.slice B2 xs.length k2)).toList := fun i v hv => by rw [hbw.cell (p := ⟨g, j * 6 + i, none⟩) hg]; exact hra0 i v hv
      have e0 : wr.cell? ⟨g, j * 6, none⟩ = some (.string xn) := hra 0 _ rfl
      have e1 : wr.cell? ⟨g, j * 6 + 1, none⟩ = some (.int .i64 47) := hra 1 _ rfl
      have e2 : wr.cell? ⟨g, j * 6 + 2, none⟩ = some (.int .i64 xc) := hra 2 _ rfl
      have e3 : wr.cell? ⟨g, j * 6 + 3, none⟩ = some (.int .i64 xt) := hra 3 _ rfl
      have e4 : wr.cell? ⟨g, j * 6 + 4, none⟩ = some (.slice B1 xd.length k1) := hra 4 _ rfl
      have e5 : wr.cell? ⟨g, j * 6 + 5, none⟩ = some (.slice B2 xs.length k2) := hra 5 _ rfl
      have hS := hS0.out.below' ((Below.refl _ wr).alloc (Nat.le_refl _) (.cells #[.string xn, .int .i64 47, .int .i64 xc, .int .i64 xt, .slice B1 xd.length k1, .slice B2 xs.length k2] 40))
      have hN := Blk.new wr #[.string xn, .int .i64 47, .int .i64 xc, .int .i64 xt, .slice B1 xd.length k1, .slice B2 xs.length k2] 40
      simp only [SetD.v, SetD.cells] at hrr
      have hcc : readC apex ⟨xn, 47, xc, xt, xd, xs⟩ = (rightS ⟨xn, 47, xc, xt, xd, xs⟩ && decide (xc = 1) && decide (xd.length = 1) && underB xn apex) := rfl
      have hu : ∀ W, Calls Tryz.prog 22 #[.string xn, .string apex] W (BoolB (underB xn apex) W) := fun W => name_under xn apex W
      have hpr : nsecPrf ⟨xn, 47, xc, xt, xd, xs⟩ = (match takeR nsecT (xd.headD ⟨#[]⟩) with | some x => ⟨xn, x.next, ⟨#[]⟩, x.types, false⟩ | none => ⟨xn, ⟨#[]⟩, ⟨#[]⟩, [], false⟩) := rfl
      rw [hcc, hpr] at hsn
      generalize rightS ⟨xn, 47, xc, xt, xd, xs⟩ = q at *
      generalize underB xn apex = u at *
      generalize xd.headD ⟨#[]⟩ = d at *
      have HRR := Lib.hid hrr; have HSN := Lib.hid hsn; have HFD := Lib.hid hfd; have HU := Lib.hid hu
      clear hrr hsn hfd hra hra0 hr hbw hcc hu hpr hB1
      cases q with
      | false =>
        have HX : Hid True := Lib.hid trivial
        go_wp2_with (go_at_call 41; refine (HRR.out _ hS.below).mono ?_; rintro e w2 ⟨rfl, hb⟩; replace hS := hS.below' hb; clear hb)
        go_roundw
        case rel => exact ⟨j + 1, by omega, by go_num, Lib.hid (by rw [HSN.out]; simpa [HX.out] using hS)⟩
        case measure => simp [intOf]; omega
      | true =>
      go_wp2_with (go_at_call 41; refine (Hid.out (p := _) ?_))
      refine Lib.hid ?_
      refine (HRR.out _ hS.below).mono ?_
      rintro e w2 ⟨rfl, hb⟩
      replace hS := hS.below' hb
      replace hN := hN.below hb hN.lt
      clear hb
      have c0 := hN.cell 0
      have c1 := hN.cell 1
      have c2 := hN.cell 2
      have c3 := hN.cell 3
      have c4 := hN.cell 4
      have c5 := hN.cell 5
      simp only []
      by_cases hc1 : xc = 1
      case neg =>
        have t1 : (xc != 1) = true := by rw [bne_iff_ne]; exact hc1
        have HX := Lib.hid (show ¬ (xc = 1) from hc1)
        clear hc1
        go_wp2_with fail
        go_roundw
        case rel => exact ⟨j + 1, by omega, by go_num, Lib.hid (by rw [HSN.out]; simpa [HX.out] using hS)⟩
        case measure => simp [intOf]; omega
      have t1 : (xc != 1) = false := by rw [bne_eq_false_iff_eq]; exact hc1
      by_cases hc2 : xd.length = 1
      case neg =>
        have t2 : ((xd.length : Int) != 1) = true := by rw [bne_iff_ne]; omega
        have HX := Lib.hid (show ¬ (xd.length = 1) from hc2)
        clear hc1 hc2
        go_wp2_with fail
        go_roundw
        case rel => exact ⟨j + 1, by omega, by go_num, Lib.hid (by rw [HSN.out]; simpa [HX.out] using hS)⟩
        case measure => simp [intOf]; omega
      have t2 : ((xd.length : Int) != 1) = false := by rw [bne_eq_false_iff_eq]; omega
      cases u with
      | false =>
        clear hc1 hc2
        have HX : Hid True := Lib.hid trivial
        go_wp2_with (go_at_call 22; refine (HU.out _).mono ?_; rintro e w3 ⟨rfl, hb⟩; replace hS := hS.below' hb; clear hb)
        go_roundw
        case rel => exact ⟨j + 1, by omega, by go_num, Lib.hid (by rw [HSN.out]; simpa [HX.out] using hS)⟩
        case measure => simp [intOf]; omega
      | true =>
      have HX := Lib.hid (And.intro hc1 hc2)
      obtain ⟨gd, od, rfl, hgd, hcd⟩ := HFD.out (by omega)
      have q5 : (0 : Int) < (xd.length : Int) := by omega
      clear hc1 hc2
      go_wp2_with (go_at_call 22; refine (Hid.out (p := _) ?_))
      refine Lib.hid ?_
      refine (HU.out _).mono ?_
      rintro e w3 ⟨rfl, hb⟩
      replace hS := hS.below' hb
      replace hN := hN.below hb hN.lt
      clear hb
      have c0 := hN.cell 0
      have c1 := hN.cell 1
      have c2 := hN.cell 2
      have c3 := hN.cell 3
      have c4 := hN.cell 4
      have c5 := hN.cell 5
      simp only []
      have cd : w3.cell? ⟨gd, od, none⟩ = some (.string d) := (hS.below.cell (p := ⟨gd, od, none⟩) hgd).trans hcd
      clear hcd
      go_wp2_with (go_at_call 42; refine (Hid.out (p := _) ?_))
      refine Lib.hid ?_
      refine (data_nsec d _).mono ?_
      rintro e w4 ⟨hb, ht⟩
      have hw4 := hb.size
      replace hS := hS.below' hb
      replace hN := hN.below hb hN.lt
      clear hb cd c0 c1 c2 c3 c4 c5
      cases htk : takeR nsecT d with
      | none =>
        rw [htk] at ht HSN
        obtain rfl := ht
        have hx := OwnI.nil 0 w4
        try simp only []
        have c0 := hN.cell 0
        have lt0 := hN.lt
        obtain ⟨xs5, ho5, hp5⟩ := hS.own
        have HS := Lib.hid hS; have HX2 := Lib.hid hx; have HP5 := Lib.hid hp5; have HO5 := Lib.hid ho5
        have hlen5 := readN_len (l.take j) apex
        have HL5 := Lib.hid (show (readN (l.take j) apex).length ≤ 1000000 by rw [List.length_take] at hlen5; omega)
        clear hS hx hp5 ho5 hN hlen5
        go_wp2_with (at_builtin; go_loud (refine prf_append (HO5.out.alloc _) (by have := HS.out.below.size; have := HS.out.x.lt; simp; omega) HL5.out xn ⟨#[]⟩ ⟨#[]⟩ (.slice none 0 0) false rfl rfl _ _ rfl _ 1 1 (w4.heap.size + 1) rfl (by simp) rfl rfl rfl ?_))
        intro v1 w5 ho hg
        have B1 := (Below.refl w4.heap.size w4).alloc (Nat.le_refl _) (.cells #[.string ⟨#[]⟩, (.slice none 0 0)] 50)
        have B2 := B1.alloc (by simp) (.cells #[.string xn, .string ⟨#[]⟩, .string ⟨#[]⟩, (.slice none 0 0), .bool false] 58)
        have ho2 := (HO5.out.alloc (.cells #[.string ⟨#[]⟩, (.slice none 0 0)] 50)).alloc (.cells #[.string xn, .string ⟨#[]⟩, .string ⟨#[]⟩, (.slice none 0 0), .bool false] 58)
        have keep : ∀ tv l, OwnI 0 tv l w4 → OwnI 0 tv l w5 := fun tv l h => OwnI.grownApart (h.below B2) ho2 hg
        have hcells := PrfCells.snoc (p := ⟨xn, ⟨#[]⟩, ⟨#[]⟩, [], false⟩) (tv := (.slice none 0 0)) (keep _ _ HX2.out) (HP5.out.mono keep)
        have hx5 : Blk w5 w.heap.size #[.slice none 0 0, .bool false, .string ⟨#[]⟩, .int .i64 0, .string apex] 56 := by
          have h := (HS.out.x.alloc (.cells #[.string ⟨#[]⟩, (.slice none 0 0)] 50)).alloc (.cells #[.string xn, .string ⟨#[]⟩, .string ⟨#[]⟩, (.slice none 0 0), .bool false] 58)
          unfold Blk
          rw [hg.block _ h.lt (fun e => by have := (World.ownsRow.lt HO5.out _ e.symm).1; omega)]
          exact h
        have hbl : Below w.heap.size w w5 := (HS.out.below.trans (B2.mono HS.out.below.size)).grown hg (by have := HS.out.below.size; simp; omega) (fun k hk => by have := (World.ownsRow.lt HO5.out _ hk).1; omega)
        have hlist : readN (l.take (j + 1)) apex = readN (l.take j) apex ++ [⟨xn, ⟨#[]⟩, ⟨#[]⟩, [], false⟩] := by rw [HSN.out]; simp [HX.out]
        have HR5 : Hid (RdSt w apex (readN (l.take (j + 1)) apex) v1 w5) := Lib.hid ⟨hx5, by rw [hlist]; exact ⟨_, by simpa [PrfD.cl] using ho, hcells⟩, hbl⟩
        clear B1 B2 ho2 keep hcells hx5 hbl hlist ho hg HO5 HP5 HX2 HS HSN
        go_wp2_with fail
        go_roundw
        case rel => exact ⟨j + 1, by omega, by go_num, HR5⟩
        case measure => simp [intOf]; omega
      | some x =>
        rw [htk] at ht HSN
        obtain ⟨v2, ⟨u2, rfl, hu2⟩, rfl⟩ := ht
        have hx : OwnI 0 u2 x.types w4 := hu2.lift (Nat.zero_le _)
        obtain ⟨uA, uc, rfl⟩ := OwnI.len hu2
        clear hu2
        obtain ⟨y1, y2⟩ := x
        try simp only [NsecR.v]
        try simp only []
        have c0 := hN.cell 0
        have lt0 := hN.lt
        obtain ⟨xs5, ho5, hp5⟩ := hS.own
        have HS := Lib.hid hS; have HX2 := Lib.hid hx; have HP5 := Lib.hid hp5; have HO5 := Lib.hid ho5
        have hlen5 := readN_len (l.take j) apex
        have HL5 := Lib.hid (show (readN (l.take j) apex).length ≤ 1000000 by rw [List.length_take] at hlen5; omega)
        clear hS hx hp5 ho5 hN hlen5
        go_wp2_with (at_builtin; go_loud (refine prf_append (HO5.out.alloc _) (by have := HS.out.below.size; have := HS.out.x.lt; simp; omega) HL5.out xn y1 ⟨#[]⟩ (.slice uA y2.length uc) false rfl rfl _ _ rfl _ 1 1 (w4.heap.size + 1) rfl (by simp) rfl rfl rfl ?_))
        intro v1 w5 ho hg
        have B1 := (Below.refl w4.heap.size w4).alloc (Nat.le_refl _) (.cells #[.string y1, (.slice uA y2.length uc)] 50)
        have B2 := B1.alloc (by simp) (.cells #[.string xn, .string y1, .string ⟨#[]⟩, (.slice uA y2.length uc), .bool false] 58)
        have ho2 := (HO5.out.alloc (.cells #[.string y1, (.slice uA y2.length uc)] 50)).alloc (.cells #[.string xn, .string y1, .string ⟨#[]⟩, (.slice uA y2.length uc), .bool false] 58)
        have keep : ∀ tv l, OwnI 0 tv l w4 → OwnI 0 tv l w5 := fun tv l h => OwnI.grownApart (h.below B2) ho2 hg
        have hcells := PrfCells.snoc (p := ⟨xn, y1, ⟨#[]⟩, y2, false⟩) (tv := (.slice uA y2.length uc)) (keep _ _ HX2.out) (HP5.out.mono keep)
        have hx5 : Blk w5 w.heap.size #[.slice none 0 0, .bool false, .string ⟨#[]⟩, .int .i64 0, .string apex] 56 := by
          have h := (HS.out.x.alloc (.cells #[.string y1, (.slice uA y2.length uc)] 50)).alloc (.cells #[.string xn, .string y1, .string ⟨#[]⟩, (.slice uA y2.length uc), .bool false] 58)
          unfold Blk
          rw [hg.block _ h.lt (fun e => by have := (World.ownsRow.lt HO5.out _ e.symm).1; omega)]
          exact h
        have hbl : Below w.heap.size w w5 := (HS.out.below.trans (B2.mono HS.out.below.size)).grown hg (by have := HS.out.below.size; simp; omega) (fun k hk => by have := (World.ownsRow.lt HO5.out _ hk).1; omega)
        have hlist : readN (l.take (j + 1)) apex = readN (l.take j) apex ++ [⟨xn, y1, ⟨#[]⟩, y2, false⟩] := by rw [HSN.out]; simp [HX.out]
        have HR5 : Hid (RdSt w apex (readN (l.take (j + 1)) apex) v1 w5) := Lib.hid ⟨hx5, by rw [hlist]; exact ⟨_, by simpa [PrfD.cl] using ho, hcells⟩, hbl⟩
        clear B1 B2 ho2 keep hcells hx5 hbl hlist ho hg HO5 HP5 HX2 HS HSN
        go_wp2_with fail
        go_roundw
        case rel => exact ⟨j + 1, by omega, by go_num, HR5⟩
        case measure => simp [intOf]; omega
    · obtain rfl : j = l.length := by omega
      have hS := hS0.out
      rw [List.take_length] at hS
      obtain ⟨xs5, ho5, hp5⟩ := hS.own
      have hps := hS.own
      have hpos : 0 < (readN l apex).length := List.length_pos_iff.2 hne
      have hll : (readN l apex).length ≤ 1000000 := Nat.le_trans (readN_len l apex) hlen
      obtain ⟨A5, c5, rfl⟩ : ∃ A5 c5, u5 = .slice A5 (readN l apex).length c5 := by
        rcases ho5.2 with ⟨_, h0⟩ | ⟨g, cap, cur, rfl, _⟩
        · omega
        · exact ⟨_, _, rfl⟩
      have q1 : (((readN l apex).length : Int) == 0) = false := beq_eq_false_iff_ne.2 (by omega)
      have d0 := hS.x.cell 0; have d1 := hS.x.cell 1; have f0 := fun k => hS.x.free k
      have hfin : PsAt w.heap.size (readN l apex) apex ((wr.setCell ⟨w.heap.size, 0, none⟩ (.slice A5 (readN l apex).length c5)).setCell ⟨w.heap.size, 1, none⟩ (.bool false)) := by
        have hx1 := hS.x.set 0 (.slice A5 (readN l apex).length c5)
        have hx2 := hx1.set 1 (.bool false)
        refine ⟨.slice A5 (readN l apex).length c5, by simpa using hx2, ?_⟩
        refine PrfOwn.at (base := w.heap.size + 1) ⟨xs5, ?_, ?_⟩ hll
        · exact ownP_set (ownP_set ho5 0 _) 1 _
        · exact hp5.mono fun tv l ht => OwnI.setApart (OwnI.setApart ht hS.x 0 _) hx1 1 _
      have HF := Lib.hid hfin; have HB := Lib.hid hS.below
      clear hfin hps hp5 ho5 hS hS0 hpos hll hne
      generalize (readN l apex).length = nn at *
      go_wp2_with fail
      go_ret
      exact ⟨(HB.out.setCell (p := ⟨w.heap.size, 0, none⟩) (Nat.le_refl _) _).setCell (p := ⟨w.heap.size, 1, none⟩) (Nat.le_refl _) _, _, rfl, HF.out⟩
end Go.Proofs.YtdflhnbpcnmpfaaGreatDoor

