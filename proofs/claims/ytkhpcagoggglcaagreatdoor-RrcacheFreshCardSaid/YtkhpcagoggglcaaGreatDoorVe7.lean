import Derived.Test.YtkhpcagoggglcaaGreatDoorVe5
import Derived.Test.YtkhpcagoggglcaaGreatDoorVe6
import Derived.Lib.Bytealg
import Derived.Maps.OwnSet
/- data.Lower: the loop over the names in data. -/
namespace Go.Proofs.YtkhpcagoggglcaaGreatDoor
open Go.RowKit

def flat (l : List ByteArray) : List UInt8 := l.flatMap fun x => x.data.toList
theorem flat_len_low (l : List ByteArray) : (flat (l.map nameLower)).length = (flat l).length := by
  induction l with
  | nil => rfl
  | cons x l ih =>
    have hx : (nameLower x).data.toList.length = x.data.toList.length := by
      unfold nameLower
      split
      · have := size_lowS x
        simpa using this
      · rfl
    simp only [flat, List.map_cons, List.flatMap_cons, List.length_append] at ih ⊢
    omega
theorem size_nameLower (x : ByteArray) : (nameLower x).size = x.size := by
  unfold nameLower
  split
  · exact size_lowS x
  · rfl
theorem flat_cons (x : ByteArray) (l : List ByteArray) : flat (x :: l) = x.data.toList ++ flat l := rfl
def NamesP (l : List ByteArray) (w : World) (e : Ending) (w' : World) : Prop := Below w.heap.size w w' ∧ ∃ v, e = .returned v ∧ OwnS w.heap.size v l w'

/-- What the bytes are when the first i names have been made small. -/
def lowAtI (pre post : List UInt8) (l : List ByteArray) (i : Nat) : List UInt8 := pre ++ flat ((l.take i).map nameLower) ++ flat (l.drop i) ++ post
theorem flat_append (a b : List ByteArray) : flat (a ++ b) = flat a ++ flat b := by simp [flat]
theorem lowAtI_len (pre post : List UInt8) (l : List ByteArray) (i : Nat) : (lowAtI pre post l i).length = pre.length + (flat l).length + post.length := by
  have h1 := flat_len_low (l.take i)
  have h2 : (flat l).length = (flat (l.take i)).length + (flat (l.drop i)).length := by rw [← List.length_append, ← flat_append, List.take_append_drop]
  simp only [lowAtI, List.length_append]
  omega
theorem lowAtI_next (pre post : List UInt8) (l : List ByteArray) (i : Nat) (h : i < l.length) : lowAtI pre post l (i + 1) = splice (lowAtI pre post l i) (pre.length + (flat (l.take i)).length) (nameLower l[i]).data.toList := by
  have e1 : l.drop i = l[i] :: l.drop (i + 1) := List.drop_eq_getElem_cons h
  have e2 : l.take (i + 1) = l.take i ++ [l[i]] := List.take_succ_eq_append_getElem h
  have h1 := flat_len_low (l.take i)
  have hs : (nameLower l[i]).data.toList.length = l[i].data.toList.length := by have := size_nameLower l[i]; simpa using this
  have e3 : lowAtI pre post l i = (pre ++ flat ((l.take i).map nameLower)) ++ (l[i].data.toList ++ (flat (l.drop (i + 1)) ++ post)) := by
    rw [lowAtI, e1, flat_cons]
    simp only [List.append_assoc]
  have hl : (pre ++ flat ((l.take i).map nameLower)).length = pre.length + (flat (l.take i)).length := by rw [List.length_append, h1]
  rw [e3, ← hl, splice, List.take_left, List.drop_append, List.drop_of_length_le (by omega), List.nil_append]
  rw [show (pre ++ flat ((l.take i).map nameLower)).length + (nameLower l[i]).data.toList.length - (pre ++ flat ((l.take i).map nameLower)).length = l[i].data.toList.length by omega, List.drop_left]
  rw [lowAtI, e2, List.map_append, flat_append, List.map_cons, List.map_nil, flat_cons]
  simp only [flat, List.flatMap_nil, List.append_nil, List.append_assoc]
theorem rowAt_bytes (w : World) (s : ByteArray) : RowAt w.heap.size s.data.toList (Lib.bytesWorld w 5 s) := by
  refine ⟨by rw [Lib.bytesWorld_size]; omega, fun k hk => ?_⟩
  have hk' : k < s.size := by simpa using hk
  have h1 := (BytesAt.new w s k hk').1
  have h2 := (BytesAt.new w s k hk').2
  refine ⟨?_, h2⟩
  rw [h1]; rfl
theorem OwnS.get {base : Nat} {v : Value} {l : List ByteArray} {w : World} (h : OwnS base v l w) (hl : 0 < l.length) : ∃ g c, v = .slice (some ⟨g, 0, none⟩) l.length c ∧ base ≤ g ∧ g < w.heap.size ∧ ∀ i (hi : i < l.length), w.cell? ⟨g, i, none⟩ = some (.string l[i]) :=
  h.cell (by intro e; rw [e] at hl; exact absurd hl (by simp))

theorem strOfNums_bytes (l : List UInt8) : strOfNums (l.map fun b => (b.toNat : Int)) = bsOf l := by
  show (⟨((l.map fun b => (b.toNat : Int)).map fun n => UInt8.ofNat n.toNat).toArray⟩ : ByteArray) = ⟨l.toArray⟩
  rw [List.map_map]
  have e : ((fun n : Int => UInt8.ofNat n.toNat) ∘ fun b : UInt8 => (b.toNat : Int)) = id := by
    funext b
    simp
  rw [e, List.map_id]
set_option maxRecDepth 100000 in
set_option maxHeartbeats 1000000 in
theorem lower_any (k : Int) (d : ByteArray) (w : World) (l : List ByteArray) (pre post : List UInt8) (a0 : Nat) (hr : dataRight k d = true) (hz : d.size ≤ 2000) (hk : (k == 46) = false) (hd : d.data.toList = lowAtI pre post l 0) (ha : pre.length = a0) (hk2 : (k == 15) = decide (a0 = 2)) (ha2 : a0 = 0 ∨ a0 = 2)
    (hne : ∀ x ∈ l, 0 < x.size) (hll : l.length ≤ 2) (hn : ∀ W, Calls Tryz.prog 40 #[.int .i64 k, .string d] W (NamesP l W)) :
    Calls Tryz.prog 29 #[.int .i64 k, .string d] w fun e w' => e = .returned (.string (bsOf (lowAtI pre post l l.length))) ∧ Below w.heap.size w w' := by
  have hrc := fun w => right_any k d w
  rw [hr] at hrc
  have HR := Lib.hid hrc; have HN := Lib.hid hn; have HD := Lib.hid hd; have HNE := Lib.hid hne; have HA := Lib.hid ha
  clear hrc hn hd hne ha hr
  have hcv := conv_string_bytes
  rcases ha2 with rfl | rfl
  · have hk3 : (k == 15) = false := by rw [hk2]; rfl
    clear hk2
    go_enter Tryz.func29, Tryz.ntmps29
    go_wp2_with (first | (go_at_call 28; refine (HR.out _).mono ?_; rintro e w1 ⟨rfl, hb1⟩) | (go_at_call 40; refine (Hid.out (p := _) ?_)))
    refine Lib.hid ?_
    have hrow := rowAt_bytes w1 d
    have hsz := Lib.bytesWorld_size w1 5 d
    have hbw := below_bytesWorld w1 5 d
    have hge := grownCap_ge w1 d.size 0 5
    have hle := grownCap_le_maxLen w1 d.size 0 5 (by simp only [maxLen]; omega)
    generalize grownCap w1 d.size 0 5 = cap at *
    generalize Lib.bytesWorld w1 5 d = WB at *
    refine (HN.out _).mono ?_
    rintro e w2 ⟨hb2, v, rfl, hv⟩
    obtain ⟨A, c, rfl⟩ := OwnS.len hv
    have hB2 : Below w.heap.size w w2 := hb1.trans ((hbw.trans (hb2.mono hbw.size)).mono hb1.size)
    rw [HD.out] at hrow
    have hrow2 : RowAt w1.heap.size (lowAtI pre post l 0) w2 := by
      refine ⟨Nat.lt_of_lt_of_le hrow.1 hb2.size, fun q hq => ?_⟩
      rw [hb2.cell (p := ⟨w1.heap.size, q, none⟩) hrow.1, hb2.frozen (p := ⟨w1.heap.size, q, none⟩) hrow.1]
      exact hrow.2 q hq
    have HZ := Lib.hid (And.intro hge (And.intro hle (show w1.heap.size < WB.heap.size by omega)))
    have HS := Lib.hid (show RowAt w1.heap.size (lowAtI pre post l 0) w2 ∧ OwnS WB.heap.size (.slice A l.length c) l w2 ∧ Below w.heap.size w w2 from ⟨hrow2, hv, hB2⟩)
    have HB1 := Lib.hid hb1
    clear hrow hrow2 hsz hbw hge hle hb2 hv hB2 hb1 HN HR
    simp only []
    go_wp2_with fail
    go_loopw [7, 8, 41] (fun b at_ i wr => ∃ q : Nat, q ≤ l.length ∧ i = .int .i64 q ∧ b = .slice (some ⟨w1.heap.size, 0, none⟩) d.size cap ∧ (∃ p : Nat, at_ = .int .i64 (p : Int) ∧ Hid (p = 0 + (flat (l.take q)).length)) ∧ Hid (RowAt w1.heap.size (lowAtI pre post l q) wr ∧ OwnS WB.heap.size (.slice A l.length c) l wr ∧ Below w.heap.size w wr)) (fun _ _ i _ => l.length - (intOf i).toNat)
    case atStart => exact ⟨0, Nat.zero_le _, rfl, rfl, ⟨0, rfl, Lib.hid (by simp [flat])⟩, HS⟩
    case round =>
      obtain ⟨q, hq, rfl, rfl, ⟨p, rfl, HP⟩, HW⟩ := hrel
      by_cases hlt : q < l.length
      · obtain ⟨gn, cn, he, hgn, hgl, hcs⟩ := OwnS.get HW.out.2.1 (by omega)
        obtain ⟨rfl, rfl⟩ : A = some ⟨gn, 0, none⟩ ∧ c = cn := by injection he with h1 _ h2; exact ⟨h1, h2⟩
        have hc : wr.cell? ⟨gn, q, none⟩ = some (.string l[q]) := hcs q hlt
        have hlen := lowAtI_len pre post l q
        have hlen0 := lowAtI_len pre post l 0
        have hnx := lowAtI_next pre post l q hlt
        have hsum : (flat (l.take q)).length + l[q].size ≤ (flat l).length := by
          have e1 : l = l.take q ++ l[q] :: l.drop (q + 1) := by rw [← List.drop_eq_getElem_cons hlt, List.take_append_drop]
          have e2 := congrArg (fun z => (flat z).length) e1
          simp only [flat_append, flat_cons, List.length_append] at e2
          have e3 : l[q].data.toList.length = l[q].size := by simp
          omega
        have hsn : (flat (l.take (q + 1))).length = (flat (l.take q)).length + l[q].size := by
          rw [List.take_succ_eq_append_getElem hlt, flat_append, flat_cons]
          simp [flat]
        have hdl : (lowAtI pre post l 0).length = d.size := by rw [← HD.out]; simp
        have hpos := HNE.out l[q] (List.getElem_mem hlt)
        have hA := HA.out
        have hp := HP.out
        have hsl := size_nameLower l[q]
        have hlow := fun W => name_lower l[q] W
        have hbd : (p : Int) + (l[q].size : Int) ≤ 2000 := by omega
        have h1 : p + l[q].size ≤ d.size := by omega
        have h2 : (lowAtI pre post l q).length = d.size := by omega
        have h3 : lowAtI pre post l (q + 1) = splice (lowAtI pre post l q) p (nameLower l[q]).data.toList := by rw [hnx, show pre.length + (flat (l.take q)).length = p by omega]
        have h4 : p + l[q].size = 0 + (flat (l.take (q + 1))).length := by omega
        generalize nameLower l[q] = y at hlow hsl h3
        generalize l[q] = x at *
        have HF := Lib.hid (And.intro h1 (And.intro h2 (And.intro h3 (And.intro h4 (And.intro hpos hsl)))))
        have HLW := Lib.hid hlow
        clear hlen hlen0 hnx hsum hsn hdl hpos hA hsl hcs hgn hp h1 h2 h3 h4 hlow
        go_wp2_with (go_at_call 17; refine (Hid.out (p := _) ?_))
        refine Lib.hid ?_
        refine (HLW.out _).mono ?_
        rintro e w3 ⟨rfl, hb3⟩
        have hry := rowAt_bytes w3 y
        have hbw := below_bytesWorld w3 5 y
        have hW3 : RowAt w1.heap.size (lowAtI pre post l q) (Lib.bytesWorld w3 5 y) ∧ OwnS WB.heap.size (.slice (some ⟨gn, 0, none⟩) l.length c) l (Lib.bytesWorld w3 5 y) ∧ Below w.heap.size w (Lib.bytesWorld w3 5 y) ∧ w1.heap.size < w3.heap.size := by
          obtain ⟨a1, a2, a3⟩ := HW.out
          have hb : Below wr.heap.size wr (Lib.bytesWorld w3 5 y) := hb3.trans (hbw.mono hb3.size)
          refine ⟨⟨Nat.lt_of_lt_of_le a1.1 hb.size, fun z hz => ?_⟩, OwnS.below a2 hb, a3.trans (hb.mono a3.size), Nat.lt_of_lt_of_le a1.1 hb3.size⟩
          rw [hb.cell (p := ⟨w1.heap.size, z, none⟩) a1.1, hb.frozen (p := ⟨w1.heap.size, z, none⟩) a1.1]
          exact a1.2 z hz
        have HY := Lib.hid hry; have HW3 := Lib.hid hW3
        clear hry hbw hW3 hb3 hc HLW HW
        simp only []
        go_wp2_with (go_at_call 41; refine (Hid.out (p := _) ?_))
        refine Lib.hid ?_
        generalize Lib.bytesWorld w3 5 y = W3 at *
        refine (replace_any w1.heap.size w3.heap.size cap _ p d.size y.size _ (lowAtI pre post l q) y.data.toList W3 HW3.out.1 HY.out (by have := HW3.out.2.2.2; omega) HF.out.2.1 (by simp) (by rw [HF.out.2.2.2.2.2]) (by have := HF.out.1; have := HF.out.2.2.2.2.2; omega) (by have := HF.out.2.2.2.2.1; have := HF.out.2.2.2.2.2; omega) HZ.out.1 HZ.out.2.1).mono ?_
        rintro e w4 ⟨rfl, hr4, ho4⟩
        rw [← HF.out.2.2.1] at hr4
        have HW4 := Lib.hid (show RowAt w1.heap.size (lowAtI pre post l (q + 1)) w4 ∧ OwnS WB.heap.size (.slice (some ⟨gn, 0, none⟩) l.length c) l w4 ∧ Below w.heap.size w w4 from
          ⟨hr4, OwnS.only HW3.out.2.1 ho4 HZ.out.2.2, HW3.out.2.2.1.trans (ho4.belowOf HB1.out.size HW3.out.2.2.1.size)⟩)
        have HP4 := Lib.hid HF.out.2.2.2.1
        clear hr4 ho4 HW3 HY HF HP
        simp only []
        go_wp2_with fail
        go_roundw
        case rel => exact ⟨q + 1, by omega, by go_num, rfl, ⟨p + x.size, by go_num, HP4⟩, HW4⟩
        case measure => simp [intOf]; omega
      · obtain rfl : q = l.length := by omega
        have hlen : (lowAtI pre post l l.length).length = d.size := by
          have h1 := lowAtI_len pre post l l.length
          have h2 := lowAtI_len pre post l 0
          have h3 : (lowAtI pre post l 0).length = d.size := by rw [← HD.out]; simp
          omega
        have hcs := run_convert_bytes_arg (P := Tryz.prog) wr 82 5 Tryz.underlying82 Tryz.underlying5 w1.heap.size 0 (lowAtI pre post l l.length).length cap ((lowAtI pre post l l.length).map fun b => (b.toNat : Int)) (by simp) (by
          intro i hi
          rw [Nat.zero_add, (HW.out.1.2 i hi).1]
          simp [bv, List.getD, List.getElem?_eq_getElem hi]) 9 Tryz.underlying9
        rw [strOfNums_bytes, hlen] at hcs
        have HB := Lib.hid HW.out.2.2
        clear HW hlen HP
        go_wp2_with fail
        go_ret
        exact ⟨rfl, HB.out⟩
  · have hk3 : (k == 15) = true := by rw [hk2]; rfl
    clear hk2
    go_enter Tryz.func29, Tryz.ntmps29
    go_wp2_with (first | (go_at_call 28; refine (HR.out _).mono ?_; rintro e w1 ⟨rfl, hb1⟩) | (go_at_call 40; refine (Hid.out (p := _) ?_)))
    refine Lib.hid ?_
    have hrow := rowAt_bytes w1 d
    have hsz := Lib.bytesWorld_size w1 5 d
    have hbw := below_bytesWorld w1 5 d
    have hge := grownCap_ge w1 d.size 0 5
    have hle := grownCap_le_maxLen w1 d.size 0 5 (by simp only [maxLen]; omega)
    generalize grownCap w1 d.size 0 5 = cap at *
    generalize Lib.bytesWorld w1 5 d = WB at *
    refine (HN.out _).mono ?_
    rintro e w2 ⟨hb2, v, rfl, hv⟩
    obtain ⟨A, c, rfl⟩ := OwnS.len hv
    have hB2 : Below w.heap.size w w2 := hb1.trans ((hbw.trans (hb2.mono hbw.size)).mono hb1.size)
    rw [HD.out] at hrow
    have hrow2 : RowAt w1.heap.size (lowAtI pre post l 0) w2 := by
      refine ⟨Nat.lt_of_lt_of_le hrow.1 hb2.size, fun q hq => ?_⟩
      rw [hb2.cell (p := ⟨w1.heap.size, q, none⟩) hrow.1, hb2.frozen (p := ⟨w1.heap.size, q, none⟩) hrow.1]
      exact hrow.2 q hq
    have HZ := Lib.hid (And.intro hge (And.intro hle (show w1.heap.size < WB.heap.size by omega)))
    have HS := Lib.hid (show RowAt w1.heap.size (lowAtI pre post l 0) w2 ∧ OwnS WB.heap.size (.slice A l.length c) l w2 ∧ Below w.heap.size w w2 from ⟨hrow2, hv, hB2⟩)
    have HB1 := Lib.hid hb1
    clear hrow hrow2 hsz hbw hge hle hb2 hv hB2 hb1 HN HR
    simp only []
    go_wp2_with fail
    go_loopw [7, 8, 41] (fun b at_ i wr => ∃ q : Nat, q ≤ l.length ∧ i = .int .i64 q ∧ b = .slice (some ⟨w1.heap.size, 0, none⟩) d.size cap ∧ (∃ p : Nat, at_ = .int .i64 (p : Int) ∧ Hid (p = 2 + (flat (l.take q)).length)) ∧ Hid (RowAt w1.heap.size (lowAtI pre post l q) wr ∧ OwnS WB.heap.size (.slice A l.length c) l wr ∧ Below w.heap.size w wr)) (fun _ _ i _ => l.length - (intOf i).toNat)
    case atStart => exact ⟨0, Nat.zero_le _, rfl, rfl, ⟨2, rfl, Lib.hid (by simp [flat])⟩, HS⟩
    case round =>
      obtain ⟨q, hq, rfl, rfl, ⟨p, rfl, HP⟩, HW⟩ := hrel
      by_cases hlt : q < l.length
      · obtain ⟨gn, cn, he, hgn, hgl, hcs⟩ := OwnS.get HW.out.2.1 (by omega)
        obtain ⟨rfl, rfl⟩ : A = some ⟨gn, 0, none⟩ ∧ c = cn := by injection he with h1 _ h2; exact ⟨h1, h2⟩
        have hc : wr.cell? ⟨gn, q, none⟩ = some (.string l[q]) := hcs q hlt
        have hlen := lowAtI_len pre post l q
        have hlen0 := lowAtI_len pre post l 0
        have hnx := lowAtI_next pre post l q hlt
        have hsum : (flat (l.take q)).length + l[q].size ≤ (flat l).length := by
          have e1 : l = l.take q ++ l[q] :: l.drop (q + 1) := by rw [← List.drop_eq_getElem_cons hlt, List.take_append_drop]
          have e2 := congrArg (fun z => (flat z).length) e1
          simp only [flat_append, flat_cons, List.length_append] at e2
          have e3 : l[q].data.toList.length = l[q].size := by simp
          omega
        have hsn : (flat (l.take (q + 1))).length = (flat (l.take q)).length + l[q].size := by
          rw [List.take_succ_eq_append_getElem hlt, flat_append, flat_cons]
          simp [flat]
        have hdl : (lowAtI pre post l 0).length = d.size := by rw [← HD.out]; simp
        have hpos := HNE.out l[q] (List.getElem_mem hlt)
        have hA := HA.out
        have hp := HP.out
        have hsl := size_nameLower l[q]
        have hlow := fun W => name_lower l[q] W
        have hbd : (p : Int) + (l[q].size : Int) ≤ 2000 := by omega
        have h1 : p + l[q].size ≤ d.size := by omega
        have h2 : (lowAtI pre post l q).length = d.size := by omega
        have h3 : lowAtI pre post l (q + 1) = splice (lowAtI pre post l q) p (nameLower l[q]).data.toList := by rw [hnx, show pre.length + (flat (l.take q)).length = p by omega]
        have h4 : p + l[q].size = 2 + (flat (l.take (q + 1))).length := by omega
        generalize nameLower l[q] = y at hlow hsl h3
        generalize l[q] = x at *
        have HF := Lib.hid (And.intro h1 (And.intro h2 (And.intro h3 (And.intro h4 (And.intro hpos hsl)))))
        have HLW := Lib.hid hlow
        clear hlen hlen0 hnx hsum hsn hdl hpos hA hsl hcs hgn hp h1 h2 h3 h4 hlow
        go_wp2_with (go_at_call 17; refine (Hid.out (p := _) ?_))
        refine Lib.hid ?_
        refine (HLW.out _).mono ?_
        rintro e w3 ⟨rfl, hb3⟩
        have hry := rowAt_bytes w3 y
        have hbw := below_bytesWorld w3 5 y
        have hW3 : RowAt w1.heap.size (lowAtI pre post l q) (Lib.bytesWorld w3 5 y) ∧ OwnS WB.heap.size (.slice (some ⟨gn, 0, none⟩) l.length c) l (Lib.bytesWorld w3 5 y) ∧ Below w.heap.size w (Lib.bytesWorld w3 5 y) ∧ w1.heap.size < w3.heap.size := by
          obtain ⟨a1, a2, a3⟩ := HW.out
          have hb : Below wr.heap.size wr (Lib.bytesWorld w3 5 y) := hb3.trans (hbw.mono hb3.size)
          refine ⟨⟨Nat.lt_of_lt_of_le a1.1 hb.size, fun z hz => ?_⟩, OwnS.below a2 hb, a3.trans (hb.mono a3.size), Nat.lt_of_lt_of_le a1.1 hb3.size⟩
          rw [hb.cell (p := ⟨w1.heap.size, z, none⟩) a1.1, hb.frozen (p := ⟨w1.heap.size, z, none⟩) a1.1]
          exact a1.2 z hz
        have HY := Lib.hid hry; have HW3 := Lib.hid hW3
        clear hry hbw hW3 hb3 hc HLW HW
        simp only []
        go_wp2_with (go_at_call 41; refine (Hid.out (p := _) ?_))
        refine Lib.hid ?_
        generalize Lib.bytesWorld w3 5 y = W3 at *
        refine (replace_any w1.heap.size w3.heap.size cap _ p d.size y.size _ (lowAtI pre post l q) y.data.toList W3 HW3.out.1 HY.out (by have := HW3.out.2.2.2; omega) HF.out.2.1 (by simp) (by rw [HF.out.2.2.2.2.2]) (by have := HF.out.1; have := HF.out.2.2.2.2.2; omega) (by have := HF.out.2.2.2.2.1; have := HF.out.2.2.2.2.2; omega) HZ.out.1 HZ.out.2.1).mono ?_
        rintro e w4 ⟨rfl, hr4, ho4⟩
        rw [← HF.out.2.2.1] at hr4
        have HW4 := Lib.hid (show RowAt w1.heap.size (lowAtI pre post l (q + 1)) w4 ∧ OwnS WB.heap.size (.slice (some ⟨gn, 0, none⟩) l.length c) l w4 ∧ Below w.heap.size w w4 from
          ⟨hr4, OwnS.only HW3.out.2.1 ho4 HZ.out.2.2, HW3.out.2.2.1.trans (ho4.belowOf HB1.out.size HW3.out.2.2.1.size)⟩)
        have HP4 := Lib.hid HF.out.2.2.2.1
        clear hr4 ho4 HW3 HY HF HP
        simp only []
        go_wp2_with fail
        go_roundw
        case rel => exact ⟨q + 1, by omega, by go_num, rfl, ⟨p + x.size, by go_num, HP4⟩, HW4⟩
        case measure => simp [intOf]; omega
      · obtain rfl : q = l.length := by omega
        have hlen : (lowAtI pre post l l.length).length = d.size := by
          have h1 := lowAtI_len pre post l l.length
          have h2 := lowAtI_len pre post l 0
          have h3 : (lowAtI pre post l 0).length = d.size := by rw [← HD.out]; simp
          omega
        have hcs := run_convert_bytes_arg (P := Tryz.prog) wr 82 5 Tryz.underlying82 Tryz.underlying5 w1.heap.size 0 (lowAtI pre post l l.length).length cap ((lowAtI pre post l l.length).map fun b => (b.toNat : Int)) (by simp) (by
          intro i hi
          rw [Nat.zero_add, (HW.out.1.2 i hi).1]
          simp [bv, List.getD, List.getElem?_eq_getElem hi]) 9 Tryz.underlying9
        rw [strOfNums_bytes, hlen] at hcs
        have HB := Lib.hid HW.out.2.2
        clear HW hlen HP
        go_wp2_with fail
        go_ret
        exact ⟨rfl, HB.out⟩
end Go.Proofs.YtkhpcagoggglcaaGreatDoor

/- data.Names, at every kind of data that are right. Lines printed by wip/tools/names.py. -/
namespace Go.Proofs.YtkhpcagoggglcaaGreatDoor
open Go.RowKit

theorem neq_nil (w : World) : (binOp .neq 91 .nilFunc .nilFunc).run Tryz.prog w = .ok (.bool false) w := by kernel_rfl
theorem neq_fn3 (w : World) : (binOp .neq 91 (.func (.func 55) #[] #[]) .nilFunc).run Tryz.prog w = .ok (.bool true) w := by kernel_rfl
theorem neq_fn6 (w : World) : (binOp .neq 91 (.func (.func 66) #[] #[]) .nilFunc).run Tryz.prog w = .ok (.bool true) w := by kernel_rfl
theorem neq_fn8 (w : World) : (binOp .neq 91 (.func (.func 72) #[] #[]) .nilFunc).run Tryz.prog w = .ok (.bool true) w := by kernel_rfl
theorem OwnS.one (W : World) (x : ByteArray) : OwnS W.heap.size (.slice (some ⟨W.heap.size, 0, none⟩) 1 1) [x] (W.alloc (.cells #[.string x] 9)) :=
  ⟨by simp, .inr ⟨W.heap.size, 1, #[.string x], rfl, Nat.le_refl _, Blk.new W _ _, by simp, by simp [maxLen], by simp, by simp⟩⟩
theorem OwnS.two (W : World) (x y : ByteArray) : OwnS W.heap.size (.slice (some ⟨W.heap.size, 0, none⟩) 2 2) [x, y] (W.alloc (.cells #[.string x, .string y] 9)) :=
  ⟨by simp, .inr ⟨W.heap.size, 2, #[.string x, .string y], rfl, Nat.le_refl _, Blk.new W _ _, by simp, by simp [maxLen], by simp, by simp⟩⟩
theorem fn_names1 (d : ByteArray) (w : World) : Calls Tryz.prog 55 #[.string d] w (NamesP [d] w) := by
  go_enter Tryz.func55, Tryz.ntmps55
  go_wp2
  go_ret
  exact ⟨(Below.refl _ w).alloc (Nat.le_refl _) _, _, rfl, OwnS.one w d⟩
theorem fn_names8 (d : ByteArray) (w : World) (h : 2 ≤ d.size) : Calls Tryz.prog 72 #[.string d] w (NamesP [d.extract 2 d.size] w) := by
  have q1 : (2 : Int) ≤ (d.size : Int) := by omega
  go_enter Tryz.func72, Tryz.ntmps72
  go_wp2
  go_ret
  exact ⟨(Below.refl _ w).alloc (Nat.le_refl _) _, _, rfl, OwnS.one w _⟩
set_option maxRecDepth 100000 in
theorem fn_names6 (d : ByteArray) (x : SoaR) (w : World) (h : takeR soaT d = some x) : Calls Tryz.prog 66 #[.string d] w (NamesP [x.primary, x.mail] w) := by
  have HD := Lib.hid h
  clear h
  go_enter Tryz.func66, Tryz.ntmps66
  go_wp2_with fail
  refine (data_soa d _).mono ?_
  rintro e w1 ⟨hb, h⟩
  rw [HD.out] at h
  obtain ⟨v, hv, rfl⟩ := h
  obtain rfl : v = x.v := hv
  simp only [SoaR.v]
  have HB := Lib.hid hb
  clear hb
  go_wp2
  go_ret
  have h2 := OwnS.two (w1.alloc (.cells #[.string x.primary, .string x.mail, .int .i64 x.serial, .int .i64 x.refresh, .int .i64 x.retry, .int .i64 x.expire, .int .i64 x.minimum] 113)) x.primary x.mail
  have e1 : (w1.alloc (.cells #[.string x.primary, .string x.mail, .int .i64 x.serial, .int .i64 x.refresh, .int .i64 x.retry, .int .i64 x.expire, .int .i64 x.minimum] 113)).heap.size = w1.heap.size + 1 := by simp
  rw [e1] at h2
  exact ⟨(HB.out.alloc HB.out.size _).alloc (by simp; have := HB.out.size; omega) _, _, rfl, OwnS.lift h2 (by have := HB.out.size; omega)⟩

set_option maxRecDepth 100000 in
theorem names_four (d : ByteArray) (w : World) : Calls Tryz.prog 40 #[.int .i64 1, .string d] w (NamesP [] w) := by
  have hneq := neq_nil
  go_enter Tryz.func40, Tryz.ntmps40
  go_wp2_with (go_at_call 38; refine (form_four _).mono ?_; rintro e w1 ⟨rfl, hb⟩)
  go_ret
  exact ⟨hb.alloc hb.size _, _, rfl, OwnS.nil _ _⟩

set_option maxRecDepth 100000 in
theorem names_sixteen (d : ByteArray) (w : World) : Calls Tryz.prog 40 #[.int .i64 28, .string d] w (NamesP [] w) := by
  have hneq := neq_nil
  go_enter Tryz.func40, Tryz.ntmps40
  go_wp2_with (go_at_call 38; refine (form_sixteen _).mono ?_; rintro e w1 ⟨rfl, hb⟩)
  go_ret
  exact ⟨hb.alloc hb.size _, _, rfl, OwnS.nil _ _⟩

set_option maxRecDepth 100000 in
theorem names_texts (d : ByteArray) (w : World) : Calls Tryz.prog 40 #[.int .i64 16, .string d] w (NamesP [] w) := by
  have hneq := neq_nil
  go_enter Tryz.func40, Tryz.ntmps40
  go_wp2_with (go_at_call 38; refine (form_texts _).mono ?_; rintro e w1 ⟨c, rfl, _, hb⟩)
  go_ret
  exact ⟨hb.alloc hb.size _, _, rfl, OwnS.nil _ _⟩

set_option maxRecDepth 100000 in
theorem names_ds (d : ByteArray) (w : World) : Calls Tryz.prog 40 #[.int .i64 43, .string d] w (NamesP [] w) := by
  have hneq := neq_nil
  go_enter Tryz.func40, Tryz.ntmps40
  go_wp2_with (go_at_call 38; refine (form_ds _).mono ?_; rintro e w1 ⟨c, rfl, _, hb⟩)
  go_ret
  exact ⟨hb.alloc hb.size _, _, rfl, OwnS.nil _ _⟩

set_option maxRecDepth 100000 in
theorem names_sig (d : ByteArray) (w : World) : Calls Tryz.prog 40 #[.int .i64 46, .string d] w (NamesP [] w) := by
  have hneq := neq_nil
  go_enter Tryz.func40, Tryz.ntmps40
  go_wp2_with (go_at_call 38; refine (form_sig _).mono ?_; rintro e w1 ⟨c, rfl, _, hb⟩)
  go_ret
  exact ⟨hb.alloc hb.size _, _, rfl, OwnS.nil _ _⟩

set_option maxRecDepth 100000 in
theorem names_nsec (d : ByteArray) (w : World) : Calls Tryz.prog 40 #[.int .i64 47, .string d] w (NamesP [] w) := by
  have hneq := neq_nil
  go_enter Tryz.func40, Tryz.ntmps40
  go_wp2_with (go_at_call 38; refine (form_nsec _).mono ?_; rintro e w1 ⟨c, rfl, _, hb⟩)
  go_ret
  exact ⟨hb.alloc hb.size _, _, rfl, OwnS.nil _ _⟩

set_option maxRecDepth 100000 in
theorem names_key (d : ByteArray) (w : World) : Calls Tryz.prog 40 #[.int .i64 48, .string d] w (NamesP [] w) := by
  have hneq := neq_nil
  go_enter Tryz.func40, Tryz.ntmps40
  go_wp2_with (go_at_call 38; refine (form_key _).mono ?_; rintro e w1 ⟨c, rfl, _, hb⟩)
  go_ret
  exact ⟨hb.alloc hb.size _, _, rfl, OwnS.nil _ _⟩

set_option maxRecDepth 100000 in
theorem names_nsec3 (d : ByteArray) (w : World) : Calls Tryz.prog 40 #[.int .i64 50, .string d] w (NamesP [] w) := by
  have hneq := neq_nil
  go_enter Tryz.func40, Tryz.ntmps40
  go_wp2_with (go_at_call 38; refine (form_nsec3 _).mono ?_; rintro e w1 ⟨c, rfl, _, hb⟩)
  go_ret
  exact ⟨hb.alloc hb.size _, _, rfl, OwnS.nil _ _⟩

set_option maxRecDepth 100000 in
theorem names_other (k : Int) (d : ByteArray) (w : World) (hk : otherKind k) : Calls Tryz.prog 40 #[.int .i64 k, .string d] w (NamesP [] w) := by
  have HK := Lib.hid hk; clear hk
  have hneq := neq_nil
  go_enter Tryz.func40, Tryz.ntmps40
  go_wp2_with (go_at_call 38; refine (form_other _ _ HK.out).mono ?_; rintro e w1 ⟨rfl, hb⟩)
  go_ret
  exact ⟨hb.alloc hb.size _, _, rfl, OwnS.nil _ _⟩

set_option maxRecDepth 100000 in
theorem names_ns (d : ByteArray) (w : World) (hr : dataRight 2 d = true) : Calls Tryz.prog 40 #[.int .i64 2, .string d] w (NamesP [d] w) := by
  have hrc := fun w => right_any 2 d w
  rw [hr] at hrc
  have HR := Lib.hid hrc
  clear hrc hr
  have hneq := neq_fn3
  go_enter Tryz.func40, Tryz.ntmps40
  go_wp2_with (first | (go_at_call 38; refine (form_ns _).mono ?_; rintro e w1 ⟨rfl, hb⟩) | (go_at_call 28; refine (HR.out _).mono ?_; rintro e w2 ⟨rfl, hb2⟩; have hk := (Blk.new w1 #[.func (.func 24) #[] #[], .func (.func 50) #[] #[], .func (.func 52) #[] #[], .func (.func 55) #[] #[]] 94).below hb2 (by simp); have cc := hk.cell 3; have HK := Lib.hid hk; clear hk) | (go_at_call 55; refine (fn_names1 _ _).mono ?_; rintro e w3 ⟨hb3, v, rfl, hv⟩; obtain ⟨A, c3, rfl⟩ := OwnS.len hv))
  go_ret
  have b1 := hb.alloc hb.size (.cells #[.func (.func 24) #[] #[], .func (.func 50) #[] #[], .func (.func 52) #[] #[], .func (.func 55) #[] #[]] 94)
  have b2 := b1.trans (hb2.mono b1.size)
  exact ⟨b2.trans (hb3.mono b2.size), _, rfl, OwnS.lift hv b2.size⟩

set_option maxRecDepth 100000 in
theorem names_cname (d : ByteArray) (w : World) (hr : dataRight 5 d = true) : Calls Tryz.prog 40 #[.int .i64 5, .string d] w (NamesP [d] w) := by
  have hrc := fun w => right_any 5 d w
  rw [hr] at hrc
  have HR := Lib.hid hrc
  clear hrc hr
  have hneq := neq_fn3
  go_enter Tryz.func40, Tryz.ntmps40
  go_wp2_with (first | (go_at_call 38; refine (form_cname _).mono ?_; rintro e w1 ⟨rfl, hb⟩) | (go_at_call 28; refine (HR.out _).mono ?_; rintro e w2 ⟨rfl, hb2⟩; have hk := (Blk.new w1 #[.func (.func 24) #[] #[], .func (.func 50) #[] #[], .func (.func 52) #[] #[], .func (.func 55) #[] #[]] 94).below hb2 (by simp); have cc := hk.cell 3; have HK := Lib.hid hk; clear hk) | (go_at_call 55; refine (fn_names1 _ _).mono ?_; rintro e w3 ⟨hb3, v, rfl, hv⟩; obtain ⟨A, c3, rfl⟩ := OwnS.len hv))
  go_ret
  have b1 := hb.alloc hb.size (.cells #[.func (.func 24) #[] #[], .func (.func 50) #[] #[], .func (.func 52) #[] #[], .func (.func 55) #[] #[]] 94)
  have b2 := b1.trans (hb2.mono b1.size)
  exact ⟨b2.trans (hb3.mono b2.size), _, rfl, OwnS.lift hv b2.size⟩

set_option maxRecDepth 100000 in
theorem names_dname (d : ByteArray) (w : World) (hr : dataRight 39 d = true) : Calls Tryz.prog 40 #[.int .i64 39, .string d] w (NamesP [d] w) := by
  have hrc := fun w => right_any 39 d w
  rw [hr] at hrc
  have HR := Lib.hid hrc
  clear hrc hr
  have hneq := neq_fn3
  go_enter Tryz.func40, Tryz.ntmps40
  go_wp2_with (first | (go_at_call 38; refine (form_dname _).mono ?_; rintro e w1 ⟨rfl, hb⟩) | (go_at_call 28; refine (HR.out _).mono ?_; rintro e w2 ⟨rfl, hb2⟩; have hk := (Blk.new w1 #[.func (.func 24) #[] #[], .func (.func 50) #[] #[], .func (.func 52) #[] #[], .func (.func 55) #[] #[]] 94).below hb2 (by simp); have cc := hk.cell 3; have HK := Lib.hid hk; clear hk) | (go_at_call 55; refine (fn_names1 _ _).mono ?_; rintro e w3 ⟨hb3, v, rfl, hv⟩; obtain ⟨A, c3, rfl⟩ := OwnS.len hv))
  go_ret
  have b1 := hb.alloc hb.size (.cells #[.func (.func 24) #[] #[], .func (.func 50) #[] #[], .func (.func 52) #[] #[], .func (.func 55) #[] #[]] 94)
  have b2 := b1.trans (hb2.mono b1.size)
  exact ⟨b2.trans (hb3.mono b2.size), _, rfl, OwnS.lift hv b2.size⟩

set_option maxRecDepth 100000 in
theorem names_soa (d : ByteArray) (w : World) (x : SoaR) (hr : dataRight 6 d = true) (ht : takeR soaT d = some x) : Calls Tryz.prog 40 #[.int .i64 6, .string d] w (NamesP [x.primary, x.mail] w) := by
  have hrc := fun w => right_any 6 d w
  rw [hr] at hrc
  have HR := Lib.hid hrc
  clear hrc hr
  have HT := Lib.hid ht; clear ht
  have hneq := neq_fn6
  go_enter Tryz.func40, Tryz.ntmps40
  go_wp2_with (first | (go_at_call 38; refine (form_soa _).mono ?_; rintro e w1 ⟨c, rfl, _, hb⟩) | (go_at_call 28; refine (HR.out _).mono ?_; rintro e w2 ⟨rfl, hb2⟩; have hk := (Blk.new w1 #[.func (.func 131) #[] #[.pointer (some ⟨c, 0, none⟩)], .func (.func 64) #[] #[], .func (.func 65) #[] #[], .func (.func 66) #[] #[]] 94).below hb2 (by simp); have cc := hk.cell 3; have HK := Lib.hid hk; clear hk) | (go_at_call 66; refine (fn_names6 _ _ _ HT.out).mono ?_; rintro e w3 ⟨hb3, v, rfl, hv⟩; obtain ⟨A, c3, rfl⟩ := OwnS.len hv))
  go_ret
  have b1 := hb.alloc hb.size (.cells #[.func (.func 131) #[] #[.pointer (some ⟨c, 0, none⟩)], .func (.func 64) #[] #[], .func (.func 65) #[] #[], .func (.func 66) #[] #[]] 94)
  have b2 := b1.trans (hb2.mono b1.size)
  exact ⟨b2.trans (hb3.mono b2.size), _, rfl, OwnS.lift hv b2.size⟩

set_option maxRecDepth 100000 in
theorem names_mail (d : ByteArray) (w : World) (hr : dataRight 15 d = true) (ht : 2 ≤ d.size) : Calls Tryz.prog 40 #[.int .i64 15, .string d] w (NamesP [d.extract 2 d.size] w) := by
  have hrc := fun w => right_any 15 d w
  rw [hr] at hrc
  have HR := Lib.hid hrc
  clear hrc hr
  have HT := Lib.hid ht; clear ht
  have hneq := neq_fn8
  go_enter Tryz.func40, Tryz.ntmps40
  go_wp2_with (first | (go_at_call 38; refine (form_mail _).mono ?_; rintro e w1 ⟨c, rfl, _, hb⟩) | (go_at_call 28; refine (HR.out _).mono ?_; rintro e w2 ⟨rfl, hb2⟩; have hk := (Blk.new w1 #[.func (.func 136) #[] #[.pointer (some ⟨c, 0, none⟩)], .func (.func 69) #[] #[], .func (.func 71) #[] #[], .func (.func 72) #[] #[]] 94).below hb2 (by simp); have cc := hk.cell 3; have HK := Lib.hid hk; clear hk) | (go_at_call 72; refine (fn_names8 _ _ HT.out).mono ?_; rintro e w3 ⟨hb3, v, rfl, hv⟩; obtain ⟨A, c3, rfl⟩ := OwnS.len hv))
  go_ret
  have b1 := hb.alloc hb.size (.cells #[.func (.func 136) #[] #[.pointer (some ⟨c, 0, none⟩)], .func (.func 69) #[] #[], .func (.func 71) #[] #[], .func (.func 72) #[] #[]] 94)
  have b2 := b1.trans (hb2.mono b1.size)
  exact ⟨b2.trans (hb3.mono b2.size), _, rfl, OwnS.lift hv b2.size⟩

end Go.Proofs.YtkhpcagoggglcaaGreatDoor

/- The order of names, as a plain law: texts in the order of their bytes; lists of texts, the first ones first. -/
namespace Go.Proofs.YtkhpcagoggglcaaGreatDoor
open Go

theorem cmpB_self : ∀ a : List UInt8, Lib.compareBytes a a = 0
  | [] => rfl
  | x :: a => by simp [Lib.compareBytes, cmpB_self a]
theorem cmpB_range : ∀ a b : List UInt8, Lib.compareBytes a b = -1 ∨ Lib.compareBytes a b = 0 ∨ Lib.compareBytes a b = 1
  | [], [] => by simp [Lib.compareBytes]
  | [], _ :: _ => by simp [Lib.compareBytes]
  | _ :: _, [] => by simp [Lib.compareBytes]
  | x :: a, y :: b => by
    have := cmpB_range a b
    simp only [Lib.compareBytes]
    split
    · simp
    · split
      · simp
      · exact this
theorem cmpB_eq : ∀ a b : List UInt8, Lib.compareBytes a b = 0 → a = b
  | [], [], _ => rfl
  | [], _ :: _, h => by simp [Lib.compareBytes] at h
  | _ :: _, [], h => by simp [Lib.compareBytes] at h
  | x :: a, y :: b, h => by
    simp only [Lib.compareBytes] at h
    split at h
    · simp at h
    · split at h
      · simp at h
      · rename_i h1 h2
        have : x = y := UInt8.toNat_inj.1 (by rw [UInt8.lt_iff_toNat_lt] at h1 h2; omega)
        rw [this, cmpB_eq a b h]
theorem cmpB_anti : ∀ a b : List UInt8, Lib.compareBytes b a = - Lib.compareBytes a b
  | [], [] => rfl
  | [], _ :: _ => rfl
  | _ :: _, [] => rfl
  | x :: a, y :: b => by
    have := cmpB_anti a b
    simp only [Lib.compareBytes, UInt8.lt_iff_toNat_lt]
    by_cases h1 : y.toNat < x.toNat
    · rw [if_pos h1, if_neg (by omega), if_pos h1]
    · rw [if_neg h1]
      by_cases h2 : x.toNat < y.toNat
      · rw [if_pos h2, if_pos h2]; rfl
      · rw [if_neg h2, if_neg h2, if_neg h1]; exact this
theorem cmpB_trans : ∀ a b c : List UInt8, Lib.compareBytes a b < 0 → Lib.compareBytes b c < 0 → Lib.compareBytes a c < 0
  | [], [], _, h, _ => by simp [Lib.compareBytes] at h
  | [], _ :: _, [], _, h => by simp [Lib.compareBytes] at h
  | [], _ :: _, _ :: _, _, _ => by simp [Lib.compareBytes]
  | _ :: _, [], _, h, _ => by simp [Lib.compareBytes] at h
  | _ :: _, _ :: _, [], _, h => by simp [Lib.compareBytes] at h
  | x :: a, y :: b, z :: c, h1, h2 => by
    have ih := cmpB_trans a b c
    simp only [Lib.compareBytes, UInt8.lt_iff_toNat_lt] at h1 h2 ⊢
    split at h1
    · split at h2
      · rw [if_pos (by omega)]; omega
      · split at h2
        · omega
        · rw [if_pos (by omega)]; omega
    · split at h1
      · omega
      · split at h2
        · rw [if_pos (by omega)]; omega
        · split at h2
          · omega
          · rw [if_neg (by omega), if_neg (by omega)]
            exact ih h1 h2

/-- Lists of texts, the first ones first; of two of which one is the other's beginning the shorter one. -/
def cmpL : List ByteArray → List ByteArray → Int
  | [], [] => 0
  | [], _ :: _ => -1
  | _ :: _, [] => 1
  | x :: a, y :: b => if Lib.compareBytes x.data.toList y.data.toList ≠ 0 then Lib.compareBytes x.data.toList y.data.toList else cmpL a b
theorem bytes_toList_ext {a b : ByteArray} (h : a.data.toList = b.data.toList) : a = b := by
  cases a; cases b
  simp only at h
  rw [Array.toList_inj.1 h]
theorem cmpL_self : ∀ a : List ByteArray, cmpL a a = 0
  | [] => rfl
  | x :: a => by rw [cmpL, cmpB_self, if_neg (by simp)]; exact cmpL_self a
theorem cmpL_range : ∀ a b : List ByteArray, cmpL a b = -1 ∨ cmpL a b = 0 ∨ cmpL a b = 1
  | [], [] => by simp [cmpL]
  | [], _ :: _ => by simp [cmpL]
  | _ :: _, [] => by simp [cmpL]
  | x :: a, y :: b => by
    rw [cmpL]
    split
    · exact cmpB_range _ _
    · exact cmpL_range a b
theorem cmpL_eq : ∀ a b : List ByteArray, cmpL a b = 0 → a = b
  | [], [], _ => rfl
  | [], _ :: _, h => by simp [cmpL] at h
  | _ :: _, [], h => by simp [cmpL] at h
  | x :: a, y :: b, h => by
    rw [cmpL] at h
    split at h
    · rename_i h1; exact absurd h h1
    · rename_i h1
      rw [bytes_toList_ext (cmpB_eq _ _ (Decidable.not_not.1 h1)), cmpL_eq a b h]
theorem cmpL_anti : ∀ a b : List ByteArray, cmpL b a = - cmpL a b
  | [], [] => rfl
  | [], _ :: _ => rfl
  | _ :: _, [] => rfl
  | x :: a, y :: b => by
    rw [cmpL, cmpL, cmpB_anti x.data.toList]
    by_cases h : Lib.compareBytes x.data.toList y.data.toList = 0
    · rw [if_neg (by omega), if_neg (by omega)]; exact cmpL_anti a b
    · rw [if_pos (by omega), if_pos (by omega)]
theorem cmpL_trans : ∀ a b c : List ByteArray, cmpL a b < 0 → cmpL b c < 0 → cmpL a c < 0
  | [], [], _, h, _ => by simp [cmpL] at h
  | [], _ :: _, [], _, h => by simp [cmpL] at h
  | [], _ :: _, _ :: _, _, _ => by simp [cmpL]
  | _ :: _, [], _, h, _ => by simp [cmpL] at h
  | _ :: _, _ :: _, [], _, h => by simp [cmpL] at h
  | x :: a, y :: b, z :: c, h1, h2 => by
    rw [cmpL] at h1 h2 ⊢
    split at h1
    · rename_i n1
      split at h2
      · have := cmpB_trans _ _ _ h1 h2
        rw [if_pos (by omega)]; exact this
      · rename_i n2
        have e := bytes_toList_ext (cmpB_eq _ _ (Decidable.not_not.1 n2))
        subst e
        rw [if_pos n1]; exact h1
    · rename_i n1
      have e := bytes_toList_ext (cmpB_eq _ _ (Decidable.not_not.1 n1))
      subst e
      split at h2
      · rename_i n2
        rw [if_pos n2]; exact h2
      · rename_i n2
        rw [if_neg n2]; exact cmpL_trans a b c h1 h2
end Go.Proofs.YtkhpcagoggglcaaGreatDoor

/- data.Lower at every kind of data: what it is, its contract. -/
namespace Go.Proofs.YtkhpcagoggglcaaGreatDoor
open Go.RowKit

theorem numT_split {n : Nat} {s : ByteArray} {x : Int} {r : ByteArray} (h : numT n s = some (x, r)) : s.data.toList = s.data.toList.take n ++ r.data.toList ∧ n ≤ s.size ∧ r.size + n = s.size := by
  unfold numT at h
  split at h
  · rename_i h1
    cases h
    refine ⟨?_, h1, by rw [ByteArray.size_extract]; omega⟩
    have e : (s.extract n s.size).data.toList = s.data.toList.drop n := by simp; rw [List.take_of_length_le (by simp)]
    rw [e, List.take_append_drop]
  · cases h
theorem nameT_split {s : ByteArray} {x : ByteArray} {r : ByteArray} (h : nameT s = some (x, r)) : s.data.toList = x.data.toList ++ r.data.toList ∧ 0 < x.size ∧ x.size + r.size = s.size ∧ nameRight x = true := by
  unfold nameT at h
  split at h
  · rename_i h1
    split at h
    · rename_i h2
      cases h
      generalize nskip s s.size 0 + 1 = n at h1 h2 ⊢
      have e0 : (s.extract 0 n).data.toList = s.data.toList.take n := by simp
      have e1 : (s.extract n s.size).data.toList = s.data.toList.drop n := by simp; rw [List.take_of_length_le (by simp)]
      refine ⟨by rw [e0, e1, List.take_append_drop], ?_, by rw [ByteArray.size_extract, ByteArray.size_extract]; omega, h2⟩
      simp only [nameRight, Bool.and_eq_true, decide_eq_true_eq] at h2
      omega
    · cases h
  · cases h
theorem restT_split {s : ByteArray} {x : ByteArray} {r : ByteArray} (h : restT s = some (x, r)) : x = s ∧ 0 < s.size := by
  unfold restT at h
  split at h
  · cases h; exact ⟨rfl, by omega⟩
  · cases h
theorem takeR_inv {α : Type} {f : ByteArray → Option (α × ByteArray)} {d : ByteArray} {x : α} (h : takeR f d = some x) : d.size ≤ 2000 ∧ ∃ r, f d = some (x, r) ∧ r.size = 0 := by
  unfold takeR at h
  split at h
  · rename_i h0
    split at h
    · rename_i y r hf
      split at h
      · cases h; exact ⟨h0, r, hf, by assumption⟩
      · cases h
    · cases h
  · cases h
theorem soa_split {d : ByteArray} {x : SoaR} (h : takeR soaT d = some x) : d.data.toList = (x.primary.data.toList ++ x.mail.data.toList) ++ d.data.toList.drop (x.primary.size + x.mail.size) ∧ 0 < x.primary.size ∧ 0 < x.mail.size ∧ nameRight x.primary = true ∧ nameRight x.mail = true := by
  obtain ⟨_, r, hf, _⟩ := takeR_inv h
  unfold soaT at hf
  split at hf
  · cases hf
  rename_i a1 s1 h1
  split at hf
  · cases hf
  rename_i a2 s2 h2
  obtain ⟨e1, p1, z1, r1⟩ := nameT_split h1
  obtain ⟨e2, p2, z2, r2⟩ := nameT_split h2
  have hx : x.primary = a1 ∧ x.mail = a2 := by
    repeat (split at hf; · cases hf)
    cases hf
    exact ⟨rfl, rfl⟩
  rw [hx.1, hx.2]
  refine ⟨?_, p1, p2, r1, r2⟩
  have l1 : a1.data.toList.length = a1.size := by simp
  have l2 : a2.data.toList.length = a2.size := by simp
  have hd : d.data.toList = (a1.data.toList ++ a2.data.toList) ++ s2.data.toList := by rw [e1, e2, List.append_assoc]
  rw [hd, List.drop_left' (by rw [List.length_append, l1, l2])]
theorem mail_split {d : ByteArray} {x : mailR} (h : takeR mailT d = some x) : 3 ≤ d.size ∧ nameRight (d.extract 2 d.size) = true := by
  obtain ⟨_, r, hf, hr⟩ := takeR_inv h
  unfold mailT at hf
  split at hf
  · cases hf
  rename_i a1 s1 h1
  split at hf
  · cases hf
  rename_i a2 s2 h2
  cases hf
  obtain ⟨e1, p1, z1⟩ := numT_split h1
  obtain ⟨e2, p2, z2, r2⟩ := nameT_split h2
  have hs1 : s1 = d.extract 2 d.size := by
    unfold numT at h1
    rw [if_pos p1] at h1
    cases h1; rfl
  have ha : a2 = s1 := by
    have hs2 : r.data.toList = [] := List.eq_nil_of_length_eq_zero (by simpa using hr)
    rw [hs2, List.append_nil] at e2
    exact (bytes_toList_ext e2).symm
  exact ⟨by omega, by rw [← hs1, ← ha]; exact r2⟩
theorem sig_split {d : ByteArray} {x : SigR} (h : takeR sigT d = some x) : x.signer.size + x.sign.size ≤ 2000 ∧ nameRight x.signer = true ∧ 0 < x.sign.size := by
  obtain ⟨hz, r, hf, hr⟩ := takeR_inv h
  unfold sigT at hf
  split at hf
  · cases hf
  rename_i a1 s1 h1
  split at hf
  · cases hf
  rename_i a2 s2 h2
  split at hf
  · cases hf
  rename_i a3 s3 h3
  split at hf
  · cases hf
  rename_i a4 s4 h4
  split at hf
  · cases hf
  rename_i a5 s5 h5
  split at hf
  · cases hf
  rename_i a6 s6 h6
  split at hf
  · cases hf
  rename_i a7 s7 h7
  split at hf
  · cases hf
  rename_i a8 s8 h8
  split at hf
  · cases hf
  rename_i a9 s9 h9
  cases hf
  have := numT_le h1; have := numT_le h2; have := numT_le h3; have := numT_le h4; have := numT_le h5; have := numT_le h6; have := numT_le h7
  obtain ⟨e2, p2, z2, r2⟩ := nameT_split h8
  obtain ⟨e3, p3⟩ := restT_split h9
  subst e3
  exact ⟨by show a8.size + a9.size ≤ 2000; omega, r2, p3⟩

/-- The names in data that are right; what stands ahead of them, and behind. -/
def namesD (k : Int) (d : ByteArray) : List ByteArray :=
  if k = 2 then [d] else if k = 5 then [d] else if k = 39 then [d] else if k = 6 then (match takeR soaT d with | some x => [x.primary, x.mail] | none => []) else if k = 15 then [d.extract 2 d.size] else []
def preD (k : Int) (d : ByteArray) : List UInt8 := if k = 15 then d.data.toList.take 2 else []
def postD (k : Int) (d : ByteArray) : List UInt8 := d.data.toList.drop ((preD k d).length + (flat (namesD k d)).length)
def dataLower (k : Int) (d : ByteArray) : ByteArray :=
  if dataRight k d = false then d else if k = 46 then (match takeR sigT d with | some x => (ofSig { x with signer := nameLower x.signer }).getD ⟨#[]⟩ | none => d) else
  bsOf (lowAtI (preD k d) (postD k d) (namesD k d) (namesD k d).length)

theorem dataRight_form {k : Int} {d : ByteArray} (h : dataRight k d = true) : 0 ≤ k ∧ k < 65536 ∧ d.size ≤ 2000 ∧ formRight k d = true := by
  simp only [dataRight, Bool.and_eq_true, decide_eq_true_eq] at h
  exact ⟨h.1.1.1, h.1.1.2, h.1.2, h.2⟩
theorem lower_wrong (k : Int) (d : ByteArray) (w : World) (h : dataRight k d = false) : Calls Tryz.prog 29 #[.int .i64 k, .string d] w fun e w' => e = .returned (.string d) ∧ Below w.heap.size w w' := by
  have hrc := fun w => right_any k d w
  rw [h] at hrc
  have HR := Lib.hid hrc
  clear hrc h
  go_enter Tryz.func29, Tryz.ntmps29
  go_wp2_with (go_at_call 28; refine (HR.out _).mono ?_; rintro e w1 ⟨rfl, hb1⟩)
  go_ret
  exact ⟨rfl, hb1⟩
set_option maxRecDepth 100000 in
set_option maxHeartbeats 1000000 in
theorem lower_sig (d : ByteArray) (x : SigR) (w : World) (h : dataRight 46 d = true) (hx : takeR sigT d = some x) :
    Calls Tryz.prog 29 #[.int .i64 46, .string d] w fun e w' => e = .returned (.string ((ofSig { x with signer := nameLower x.signer }).getD ⟨#[]⟩)) ∧ Below w.heap.size w w' := by
  have hrc := fun w => right_any 46 d w
  rw [h] at hrc
  have HR := Lib.hid hrc
  have HX := Lib.hid hx
  have hsz := (sig_split hx).1
  have hof := fun w => data_ofSig { x with signer := nameLower x.signer } w (by show (nameLower x.signer).size + x.sign.size ≤ _; rw [size_nameLower]; omega)
  have HO := Lib.hid hof
  clear hrc h hx hsz hof
  generalize ofSig { x with signer := nameLower x.signer } = q at HO ⊢
  go_enter Tryz.func29, Tryz.ntmps29
  go_wp2_with (first | (go_at_call 28; refine (HR.out _).mono ?_; rintro e w1 ⟨rfl, hb1⟩) | (go_at_call 30; refine (Hid.out (p := _) ?_)))
  refine Lib.hid ?_
  refine (data_sig d _).mono ?_
  rintro e w2 ⟨hb2, h⟩
  rw [HX.out] at h
  obtain ⟨v, hv, rfl⟩ := h
  obtain rfl : v = x.v := hv
  have HB2 := Lib.hid (hb1.trans (hb2.mono hb1.size))
  clear hb1 hb2
  obtain ⟨xc, xa, xl, xt, xf, xb, xg, xn, xs⟩ := x
  simp only [SigR.v] at *
  go_wp2_with (go_at_call 17; refine (Hid.out (p := _) ?_))
  refine Lib.hid ?_
  refine (name_lower xn _).mono ?_
  rintro e w3 ⟨rfl, hb3⟩
  have hk := (Blk.new w2 #[.int .i64 xc, .int .i64 xa, .int .i64 xl, .int .i64 xt, .int .i64 xf, .int .i64 xb, .int .i64 xg, .string xn, .string xs] 78).below hb3 (by simp)
  have d0 := hk.cell 0; have d1 := hk.cell 1; have d2 := hk.cell 2; have d3 := hk.cell 3; have d4 := hk.cell 4; have d5 := hk.cell 5; have d6 := hk.cell 6; have d7 := hk.cell 7; have d8 := hk.cell 8
  have f0 := fun j => hk.free j
  have hb4 := HB2.out.alloc HB2.out.size (.cells #[.int .i64 xc, .int .i64 xa, .int .i64 xl, .int .i64 xt, .int .i64 xf, .int .i64 xb, .int .i64 xg, .string xn, .string xs] 78)
  have HB4 := Lib.hid (hb4.trans (hb3.mono hb4.size))
  have HBS := Lib.hid HB2.out.size
  clear hk hb3 hb4 HB2
  generalize nameLower xn = yn at *
  simp only []
  go_wp2_with (go_at_call 39; refine (Hid.out (p := _) ?_))
  refine Lib.hid ?_
  refine (HO.out _).mono ?_
  rintro e w5 ⟨rfl, hb5⟩
  have HB5 := Lib.hid ((Below.setCell (p := ⟨w2.heap.size, 7, none⟩) HB4.out HBS.out (.string yn)).trans (hb5.mono (by simpa using HB4.out.size)))
  clear hb5 HB4 d0 d1 d2 d3 d4 d5 d6 d7 d8 f0 HO
  cases q with
  | none =>
    simp only [Option.getD, Option.isSome, Bool.false_eq_true, if_false]
    go_wp2
    go_ret
    exact ⟨rfl, HB5.out⟩
  | some q =>
    simp only [Option.getD, Option.isSome, if_true]
    go_wp2
    go_ret
    exact ⟨rfl, HB5.out⟩

theorem lower_data (k : Int) (d : ByteArray) (w : World) : Calls Tryz.prog 29 #[.int .i64 k, .string d] w fun e w' => e = .returned (.string (dataLower k d)) ∧ Below w.heap.size w w' := by
  cases hr : dataRight k d with
  | false => rw [dataLower, if_pos hr]; exact lower_wrong k d w hr
  | true =>
    obtain ⟨h0, h1, hz, hf⟩ := dataRight_form hr
    have hl : d.data.toList.length = d.size := by simp
    by_cases h46 : k = 46
    · subst h46
      have hs : (takeR sigT d).isSome = true := hf
      obtain ⟨x, hx⟩ := Option.isSome_iff_exists.1 hs
      have e : dataLower 46 d = (ofSig { x with signer := nameLower x.signer }).getD ⟨#[]⟩ := by rw [dataLower, if_neg (by rw [hr]; simp), if_pos rfl, hx]
      rw [e]
      exact lower_sig d x w hr hx
    rw [dataLower, if_neg (by rw [hr]; simp), if_neg h46]
    have hk : (k == 46) = false := by rw [beq_eq_false_iff_ne]; exact h46
    have key : ∀ (l : List ByteArray) (a0 : Nat), namesD k d = l → (preD k d).length = a0 → (k == 15) = decide (a0 = 2) → (a0 = 0 ∨ a0 = 2) → (∀ x ∈ l, 0 < x.size) → l.length ≤ 2 → d.data.toList = preD k d ++ flat l ++ d.data.toList.drop (a0 + (flat l).length) →
        (∀ W, Calls Tryz.prog 40 #[.int .i64 k, .string d] W (NamesP l W)) → Calls Tryz.prog 29 #[.int .i64 k, .string d] w fun e w' => e = .returned (.string (bsOf (lowAtI (preD k d) (postD k d) (namesD k d) (namesD k d).length))) ∧ Below w.heap.size w w' := by
      intro l a0 hn ha hk2 ha2 hne hll hd hc
      have hp : postD k d = d.data.toList.drop (a0 + (flat l).length) := by rw [postD, ha, hn]
      rw [hp, hn]
      exact lower_any k d w l (preD k d) _ a0 hr hz hk (by simp only [lowAtI, List.take_zero, List.map_nil, List.drop_zero, flat, List.flatMap_nil, List.append_nil]; exact hd) ha hk2 ha2 hne hll hc
    have one : ∀ kk : Int, kk ≠ 15 → k = kk → namesD k d = [d] → nameRight d = true → (∀ W, Calls Tryz.prog 40 #[.int .i64 k, .string d] W (NamesP [d] W)) → Calls Tryz.prog 29 #[.int .i64 k, .string d] w fun e w' => e = .returned (.string (bsOf (lowAtI (preD k d) (postD k d) (namesD k d) (namesD k d).length))) ∧ Below w.heap.size w w' := by
      intro kk hkk hkx hn hnr hc
      have hp : preD k d = [] := by rw [preD, if_neg (by omega)]
      have hpos : 0 < d.size := by simp only [nameRight, Bool.and_eq_true, decide_eq_true_eq] at hnr; omega
      refine key [d] 0 hn (by rw [hp]; rfl) (by rw [beq_eq_false_iff_ne.2 (by omega)]; rfl) (.inl rfl) (by intro x hx; simp at hx; subst hx; exact hpos) (by simp) ?_ hc
      rw [hp, flat_cons]
      simp [flat]
    by_cases h2 : k = 2
    · subst h2; exact one 2 (by omega) rfl rfl hf (fun W => names_ns d W hr)
    by_cases h5 : k = 5
    · subst h5; exact one 5 (by omega) rfl rfl hf (fun W => names_cname d W hr)
    by_cases h39 : k = 39
    · subst h39; exact one 39 (by omega) rfl rfl hf (fun W => names_dname d W hr)
    by_cases h6 : k = 6
    · subst h6
      have hs : (takeR soaT d).isSome = true := hf
      obtain ⟨x, hx⟩ := Option.isSome_iff_exists.1 hs
      obtain ⟨e, p1, p2, _, _⟩ := soa_split hx
      have l1 : x.primary.data.toList.length = x.primary.size := by simp
      have l2 : x.mail.data.toList.length = x.mail.size := by simp
      have hfl : flat [x.primary, x.mail] = x.primary.data.toList ++ x.mail.data.toList := by simp [flat]
      refine key [x.primary, x.mail] 0 (by show (match takeR soaT d with | some x => [x.primary, x.mail] | none => []) = _; rw [hx]) rfl rfl (.inl rfl) (by intro y hy; simp at hy; rcases hy with rfl | rfl <;> assumption) (by simp) ?_ (fun W => names_soa d W x hr hx)
      rw [hfl]
      show d.data.toList = [] ++ _ ++ _
      rw [List.nil_append, List.length_append, l1, l2, Nat.zero_add]
      exact e
    by_cases h15 : k = 15
    · subst h15
      have hs : (takeR mailT d).isSome = true := hf
      obtain ⟨x, hx⟩ := Option.isSome_iff_exists.1 hs
      have h3 := (mail_split hx).1
      have e1 : (d.extract 2 d.size).data.toList = d.data.toList.drop 2 := by simp; rw [List.take_of_length_le (by simp)]
      refine key [d.extract 2 d.size] 2 rfl (by show (d.data.toList.take 2).length = 2; rw [List.length_take]; omega) rfl (.inr rfl) (by intro y hy; simp at hy; subst hy; rw [ByteArray.size_extract]; omega) (by simp) ?_ (fun W => names_mail d W hr (by omega))
      rw [flat_cons, e1]
      show d.data.toList = d.data.toList.take 2 ++ (d.data.toList.drop 2 ++ flat []) ++ _
      rw [show flat [] = [] from rfl, List.append_nil, List.take_append_drop, List.drop_of_length_le (by rw [List.length_drop]; omega), List.append_nil]
    have hn : namesD k d = [] := by rw [namesD, if_neg h2, if_neg h5, if_neg h39, if_neg h6, if_neg h15]
    have hp : preD k d = [] := by rw [preD, if_neg h15]
    have nil : (∀ W, Calls Tryz.prog 40 #[.int .i64 k, .string d] W (NamesP [] W)) → Calls Tryz.prog 29 #[.int .i64 k, .string d] w fun e w' => e = .returned (.string (bsOf (lowAtI (preD k d) (postD k d) (namesD k d) (namesD k d).length))) ∧ Below w.heap.size w w' := fun hc =>
      key [] 0 hn (by rw [hp]; rfl) (by rw [beq_eq_false_iff_ne.2 h15]; rfl) (.inl rfl) (by simp) (by simp) (by rw [hp]; simp [flat]) hc
    by_cases c1 : k = 1
    · subst c1; exact nil (fun W => names_four d W)
    by_cases c28 : k = 28
    · subst c28; exact nil (fun W => names_sixteen d W)
    by_cases c16 : k = 16
    · subst c16; exact nil (fun W => names_texts d W)
    by_cases c43 : k = 43
    · subst c43; exact nil (fun W => names_ds d W)
    by_cases c47 : k = 47
    · subst c47; exact nil (fun W => names_nsec d W)
    by_cases c48 : k = 48
    · subst c48; exact nil (fun W => names_key d W)
    by_cases c50 : k = 50
    · subst c50; exact nil (fun W => names_nsec3 d W)
    exact nil (fun W => names_other k d W ⟨c1, c28, h2, h5, h39, h6, h15, c16, c43, h46, c47, c48, c50⟩)

theorem dataLower_small {k : Int} {d : ByteArray} (h : dataRight k d = true) : (dataLower k d).size ≤ 6100 := by
  obtain ⟨_, _, hz, hf⟩ := dataRight_form h
  rw [dataLower, if_neg (by rw [h]; simp)]
  split
  · rename_i h46
    subst h46
    split
    · rename_i x hx
      generalize hq : ofSig { x with signer := nameLower x.signer } = q
      cases q with
      | none => show (⟨#[]⟩ : ByteArray).size ≤ _; exact Nat.zero_le _
      | some q =>
        unfold ofSig doneR at hq
        split at hq
        · rename_i h1
          cases hq
          show (bsOf _).size ≤ _
          have : (bsOf (sigL { x with signer := nameLower x.signer })).size = (sigL { x with signer := nameLower x.signer }).length := by simp [bsOf, ByteArray.size]
          rw [this]; omega
        · cases hq
    · omega
  · have hl := lowAtI_len (preD k d) (postD k d) (namesD k d) (namesD k d).length
    have hs : (bsOf (lowAtI (preD k d) (postD k d) (namesD k d) (namesD k d).length)).size = (lowAtI (preD k d) (postD k d) (namesD k d) (namesD k d).length).length := by simp [bsOf, ByteArray.size]
    have hdl : d.data.toList.length = d.size := by simp
    have hp : (preD k d).length ≤ 2 := by
      unfold preD
      split
      · rw [List.length_take]; omega
      · simp
    have hpo : (postD k d).length ≤ d.size := by unfold postD; rw [List.length_drop]; omega
    have hfl : (flat (namesD k d)).length ≤ 4000 := by
      have one : (flat [d]).length = d.size := by simp [flat]
      unfold namesD
      split
      · omega
      split
      · omega
      split
      · omega
      split
      · split
        · rename_i x hx
          have e := (soa_split hx).1
          have := congrArg List.length e
          simp only [List.length_append] at this
          have h2 : (flat [x.primary, x.mail]).length = x.primary.data.toList.length + x.mail.data.toList.length := by simp [flat]
          omega
        · simp [flat]
      split
      · have : (flat [d.extract 2 d.size]).length = (d.extract 2 d.size).size := by simp [flat]
        rw [this, ByteArray.size_extract]; omega
      · simp [flat]
    rw [hs, hl]; omega
end Go.Proofs.YtkhpcagoggglcaaGreatDoor

/- rrset.Right: whether a set is right. -/
namespace Go.Proofs.YtkhpcagoggglcaaGreatDoor
open Go.RowKit Go.Maps

/-- A set of records. -/
structure SetD where
  name : ByteArray
  kind : Int
  cls : Int
  ttl : Int
  data : List ByteArray
  sigs : List ByteArray
def SetD.cells (s : SetD) (dv sv : Value) : Array Value := #[.string s.name, .int .i64 s.kind, .int .i64 s.cls, .int .i64 s.ttl, dv, sv]
def SetD.v (s : SetD) (dv sv : Value) : Value := .agg (s.cells dv sv)
/-- v is a slice that reads as these texts. -/
def StrsAt (v : Value) (l : List ByteArray) (w : World) : Prop :=
  ∃ A c, v = .slice A l.length c ∧ (0 < l.length → ∃ g o, A = some ⟨g, o, none⟩ ∧ g < w.heap.size ∧ ∀ j (h : j < l.length), w.cell? ⟨g, o + j, none⟩ = some (.string l[j]))
theorem StrsAt.below {v : Value} {l : List ByteArray} {w w' : World} (h : StrsAt v l w) (hb : Below w.heap.size w w') : StrsAt v l w' := by
  obtain ⟨A, c, rfl, h⟩ := h
  refine ⟨A, c, rfl, fun h0 => ?_⟩
  obtain ⟨g, o, e, hg, hc⟩ := h h0
  exact ⟨g, o, e, Nat.lt_of_lt_of_le hg hb.size, fun j hj => by rw [hb.cell (p := ⟨g, o + j, none⟩) hg]; exact hc j hj⟩
theorem OwnS.strs {base : Nat} {v : Value} {l : List ByteArray} {w : World} (h : OwnS base v l w) : StrsAt v l w := by
  obtain ⟨A, c, rfl⟩ := OwnS.len h
  refine ⟨A, c, rfl, fun h0 => ?_⟩
  obtain ⟨g, c', e, _, hg, hc⟩ := OwnS.get h h0
  injection e with e1
  exact ⟨g, 0, e1, hg, fun j hj => by rw [Nat.zero_add]; exact hc j hj⟩

def btw (n a b : Int) : Bool := decide (a ≤ n) && decide (n ≤ b)
theorem between_any (n a b : Int) (w : World) : Calls Tryz.prog 27 #[.int .i64 n, .int .i64 a, .int .i64 b] w fun e w' => e = .returned (.bool (btw n a b)) ∧ w = w' := by
  unfold btw
  by_cases h : a ≤ n
  · have h1 : decide (a ≤ n) = true := by simpa using h
    go_enter Tryz.func27, Tryz.ntmps27
    go_wp2
    go_ret
    exact ⟨by simp [h], rfl⟩
  · have h1 : decide (a ≤ n) = false := by simpa using h
    go_enter Tryz.func27, Tryz.ntmps27
    go_wp2
    go_ret
    exact ⟨by simp, rfl⟩

/-- The different ones among some texts, in the order in which they come. -/
def uniq (l : List ByteArray) : List ByteArray := l.foldl (fun acc x => if acc.any (fun y => decide (y = x)) then acc else acc ++ [x]) []
theorem uniq_snoc (l : List ByteArray) (x : ByteArray) : uniq (l ++ [x]) = if (uniq l).any (fun y => decide (y = x)) then uniq l else uniq l ++ [x] := by unfold uniq; rw [List.foldl_append]; rfl
def sigCov (k : Int) (g : ByteArray) : Bool := match takeR sigT g with | some x => decide (x.covered = k) | none => false
def rightS (s : SetD) : Bool :=
  nameRight s.name && btw s.kind 0 65535 && btw s.cls 0 65535 && btw s.ttl 0 2147483647 && !decide (s.kind = 46) && !decide (s.kind = 41) && btw (s.data.length : Int) 1 200 && decide (s.sigs.length ≤ 200) &&
    s.data.all (dataRight s.kind) && s.sigs.all (sigCov s.kind) && decide ((uniq (s.data.map (dataLower s.kind))).length = s.data.length)

def BoolB (b : Bool) (w : World) (e : Ending) (w' : World) : Prop := e = .returned (.bool b) ∧ Below w.heap.size w w'

set_option maxRecDepth 100000 in
set_option maxHeartbeats 1000000 in
theorem setRight_no (s : SetD) (A B : Option Addr) (c1 c2 : Nat) (w : World) (h : ¬ (nameRight s.name = true ∧ btw s.kind 0 65535 = true ∧ btw s.cls 0 65535 = true ∧ btw s.ttl 0 2147483647 = true ∧ s.kind ≠ 46 ∧ s.kind ≠ 41 ∧ btw (s.data.length : Int) 1 200 = true ∧ s.sigs.length ≤ 200)) :
    Calls Tryz.prog 15 #[s.v (.slice A s.data.length c1) (.slice B s.sigs.length c2)] w (BoolB (rightS s) w) := by
  have hf : rightS s = false := by
    rw [Bool.eq_false_iff]
    intro h2
    simp only [rightS, Bool.and_eq_true, Bool.not_eq_true', decide_eq_true_eq, decide_eq_false_iff_not] at h2
    exact h ⟨h2.1.1.1.1.1.1.1.1.1.1, h2.1.1.1.1.1.1.1.1.1.2, h2.1.1.1.1.1.1.1.1.2, h2.1.1.1.1.1.1.1.2, h2.1.1.1.1.1.1.2, h2.1.1.1.1.1.2, h2.1.1.1.1.2, h2.1.1.1.2⟩
  have HF := Lib.hid hf
  clear hf
  have hrc := fun w => name_right s.name w
  obtain ⟨xn, xk, xc, xt, xd, xs⟩ := s
  simp only [SetD.v, SetD.cells] at *
  generalize nameRight xn = q0 at *
  have HR := Lib.hid hrc
  clear hrc
  cases q0 with
  | false =>
    clear h
    go_enter Tryz.func15, Tryz.ntmps15
    go_wp2_with (first | (go_at_call 24; refine (HR.out _).mono ?_; rintro e w1 ⟨rfl, hb1⟩; have hk := (Blk.new w #[.string xn, .int .i64 xk, .int .i64 xc, .int .i64 xt, (.slice A xd.length c1), (.slice B xs.length c2)] 30).below hb1 (by simp); have d1 := hk.cell 1; have d2 := hk.cell 2; have d3 := hk.cell 3; have d4 := hk.cell 4; have d5 := hk.cell 5; have lt1 := hk.lt; have HK := Lib.hid hk; clear hk) | (go_at_call 27; refine (between_any _ _ _ _).mono ?_; rintro e w' ⟨rfl, rfl⟩))
    go_ret
    refine ⟨?_, ((Below.refl _ w).alloc (Nat.le_refl _) _).trans (hb1.mono (by simp))⟩
    rw [HF.out]
    rfl
  | true =>
  cases h1 : btw xk 0 65535 with
  | false =>
    clear h
    go_enter Tryz.func15, Tryz.ntmps15
    go_wp2_with (first | (go_at_call 24; refine (HR.out _).mono ?_; rintro e w1 ⟨rfl, hb1⟩; have hk := (Blk.new w #[.string xn, .int .i64 xk, .int .i64 xc, .int .i64 xt, (.slice A xd.length c1), (.slice B xs.length c2)] 30).below hb1 (by simp); have d1 := hk.cell 1; have d2 := hk.cell 2; have d3 := hk.cell 3; have d4 := hk.cell 4; have d5 := hk.cell 5; have lt1 := hk.lt; have HK := Lib.hid hk; clear hk) | (go_at_call 27; refine (between_any _ _ _ _).mono ?_; rintro e w' ⟨rfl, rfl⟩))
    go_ret
    refine ⟨?_, ((Below.refl _ w).alloc (Nat.le_refl _) _).trans (hb1.mono (by simp))⟩
    rw [HF.out]
    rfl
  | true =>
  cases h2 : btw xc 0 65535 with
  | false =>
    clear h
    go_enter Tryz.func15, Tryz.ntmps15
    go_wp2_with (first | (go_at_call 24; refine (HR.out _).mono ?_; rintro e w1 ⟨rfl, hb1⟩; have hk := (Blk.new w #[.string xn, .int .i64 xk, .int .i64 xc, .int .i64 xt, (.slice A xd.length c1), (.slice B xs.length c2)] 30).below hb1 (by simp); have d1 := hk.cell 1; have d2 := hk.cell 2; have d3 := hk.cell 3; have d4 := hk.cell 4; have d5 := hk.cell 5; have lt1 := hk.lt; have HK := Lib.hid hk; clear hk) | (go_at_call 27; refine (between_any _ _ _ _).mono ?_; rintro e w' ⟨rfl, rfl⟩))
    go_ret
    refine ⟨?_, ((Below.refl _ w).alloc (Nat.le_refl _) _).trans (hb1.mono (by simp))⟩
    rw [HF.out]
    rfl
  | true =>
  cases h3 : btw xt 0 2147483647 with
  | false =>
    clear h
    go_enter Tryz.func15, Tryz.ntmps15
    go_wp2_with (first | (go_at_call 24; refine (HR.out _).mono ?_; rintro e w1 ⟨rfl, hb1⟩; have hk := (Blk.new w #[.string xn, .int .i64 xk, .int .i64 xc, .int .i64 xt, (.slice A xd.length c1), (.slice B xs.length c2)] 30).below hb1 (by simp); have d1 := hk.cell 1; have d2 := hk.cell 2; have d3 := hk.cell 3; have d4 := hk.cell 4; have d5 := hk.cell 5; have lt1 := hk.lt; have HK := Lib.hid hk; clear hk) | (go_at_call 27; refine (between_any _ _ _ _).mono ?_; rintro e w' ⟨rfl, rfl⟩))
    go_ret
    refine ⟨?_, ((Below.refl _ w).alloc (Nat.le_refl _) _).trans (hb1.mono (by simp))⟩
    rw [HF.out]
    rfl
  | true =>
  by_cases h4 : xk = 46
  · have t4 : (xk == 46) = true := by rw [beq_iff_eq]; exact h4
    clear h h4
    go_enter Tryz.func15, Tryz.ntmps15
    go_wp2_with (first | (go_at_call 24; refine (HR.out _).mono ?_; rintro e w1 ⟨rfl, hb1⟩; have hk := (Blk.new w #[.string xn, .int .i64 xk, .int .i64 xc, .int .i64 xt, (.slice A xd.length c1), (.slice B xs.length c2)] 30).below hb1 (by simp); have d1 := hk.cell 1; have d2 := hk.cell 2; have d3 := hk.cell 3; have d4 := hk.cell 4; have d5 := hk.cell 5; have lt1 := hk.lt; have HK := Lib.hid hk; clear hk) | (go_at_call 27; refine (between_any _ _ _ _).mono ?_; rintro e w' ⟨rfl, rfl⟩))
    go_ret
    refine ⟨?_, ((Below.refl _ w).alloc (Nat.le_refl _) _).trans (hb1.mono (by simp))⟩
    rw [HF.out]
    rfl
  have t4 : (xk == 46) = false := by rw [beq_eq_false_iff_ne]; exact h4
  by_cases h5 : xk = 41
  · have t5 : (xk == 41) = true := by rw [beq_iff_eq]; exact h5
    clear h h4 h5
    go_enter Tryz.func15, Tryz.ntmps15
    go_wp2_with (first | (go_at_call 24; refine (HR.out _).mono ?_; rintro e w1 ⟨rfl, hb1⟩; have hk := (Blk.new w #[.string xn, .int .i64 xk, .int .i64 xc, .int .i64 xt, (.slice A xd.length c1), (.slice B xs.length c2)] 30).below hb1 (by simp); have d1 := hk.cell 1; have d2 := hk.cell 2; have d3 := hk.cell 3; have d4 := hk.cell 4; have d5 := hk.cell 5; have lt1 := hk.lt; have HK := Lib.hid hk; clear hk) | (go_at_call 27; refine (between_any _ _ _ _).mono ?_; rintro e w' ⟨rfl, rfl⟩))
    go_ret
    refine ⟨?_, ((Below.refl _ w).alloc (Nat.le_refl _) _).trans (hb1.mono (by simp))⟩
    rw [HF.out]
    rfl
  have t5 : (xk == 41) = false := by rw [beq_eq_false_iff_ne]; exact h5
  cases h6 : btw (xd.length : Int) 1 200 with
  | false =>
    clear h h4 h5
    go_enter Tryz.func15, Tryz.ntmps15
    go_wp2_with (first | (go_at_call 24; refine (HR.out _).mono ?_; rintro e w1 ⟨rfl, hb1⟩; have hk := (Blk.new w #[.string xn, .int .i64 xk, .int .i64 xc, .int .i64 xt, (.slice A xd.length c1), (.slice B xs.length c2)] 30).below hb1 (by simp); have d1 := hk.cell 1; have d2 := hk.cell 2; have d3 := hk.cell 3; have d4 := hk.cell 4; have d5 := hk.cell 5; have lt1 := hk.lt; have HK := Lib.hid hk; clear hk) | (go_at_call 27; refine (between_any _ _ _ _).mono ?_; rintro e w' ⟨rfl, rfl⟩))
    go_ret
    refine ⟨?_, ((Below.refl _ w).alloc (Nat.le_refl _) _).trans (hb1.mono (by simp))⟩
    rw [HF.out]
    rfl
  | true =>
    have h7 : decide ((200 : Int) < (xs.length : Int)) = true := decide_eq_true (by have : ¬ xs.length ≤ 200 := fun hh => h ⟨rfl, h1, h2, h3, h4, h5, h6, hh⟩; omega)
    clear h h4 h5
    go_enter Tryz.func15, Tryz.ntmps15
    go_wp2_with (first | (go_at_call 24; refine (HR.out _).mono ?_; rintro e w1 ⟨rfl, hb1⟩; have hk := (Blk.new w #[.string xn, .int .i64 xk, .int .i64 xc, .int .i64 xt, (.slice A xd.length c1), (.slice B xs.length c2)] 30).below hb1 (by simp); have d1 := hk.cell 1; have d2 := hk.cell 2; have d3 := hk.cell 3; have d4 := hk.cell 4; have d5 := hk.cell 5; have lt1 := hk.lt; have HK := Lib.hid hk; clear hk) | (go_at_call 27; refine (between_any _ _ _ _).mono ?_; rintro e w' ⟨rfl, rfl⟩))
    go_ret
    refine ⟨?_, ((Below.refl _ w).alloc (Nat.le_refl _) _).trans (hb1.mono (by simp))⟩
    rw [HF.out]
    rfl

theorem keyed_str : Keyed Tryz.prog 9 := string_keyed Tryz.underlying9
theorem zero_int (w : World) : (zeroValue 3).run Tryz.prog w = .ok (.int .i64 0) w := by kernel_rfl
def kl (x : ByteArray) : Lit := .string x.data.toList
theorem kl_ne {x y : ByteArray} (h : x ≠ y) : kl x ≠ kl y := fun e => h (by injection e with e; cases x; cases y; simp only at e; rw [Array.toList_inj.1 e])
theorem key_of (x : ByteArray) (h : x.size ≤ 6100) : Go.keyOf Tryz.prog 9 (.string x) = some (kl x) := Go.WideMaps.keyOf_string_mk Tryz.underlying9 (by simp only [maxLen]; omega)
/-- The map counts these texts. -/
structure Cnt (D : DataW Unit) (l : List ByteArray) : Prop where
  size : Maps.size D = (uniq l).length
  has : ∀ x, Maps.has D (kl x) = (uniq l).any (fun y => decide (y = x))
theorem Cnt.nil : Cnt (.map []) [] := ⟨rfl, fun _ => rfl⟩
theorem Cnt.put {D : DataW Unit} {l : List ByteArray} (h : Cnt D l) (ht : Tidy D) (x : ByteArray) (d : DataW Unit) : Cnt (D.put (kl x) d) (l ++ [x]) := by
  have hk : WideAt.IsKeyLit (kl x) := trivial
  refine ⟨?_, fun y => ?_⟩
  · rw [size_put ht, h.has x, uniq_snoc, h.size]
    split
    · rfl
    · simp
  · rw [uniq_snoc]
    by_cases e : y = x
    · subst e
      rw [has_put_same ht.isMap hk]
      split
      · rename_i h1; exact h1.symm
      · simp
    · rw [has_put_other (kl_ne e), h.has y]
      split
      · rfl
      · rw [List.any_append]
        have : decide (x = y) = false := decide_eq_false (fun h => e h.symm)
        simp [this]
theorem grown_of_below {w w' : World} (hb : Below w.heap.size w w') : w.grownBy w' none := ⟨hb.os, hb.tape, hb.output, hb.size, fun k hk _ => hb.block k hk⟩

/-- The world inside of the loops. -/
structure RSt (w : World) (cs : Array Value) (B n : Nat) (l : List ByteArray) (W : World) : Prop where
  own : ∃ D : DataW Unit, W.ownsMap Tryz.prog 9 (plainElem Tryz.prog 3) B n D ∧ Cnt D l
  box : Blk W w.heap.size cs 30
  below : Below w.heap.size w W
  base : w.heap.size < B
theorem RSt.below' {w : World} {cs : Array Value} {B n : Nat} {l : List ByteArray} {W W' : World} (h : RSt w cs B n l W) (hb : Below W.heap.size W W') : RSt w cs B n l W' := by
  obtain ⟨D, h1, h2⟩ := h.own
  exact ⟨⟨D, h1.kept (grown_of_below hb) (by simp), h2⟩, h.box.below hb h.box.lt, h.below.trans (hb.mono h.below.size), h.base⟩
theorem RSt.put {w : World} {cs : Array Value} {B n : Nat} {l : List ByteArray} {W W' : World} (h : RSt w cs B n l W) (x : ByteArray) {D : DataW Unit} {d : DataW Unit} (hD : W.ownsMap Tryz.prog 9 (plainElem Tryz.prog 3) B n D) (hc : Cnt D l)
    (h1 : W'.ownsMap Tryz.prog 9 (plainElem Tryz.prog 3) B (n + 1) (D.put (kl x) d)) (hg : W.grownBy W' (some B)) : RSt w cs B (n + 1) (l ++ [x]) W' := by
  refine ⟨⟨_, h1, hc.put (hD.tidy keyed_str) x d⟩, ?_, ?_, h.base⟩
  · unfold Blk
    rw [hg.block _ h.box.lt (by intro e; injection e with e; have := h.base; omega)]
    exact h.box
  · exact h.below.grown hg h.below.size (fun k hk => by injection hk with hk; have := h.base; omega)

set_option maxRecDepth 100000 in
set_option maxHeartbeats 4000000 in
theorem setRight_main (s : SetD) (A B : Option Addr) (c1 c2 : Nat) (w : World) (hn : nameRight s.name = true) (b1 : btw s.kind 0 65535 = true) (b2 : btw s.cls 0 65535 = true) (b3 : btw s.ttl 0 2147483647 = true) (k46 : s.kind ≠ 46) (k41 : s.kind ≠ 41) (b4 : btw (s.data.length : Int) 1 200 = true) (hsl : s.sigs.length ≤ 200)
    (hd : StrsAt (.slice A s.data.length c1) s.data w) (hs : StrsAt (.slice B s.sigs.length c2) s.sigs w) :
    Calls Tryz.prog 15 #[s.v (.slice A s.data.length c1) (.slice B s.sigs.length c2)] w (BoolB (rightS s) w) := by
  have hfin : rightS s = (s.data.all (dataRight s.kind) && s.sigs.all (sigCov s.kind) && decide ((uniq (s.data.map (dataLower s.kind))).length = s.data.length)) := by
    rw [rightS, hn, b1, b2, b3, decide_eq_false k46, decide_eq_false k41, b4, decide_eq_true hsl]; rfl
  have HF := Lib.hid hfin
  have t4 : (s.kind == 46) = false := by rw [beq_eq_false_iff_ne]; exact k46
  have t5 : (s.kind == 41) = false := by rw [beq_eq_false_iff_ne]; exact k41
  have t6 : decide ((200 : Int) < (s.sigs.length : Int)) = false := decide_eq_false (by omega)
  have hdl : s.data.length ≤ 200 := by simp [btw] at b4; omega
  have hrc := fun w => name_right s.name w
  rw [hn] at hrc
  have HR := Lib.hid hrc; have HD := Lib.hid hd; have HS := Lib.hid hs
  clear hfin hrc hd hs k46 k41 hn
  obtain ⟨xn, xk, xc, xt, xd, xs⟩ := s
  simp only [SetD.v, SetD.cells] at *
  have hmm := @run_makeMap Tryz.prog
  go_enter Tryz.func15, Tryz.ntmps15
  go_wp2_with (first | (go_at_call 24; refine (HR.out _).mono ?_; rintro e w1 ⟨rfl, hb1⟩; have hk := (Blk.new w #[.string xn, .int .i64 xk, .int .i64 xc, .int .i64 xt, (.slice A xd.length c1), (.slice B xs.length c2)] 30).below hb1 (by simp); have d1 := hk.cell 1; have d2 := hk.cell 2; have d3 := hk.cell 3; have d4 := hk.cell 4; have d5 := hk.cell 5; have lt1 := hk.lt; have HK := Lib.hid hk; clear hk) | (go_at_call 27; refine (between_any _ _ _ _).mono ?_; rintro e w' ⟨rfl, rfl⟩))
  have hB0 : Below w.heap.size w w1 := ((Below.refl _ w).alloc (Nat.le_refl _) _).trans (hb1.mono (by simp))
  have H0 : Hid (RSt w #[.string xn, .int .i64 xk, .int .i64 xc, .int .i64 xt, (.slice A xd.length c1), (.slice B xs.length c2)] w1.heap.size 0 [] (w1.alloc (.map #[] 0))) :=
    Lib.hid ⟨⟨_, World.ownsMap_made _ _ _ _, Cnt.nil⟩, HK.out.alloc _, hB0.alloc hB0.size _, HK.out.lt⟩
  clear HK hB0 hb1 HR
  go_loopw [58] (fun i wr => ∃ q : Nat, q ≤ xd.length ∧ i = .int .i64 q ∧ Hid (∀ j (h : j < q) (h2 : j < xd.length), dataRight xk xd[j] = true) ∧ Hid (RSt w #[.string xn, .int .i64 xk, .int .i64 xc, .int .i64 xt, (.slice A xd.length c1), (.slice B xs.length c2)] w1.heap.size q ((xd.take q).map (dataLower xk)) wr)) (fun i _ => xd.length - (intOf i).toNat)
  case atStart => exact ⟨0, Nat.zero_le _, rfl, Lib.hid (fun j h => absurd h (by omega)), H0⟩
  case round =>
    obtain ⟨q, hq, rfl, HRT, HW⟩ := hrel
    have d1 := HW.out.box.cell 1
    by_cases hlt : q < xd.length
    · obtain ⟨g, o, rfl, hg, hc⟩ : ∃ g o, A = some ⟨g, o, none⟩ ∧ g < w.heap.size ∧ ∀ j (h : j < xd.length), w.cell? ⟨g, o + j, none⟩ = some (.string xd[j]) := by
        obtain ⟨A', c', e, h⟩ := HD.out
        injection e with e1 e2 e3
        subst e1
        exact h (by omega)
      have hcq : wr.cell? ⟨g, o + q, none⟩ = some (.string xd[q]) := by rw [HW.out.below.cell (p := ⟨g, o + q, none⟩) hg]; exact hc q hlt
      have hrq := fun w => right_any xk xd[q] w
      have hlq := fun w => lower_data xk xd[q] w
      have hsm : dataRight xk (xd[q]'hlt) = true → (dataLower xk (xd[q]'hlt)).size ≤ 6100 := dataLower_small
      have htk : (xd.take (q + 1)).map (dataLower xk) = (xd.take q).map (dataLower xk) ++ [dataLower xk xd[q]] := by rw [List.take_succ_eq_append_getElem hlt, List.map_append]; rfl
      have hqx := Lib.hid (show ∃ (h : q < xd.length), dataRight xk xd[q] = dataRight xk xd[q] from ⟨hlt, rfl⟩)
      have hdr : dataRight xk (xd[q]'hlt) = true ∨ dataRight xk (xd[q]'hlt) = false := by cases dataRight xk xd[q] <;> simp
      have HX := Lib.hid (show ∀ b, dataRight xk (xd[q]'hlt) = b → xd.all (dataRight xk) = true → b = true from fun b hb h => by rw [← hb]; exact List.all_eq_true.1 h _ (List.getElem_mem hlt))
      have HN := Lib.hid (show dataRight xk (xd[q]'hlt) = true → ∀ j (h : j < q + 1) (h2 : j < xd.length), dataRight xk xd[j] = true from fun hh j h h2 => by
        by_cases e : j < q
        · exact HRT.out j e h2
        · obtain rfl : j = q := by omega
          exact hh)
      generalize dataLower xk xd[q] = y at hlq hsm htk
      generalize dataRight xk xd[q] = r at hrq hsm hdr HX HN
      generalize xd[q] = x at hcq hrq hlq
      have HRQ := Lib.hid hrq; have HLQ := Lib.hid hlq; have HTK := Lib.hid htk; have HSM := Lib.hid hsm
      clear hrq hlq htk hsm hc hg hqx
      rcases hdr with rfl | rfl
      · have hkey := key_of y (HSM.out rfl)
        have HKY := Lib.hid hkey
        clear hkey
        go_wp2_with (go_at_call 28; refine (Hid.out (p := _) ?_))
        refine Lib.hid ?_
        refine (HRQ.out _).mono ?_
        rintro e w2 ⟨rfl, hb2⟩
        have HW2 := Lib.hid (HW.out.below' hb2)
        clear hb2 d1
        have d1 := HW2.out.box.cell 1
        simp only []
        go_wp2_with (go_at_call 29; refine (Hid.out (p := _) ?_))
        refine Lib.hid ?_
        refine (HLQ.out _).mono ?_
        rintro e w3 ⟨rfl, hb3⟩
        have HW3 := Lib.hid (HW2.out.below' hb3)
        clear hb3 d1 HW2
        obtain ⟨D, hown, hcn⟩ := HW3.out.own
        have HOW := Lib.hid hown; have HCN := Lib.hid hcn
        clear hown hcn
        simp only []
        go_wp2_with (first
          | (at_lookup; refine wpList_lookup_own_int _ rfl _ _ 74 rfl 9 3 .i64 keyed_str Tryz.underlying74 Tryz.underlying3 (zero_int _) w1.heap.size q D rfl HOW.out _ _ rfl HKY.out ?_; intro c hat hwc; clear hat hwc)
          | (at_mapUpdate; refine wpList_mapUpdate_own _ rfl _ _ _ 74 rfl 9 3 keyed_str Tryz.underlying74 (plainElem Tryz.prog 3) w1.heap.size q D rfl HOW.out (by simp only [maxLen]; omega) _ _ _ rfl rfl HKY.out _ [] (plainElem_int Tryz.underlying3 (wrap64_wf _)) ?_; intro w4 hown4 hg4; have HW4 := Lib.hid (HW3.out.put y HOW.out HCN.out hown4 hg4); clear hown4 hg4))
        go_roundw
        case rel => exact ⟨q + 1, by omega, by go_num, Lib.hid (HN.out (by simp)), by rw [HTK.out]; exact HW4⟩
        case measure => simp [intOf]; omega
      · go_wp2_with (go_at_call 28; refine (HRQ.out _).mono ?_; rintro e w2 ⟨rfl, hb2⟩)
        go_ret
        have hf : rightS ⟨xn, xk, xc, xt, xd, xs⟩ = false := by
          rw [HF.out, Bool.eq_false_iff]
          intro h
          simp only [Bool.and_eq_true] at h
          exact absurd (HX.out false rfl h.1.1) (by simp)
        refine ⟨?_, (HW.out.below' hb2).below⟩
        rw [hf]; rfl
    · obtain rfl : q = xd.length := by omega
      have hall : xd.all (dataRight xk) = true := List.all_eq_true.2 fun x hx => by
        obtain ⟨j, hj, rfl⟩ := List.getElem_of_mem hx
        exact HRT.out j hj hj
      have HALL := Lib.hid hall
      have HW0 : Hid (RSt w #[.string xn, .int .i64 xk, .int .i64 xc, .int .i64 xt, (.slice A xd.length c1), (.slice B xs.length c2)] w1.heap.size xd.length (xd.map (dataLower xk)) wr) := Lib.hid (by have := HW.out; rwa [List.take_length] at this)
      clear hall HRT HW d1
      have d5 := HW0.out.box.cell 5
      go_wp2_with fail
      clear d5
      go_loopw [78] (fun i wr => ∃ q : Nat, q ≤ xs.length ∧ i = .int .i64 q ∧ Hid (∀ j (h : j < q) (h2 : j < xs.length), sigCov xk xs[j] = true) ∧ Hid (RSt w #[.string xn, .int .i64 xk, .int .i64 xc, .int .i64 xt, (.slice A xd.length c1), (.slice B xs.length c2)] w1.heap.size xd.length (xd.map (dataLower xk)) wr)) (fun i _ => xs.length - (intOf i).toNat)
      case atStart => exact ⟨0, Nat.zero_le _, rfl, Lib.hid (fun j h => absurd h (by omega)), HW0⟩
      case round =>
        obtain ⟨q, hq, rfl, HRT, HW⟩ := hrel
        by_cases hlt : q < xs.length
        · obtain ⟨g, o, rfl, hg, hc⟩ : ∃ g o, B = some ⟨g, o, none⟩ ∧ g < w.heap.size ∧ ∀ j (h : j < xs.length), w.cell? ⟨g, o + j, none⟩ = some (.string xs[j]) := by
            obtain ⟨A', c', e, h⟩ := HS.out
            injection e with e1 e2 e3
            subst e1
            exact h (by omega)
          have hcq := HW.out.below.cell (p := ⟨g, o + q, none⟩) hg
          rw [hc q hlt] at hcq
          have HX := Lib.hid (show xs.all (sigCov xk) = true → sigCov xk (xs[q]'hlt) = true from fun h => List.all_eq_true.1 h _ (List.getElem_mem hlt))
          have HN := Lib.hid (show sigCov xk (xs[q]'hlt) = true → ∀ j (h : j < q + 1) (h2 : j < xs.length), sigCov xk xs[j] = true from fun hh j h h2 => by
            by_cases e : j < q
            · exact HRT.out j e h2
            · obtain rfl : j = q := by omega
              exact hh)
          generalize xs[q] = x at hcq HX HN
          clear hc hg
          go_wp2_with (go_at_call 30; refine (Hid.out (p := _) ?_))
          refine Lib.hid ?_
          refine (data_sig x _).mono ?_
          rintro e W2 ⟨hb2, h⟩
          have HW2 := Lib.hid (HW.out.below' hb2)
          clear hb2 hcq
          have d1 := HW2.out.box.cell 1
          have lt2 := HW2.out.box.lt
          have bad : sigCov xk x = false → rightS ⟨xn, xk, xc, xt, xd, xs⟩ = false := fun h => by
            rw [HF.out, Bool.eq_false_iff]
            intro h2
            simp only [Bool.and_eq_true] at h2
            rw [HX.out h2.1.2] at h
            cases h
          have HBAD := Lib.hid bad
          clear bad
          rcases h1 : takeR sigT x with _ | y
          · rw [h1] at h
            obtain rfl := h
            have hf := HBAD.out (by rw [sigCov, h1])
            have HF0 := Lib.hid hf
            clear hf h1
            simp only []
            go_wp2
            go_ret
            refine ⟨?_, HW2.out.below.alloc HW2.out.below.size _⟩
            rw [HF0.out]; rfl
          · rw [h1] at h
            obtain ⟨v, hv, rfl⟩ := h
            obtain rfl : v = y.v := hv
            have H1 := Lib.hid h1
            clear h1
            by_cases hcv : y.covered = xk
            · have hyes := HN.out (by rw [sigCov, H1.out]; simp [hcv])
              have HY := Lib.hid hyes
              have t7 : (y.covered != xk) = false := by rw [bne_eq_false_iff_eq]; exact hcv
              clear hyes hcv HX HN HBAD H1
              simp only [SigR.v]
              go_wp2
              go_roundw
              case rel => exact ⟨q + 1, by omega, by go_num, HY, Lib.hid (HW2.out.below' ((Below.refl _ _).alloc (Nat.le_refl _) _))⟩
              case measure => simp [intOf]; omega
            · have hf := HBAD.out (by rw [sigCov, H1.out]; simp [hcv])
              have HF0 := Lib.hid hf
              have t7 : (y.covered != xk) = true := by rw [bne_iff_ne]; exact hcv
              clear hf hcv HX HN HBAD H1
              simp only [SigR.v]
              go_wp2
              go_ret
              refine ⟨?_, HW2.out.below.alloc HW2.out.below.size _⟩
              rw [HF0.out]; rfl
        · obtain rfl : q = xs.length := by omega
          have hall2 : xs.all (sigCov xk) = true := List.all_eq_true.2 fun x hx => by
            obtain ⟨j, hj, rfl⟩ := List.getElem_of_mem hx
            exact HRT.out j hj hj
          have hfin : rightS ⟨xn, xk, xc, xt, xd, xs⟩ = decide ((uniq (xd.map (dataLower xk))).length = xd.length) := by
            rw [HF.out, HALL.out, hall2]; rfl
          have HFIN := Lib.hid hfin
          clear hall2 hfin HRT
          obtain ⟨D, hown, hcn⟩ := HW.out.own
          have HOW := Lib.hid hown
          have hsz := hcn.size
          have HSZ := Lib.hid hsz
          have d4 := HW.out.box.cell 4
          have HB := Lib.hid HW.out.below
          clear hown hcn hsz HW
          by_cases hu : (uniq (xd.map (dataLower xk))).length = xd.length
          · have t8 : ((Maps.size D : Int) == (xd.length : Int)) = true := by rw [beq_iff_eq, HSZ.out, hu]
            have HU := Lib.hid hu
            clear hu
            go_wp2_with (at_len; refine wpList_len_own _ rfl _ 74 rfl 9 3 Tryz.underlying74 _ w1.heap.size xd.length D rfl HOW.out ?_)
            go_ret
            refine ⟨?_, HB.out⟩
            rw [HFIN.out, decide_eq_true HU.out]; rfl
          · have t8 : ((Maps.size D : Int) == (xd.length : Int)) = false := by rw [beq_eq_false_iff_ne, HSZ.out]; omega
            have HU := Lib.hid hu
            clear hu
            go_wp2_with (at_len; refine wpList_len_own _ rfl _ 74 rfl 9 3 Tryz.underlying74 _ w1.heap.size xd.length D rfl HOW.out ?_)
            go_ret
            refine ⟨?_, HB.out⟩
            rw [HFIN.out, decide_eq_false HU.out]; rfl

/-- rrset.Right. -/
theorem rrset_right (s : SetD) (dv sv : Value) (w : World) (hd : StrsAt dv s.data w) (hs : StrsAt sv s.sigs w) : Calls Tryz.prog 15 #[s.v dv sv] w (BoolB (rightS s) w) := by
  obtain ⟨A, c1, rfl, hd'⟩ := hd
  obtain ⟨B, c2, rfl, hs'⟩ := hs
  by_cases h : nameRight s.name = true ∧ btw s.kind 0 65535 = true ∧ btw s.cls 0 65535 = true ∧ btw s.ttl 0 2147483647 = true ∧ s.kind ≠ 46 ∧ s.kind ≠ 41 ∧ btw (s.data.length : Int) 1 200 = true ∧ s.sigs.length ≤ 200
  · exact setRight_main s A B c1 c2 w h.1 h.2.1 h.2.2.1 h.2.2.2.1 h.2.2.2.2.1 h.2.2.2.2.2.1 h.2.2.2.2.2.2.1 h.2.2.2.2.2.2.2 ⟨A, c1, rfl, hd'⟩ ⟨B, c2, rfl, hs'⟩
  · exact setRight_no s A B c1 c2 w h
end Go.Proofs.YtkhpcagoggglcaaGreatDoor

