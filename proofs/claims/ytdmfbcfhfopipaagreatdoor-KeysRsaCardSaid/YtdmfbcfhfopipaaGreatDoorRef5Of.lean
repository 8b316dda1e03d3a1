/- The document's own numbers (its chapter 5): Of. -/
import Derived.Test.YtdmfbcfhfopipaaGreatDoorRef5B
import Derived.Test.YtdmfbcfhfopipaaGreatDoorOfLaw
namespace Go.Proofs.YtdmfbcfhfopipaaGreatDoor
open Go.RowKit

/-- v holds these words, in a row of the call's own. -/
def OwnW (base : Nat) (v : Value) (l : List W32) (w : World) : Prop := w.ownsRow base 64 1 v l.length (l.map vw)
theorem OwnW.nil (base : Nat) (w : World) : OwnW base (.slice none 0 0) [] w := ⟨rfl, .inl ⟨rfl, rfl⟩⟩
theorem OwnW.digs {base : Nat} {v : Value} {l : List W32} {w : World} (h : OwnW base v l w) : ∃ A c, v = .slice A l.length c ∧ l.length ≤ c ∧ DigsAt base w A l := by
  rcases h.2 with ⟨rfl, h0⟩ | ⟨g, cap, cur, rfl, hb, hg, hn, _, hsz, htk⟩
  · obtain rfl : l = [] := List.eq_nil_of_length_eq_zero h0
    exact ⟨none, 0, rfl, Nat.le_refl _, .inl rfl⟩
  · refine ⟨some ⟨g, 0, none⟩, cap, rfl, hn, .inr ⟨g, rfl, hb, ?_, fun i hi => ?_⟩⟩
    · rcases Nat.lt_or_ge g w.heap.size with h | h
      · exact h
      · rw [Array.getElem?_eq_none h] at hg; cases hg
    · rw [cell_of_row w g i cur 64 (0, 0) hg]
      have e : cur.toList[i]? = (l.map vw)[i]? := by
        rw [← htk, List.getElem?_take, if_pos (by simpa using hi)]
      rw [← Array.getElem?_toList, e]
      simp [vw, List.getD, hi]
theorem ownW_append {ops : Array Oper} {rest : List Oper} {o : Oper} {a : Act} {Q : Exit → Act → World → Prop} {base : Nat} {v : Value} {l : List W32} {w0 W : World} (HO : OwnW base v l W) (HB : Below base w0 W) (hbase : base ≤ W.heap.size) (x : W32) (hl : l.length ≤ 1000000)
    (hgd : o.guard = none) (s y : Operand) (ho : o.op = .call { callee := .builtin .append, args := #[s, y], argTypes := #[43, 43] }) (cs : Array Value) (m c : Nat) (hs : a.eval s = v) (hx : a.eval y = .slice (some ⟨W.heap.size, 0, none⟩) m c) (hcs : cs = #[vw x]) (hm : m = 1)
    (h : ∀ v1 w1, OwnW base v1 (l ++ [x]) w1 → Below base w0 w1 → base ≤ w1.heap.size → wpList Tryz.prog ops Q rest (a.put o.dst v1) w1) : wpList Tryz.prog ops Q (o :: rest) a (W.alloc (.cells cs 64)) := by
  subst hcs hm
  refine own_append base _ hgd s y 43 64 (.int .u32 0) 4 ho Tryz.underlying43 info_u32 rfl v (l.map vw) 1 c hs hx (by simp) (by intro u hu; simp at hu; subst hu; rfl) (by simpa [OwnW] using HO) HB hbase (by omega) (by simp; omega) ?_
  intro v1 w1 h1 h2 h3
  exact h v1 w1 (by simpa [OwnW] using h1) h2 h3
theorem docDigs_take (l : List UInt8) (i : Nat) (h : i < (l.length + 3) / 4) : (docDigs l).take (i + 1) = (docDigs l).take i ++ [BitVec.ofNat 32 (partN l i 4)] := by
  rw [List.take_succ_eq_append_getElem (by rw [docDigs_len]; exact h)]
  simp [docDigs]
theorem bitsL_le (l : List W32) (n : Nat) (h : l.length ≤ n) : bitsL l ≤ 32 * (n : Int) := by
  obtain ⟨B, hB, hBl⟩ := bitsL_nat l
  omega

set_option maxRecDepth 100000 in
set_option maxHeartbeats 400000 in
theorem ref_of5 (l : List UInt8) (w : World) (hs : l.length ≤ 512) :
    Calls Tryz.prog 41 #[.string (bs l)] w fun e w' => Below w.heap.size w w' ∧ ∃ A c, e = .returned (.tuple #[.slice A (numDigs l).length c, .int .i64 0]) ∧ (numDigs l).length ≤ c ∧ DigsAt w.heap.size w' A (numDigs l) := by
  have hsz := bs_size l
  have hD : (docDigs l).length = (l.length + 3) / 4 := docDigs_len l
  have hN := doc_trim l
  generalize numDigs l = N at hN ⊢
  have HD := Lib.hid hD; have HN := Lib.hid hN
  clear hD hN
  go_enter Tryz.func41, Tryz.ntmps41
  go_wp2_with fail
  go_loopw [4, 5] (fun v z wr => ∃ (i : Nat) (zi : Int), i ≤ (l.length + 3) / 4 ∧ z = .int .i64 zi ∧ Hid (zi = (l.length : Int) - 4 * (i : Int)) ∧ Hid (OwnW w.heap.size v ((docDigs l).take i) wr ∧ Below w.heap.size w wr ∧ w.heap.size ≤ wr.heap.size)) (fun _ z _ => (intOf z + 4).toNat)
  case atStart => exact ⟨0, l.length, Nat.zero_le _, rfl, Lib.hid (by omega), Lib.hid ⟨OwnW.nil _ _, Below.refl _ _, Nat.le_refl _⟩⟩
  case round =>
    obtain ⟨i, zi, hi, rfl, hz, hS⟩ := hrel
    by_cases hlt : i < (l.length + 3) / 4
    · obtain ⟨k, rfl⟩ : ∃ k : Nat, zi = (k : Int) := ⟨zi.toNat, by have := hz.out; omega⟩
      have hk0 : decide (0 < k) = true := by have := hz.out; exact decide_eq_true (by omega)
      have hkl : (k : Int) ≤ 512 := by have := hz.out; omega
      have hkl2 : (k : Int) ≤ (l.length : Int) := by have := hz.out; omega
      obtain ⟨j0, hj0, hj0e⟩ : ∃ j0 : Nat, max (0 : Int) ((k : Int) - 4) = (j0 : Int) ∧ j0 = k - 4 := ⟨k - 4, by omega, rfl⟩
      have hp0 : partN l i (4 + j0 - k) = 0 := by
        by_cases h4 : 4 ≤ k
        · rw [show 4 + j0 - k = 0 by omega]; rfl
        · have := hz.out; exact partN_zero l i _ (by omega) (by omega)
      have HJ := Lib.hid hj0e; have HI := Lib.hid hi; have HLT := Lib.hid hlt; have HP0 := Lib.hid hp0
      clear hj0e hi hlt hp0
      repeat (first | (fail) | go_values | go_skip | go_guarded | go_step | go_upon | go_back)
      go_loopw [6, 7] (fun d z wi => ∃ (n j E : Nat), d = .int .u32 (E : Int) ∧ z = .int .i64 j ∧ Hid (E = partN l i n) ∧ j ≤ k ∧ Hid (j + 4 = k + n ∧ n ≤ 4) ∧ Hid (wi = wr)) (fun _ z _ => k - (intOf z).toNat)
      case atStart =>
        refine ⟨4 + j0 - k, j0, 0, rfl, rfl, Lib.hid HP0.out.symm, by have := HJ.out; omega, Lib.hid (by have := HJ.out; omega), Lib.hid rfl⟩
      case round =>
        obtain ⟨n, j, E, rfl, rfl, hE, hj, hn, hw⟩ := hrel
        by_cases hjk : j < k
        · have hn3 : n ≤ 3 := by have := hn.out; omega
          have hx : ∀ h, (bs l)[j]'h = l.getD j 0 := fun h => bs_get _ _ h
          have hrb : rb l (4 * i + 3 - n) = (l.getD j 0).toNat := by
            have h1 := hz.out; have h2 := hn.out
            rw [rb, if_pos (by omega), show l.length - 1 - (4 * i + 3 - n) = j by omega]
          have hEl : (E : Int) < 16777216 := by
            have h1 := partN_lt l i n
            rw [← hE.out] at h1
            have h2 : 2 ^ (8 * n) ≤ 2 ^ 24 := Nat.pow_le_pow_right (by omega) (by omega)
            omega
          have hnx : partN l i (n + 1) = E * 256 + (l.getD j 0).toNat := by rw [partN, hrb, ← hE.out]
          have hxl := (l.getD j 0).toNat_lt
          have hjl : (j : Int) < (l.length : Int) := by omega
          have hjki : (j : Int) < (k : Int) := by omega
          generalize l.getD j 0 = x at hx hnx hxl
          have HNX := Lib.hid hnx
          clear hnx hrb hE
          repeat (first | (fail) | go_values | go_skip | go_guarded | go_step | go_upon | go_back)
          go_roundw
          case rel => exact ⟨n + 1, j + 1, E * 256 + x.toNat, by go_num, by go_num, Lib.hid HNX.out.symm, by omega, Lib.hid (by have := hn.out; omega), hw⟩
          case measure => simp [intOf]; omega
        · obtain rfl : j = k := by omega
          obtain rfl : n = 4 := by have := hn.out; omega
          have hw' := hw.out
          subst hw'
          have hEl : E < 4294967296 := by
            have h1 := partN_lt l i 4
            rw [← hE.out] at h1
            omega
          obtain ⟨x, hx, hxe⟩ : ∃ x : W32, (E : Int) = wd x ∧ x = BitVec.ofNat 32 E := ⟨BitVec.ofNat 32 E, by simp [wd]; omega, rfl⟩
          have hnx : (docDigs l).take (i + 1) = (docDigs l).take i ++ [x] := by rw [docDigs_take l i HLT.out, hxe, hE.out]
          have hjj : ¬ ((j : Int) < (j : Int)) := by omega
          have HNX := Lib.hid hnx
          have hlen : ((docDigs l).take i).length ≤ 1000000 := by
            have := HD.out; rw [List.length_take]; omega
          have HL := Lib.hid hlen
          rw [hx]
          clear hx hxe hE hnx hlen hEl hw hn hj
          repeat (first | ((at_builtin; go_loud (refine ownW_append hS.out.1 hS.out.2.1 hS.out.2.2 x HL.out rfl _ _ rfl _ 1 1 rfl rfl rfl rfl ?_); refine Lib.hid ?_)) | go_values | go_skip | go_guarded | go_step | go_upon | go_back)
          intro v1 w1 a1 a2 a3
          rw [← HNX.out] at a1
          have A1 := Lib.hid (And.intro a1 (And.intro a2 a3))
          clear a1 a2 a3 hS
          repeat (first | (fail) | go_values | go_skip | go_guarded | go_step | go_upon | go_back)
          go_roundw
          case rel => exact ⟨i + 1, (j : Int) - 4, HLT.out, rfl, Lib.hid (by have := hz.out; omega), A1⟩
          case measure => simp [intOf]; omega
    · obtain rfl : i = (l.length + 3) / 4 := by omega
      have hz0 : ¬ (0 < zi) := by have := hz.out; omega
      obtain ⟨hO, hB, hle⟩ := hS.out
      rw [List.take_of_length_le (by rw [HD.out]; exact Nat.le_refl _)] at hO
      obtain ⟨A, c, rfl, hc, hA⟩ := hO.digs
      have hdl : (docDigs l).length ≤ 128 := by have := HD.out; omega
      have htr := ref_trim A c (docDigs l) wr hc (by omega) w.heap.size hA
      have hlN := trimL_len (docDigs l)
      have hle2 := trimN_le (docDigs l) (docDigs l).length
      have hAN : DigsAt w.heap.size wr A N := by rw [← HN.out, trimL]; exact hA.take _
      rw [HN.out] at hlN
      rw [← hlN] at htr hle2
      have hbi := ref_bits A c N wr (by omega) (by omega) w.heap.size hAN
      have hb4 := bitsL_le N 128 (by omega)
      generalize bitsL N = b at hbi hb4
      have hb5 : ¬ ((4096 : Int) < b) := by omega
      have HT := Lib.hid htr; have HBI := Lib.hid hbi; have HA := Lib.hid hAN; have HB := Lib.hid hB
      have HC := Lib.hid (Nat.le_trans hle2 hc)
      clear htr hbi hAN hA hB hle2 hlN hc hdl hb4 hS hO hle hz hi hlt
      repeat (first | (go_at_call 77; refine HT.out.mono ?_; rintro e w1 ⟨rfl, rfl⟩; simp only []) | (go_at_call 21; refine HBI.out.mono ?_; rintro e w2 ⟨rfl, rfl⟩; simp only []) | go_values | go_skip | go_guarded | go_step | go_upon | go_back)
      go_ret2
      exact ⟨HB.out, A, c, rfl, HC.out, HA.out⟩
end Go.Proofs.YtdmfbcfhfopipaaGreatDoor
