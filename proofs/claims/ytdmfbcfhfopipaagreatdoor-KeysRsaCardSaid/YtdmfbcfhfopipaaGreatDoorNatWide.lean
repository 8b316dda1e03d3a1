/- (number.Nat).Wide, where the bytes are enough. -/
import Derived.Test.YtdmfbcfhfopipaaGreatDoorRef5B
namespace Go.Proofs.YtdmfbcfhfopipaaGreatDoor
open Go.RowKit

theorem WideAt.more {l : List W32} {m k : Nat} {t : ByteArray} (h : WideAt l m k t) (h4 : 4 * l.length ≤ k) : ∀ n, k + n ≤ m → WideAt l m (k + n) t := by
  intro n
  induction n with
  | zero => intro _; exact h
  | succ n ih =>
    intro hn
    refine (ih (by omega)).skip (by omega) ?_
    rw [wideB, if_neg (by omega)]
theorem WideAt.end_ {l : List W32} {m : Nat} {t : ByteArray} (h : WideAt l m (min (4 * l.length) m) t) : t = wideS l m := by
  by_cases hc : 4 * l.length ≤ m
  · have h2 := h.more (by omega) (m - min (4 * l.length) m) (by omega)
    rw [show min (4 * l.length) m + (m - min (4 * l.length) m) = m by omega] at h2
    exact h2.all
  · rw [show min (4 * l.length) m = m by omega] at h
    exact h.all

set_option maxRecDepth 100000 in
set_option maxHeartbeats 400000 in
theorem nat_wide (v : Value) (l : List W32) (m : Nat) (w : World) (lo : Nat) (hv : NatV lo w v l) (hl : l.length ≤ 100000) (hm : m ≤ 1000000) (hfit : (bitsL l + 7) / 8 ≤ (m : Int)) :
    Calls Tryz.prog 28 #[v, .int .i64 m] w fun e w' => e = .returned (.tuple #[.string (wideS l m), .int .i64 0]) ∧ Below w.heap.size w w' := by
  have hbits := fun W (hb : Below w.heap.size w W) => nat_bits v l W lo (hv.below hb) (by omega)
  obtain ⟨A, c, rfl, hlc, hcm, hd⟩ := hv
  obtain ⟨B, hB, hBl⟩ := bitsL_nat l
  rw [hB] at hfit hbits
  obtain ⟨q, hq, hqm⟩ : ∃ q : Nat, ((B : Int) + 7) / 8 = (q : Int) ∧ q ≤ m := ⟨(B + 7) / 8, by omega, by omega⟩
  have hBb : (B : Int) ≤ 3200000 := by omega
  have hqi : ¬ ((m : Int) < (q : Int)) := by omega
  have hmk := fun w => run_make_row' 41 5 (.int .u8 0) 1 Tryz.underlying41 info_u8b rfl .i64 .i64 m (by omega) (by omega) w
  simp only [← zeroS_enc] at hmk
  have HBI := Lib.hid hbits; have HD := Lib.hid hd
  clear hbits hd hB hBl hfit hqm
  have hb0 : Below w.heap.size w (w.alloc (.cells #[.slice A l.length c] 45)) := (Below.refl _ w).alloc (Nat.le_refl _) _
  have hx0 : Blk (w.alloc (.cells #[.slice A l.length c] 45)) w.heap.size #[.slice A l.length c] 45 := Blk.new w _ _
  have c0 : (w.alloc (.cells #[.slice A l.length c] 45)).cell? ⟨w.heap.size, 0, none⟩ = some (.slice A l.length c) := hx0.cell 0
  have HB0 := Lib.hid hb0; have HX0 := Lib.hid hx0
  clear hb0 hx0
  go_enter Tryz.func28, Tryz.ntmps28
  go_wp2_with (go_at_call 40; refine (Hid.out (p := _) ?_))
  refine Lib.hid ?_
  clear c0
  refine (HBI.out _ HB0.out).mono ?_
  rintro e w1 ⟨rfl, hb⟩
  have hb1 := HB0.out.trans (hb.mono HB0.out.size)
  have hx1 := HX0.out.below hb HX0.out.lt
  have c1 : w1.cell? ⟨w.heap.size, 0, none⟩ = some (.slice A l.length c) := hx1.cell 0
  have hx2 := hx1.alloc (.cells (encS (zeroS m)) 5)
  have c2 : (w1.alloc (.cells (encS (zeroS m)) 5)).cell? ⟨w.heap.size, 0, none⟩ = some (.slice A l.length c) := hx2.cell 0
  have HB1 := Lib.hid hb1; have HX1 := Lib.hid hx1
  clear hb hb1 hx1 HB0 HX0 hx2
  simp only []
  repeat (first | (fail) | go_values | go_skip | go_guarded | go_step | go_upon | go_back)
  obtain ⟨g, hg⟩ : ∃ g, g = w1.heap.size := ⟨_, rfl⟩
  have hb2 : Blk (w1.alloc (.cells (encS (zeroS m)) 5)) g (encS (zeroS m)) 5 := by rw [hg]; exact Blk.new w1 _ _
  have hB2 := HB1.out.alloc HB1.out.size (.cells (encS (zeroS m)) 5)
  have hgl : w.heap.size ≤ g := by have := HB1.out.size; omega
  rw [show (⟨w1.heap.size, 0, none⟩ : Addr) = ⟨g, 0, none⟩ by rw [hg]]
  clear c2
  generalize w1.alloc (.cells (encS (zeroS m)) 5) = W2 at hb2 hB2 ⊢
  have H0 := Lib.hid (And.intro hb2 hB2)
  clear hb2 hB2 hmk hg c1 HB1 HX1
  go_loopw [27] (fun i wr => ∃ (n : Nat) (t : ByteArray), n ≤ l.length ∧ i = .int .i64 n ∧ Hid (WideAt l m (min (4 * n) m) t) ∧ Hid (Blk wr g (encS t) 5 ∧ Below w.heap.size w wr)) (fun i _ => l.length - (intOf i).toNat)
  case atStart => exact ⟨0, zeroS m, Nat.zero_le _, rfl, Lib.hid (by simpa using WideAt.start l m), H0⟩
  case round =>
    obtain ⟨n, t, hn, rfl, hW, hS⟩ := hrel
    by_cases hlt : n < l.length
    · obtain ⟨b, rfl, _, hbl, hcell⟩ : ∃ b, A = some ⟨b, 0, none⟩ ∧ lo ≤ b ∧ b < w.heap.size ∧ ∀ i, i < l.length → w.cell? ⟨b, i, none⟩ = some (.int .u32 (wd (l.getD i 0))) := by
        rcases HD.out with h | h
        · subst h; simp at hlt
        · exact h
      have hcb : wr.cell? ⟨b, n, none⟩ = some (.int .u32 (wd (l.getD n 0))) := by rw [hS.out.2.cell (p := ⟨b, n, none⟩) hbl]; exact hcell n hlt
      have hni : (n : Int) < (l.length : Int) := by omega
      generalize hx : l.getD n 0 = x at hcb
      have HX := Lib.hid hx
      clear hx hcell
      repeat (first | (fail) | go_values | go_skip | go_guarded | go_step | go_upon | go_back)
      clear hcb
      go_loopw [10] (fun i wr => ∃ (j : Nat) (t : ByteArray), 4 * n ≤ j ∧ j ≤ 4 * n + 4 ∧ i = .int .i64 j ∧ Hid (WideAt l m (min j m) t) ∧ Hid (Blk wr g (encS t) 5 ∧ Below w.heap.size w wr)) (fun i _ => 4 * n + 4 - (intOf i).toNat)
      case atStart => exact ⟨4 * n, t, by omega, by omega, by first | rfl | (congr 1), hW, hS⟩
      case round =>
        obtain ⟨j, t, hj1, hj2, rfl, hW, hS⟩ := hrel
        by_cases hin : j < 4 * n + 4 ∧ j < m
        · have t1 : (j : Int) < 4 * (n : Int) + 4 := by omega
          have t2 : (j : Int) < (m : Int) := by omega
          obtain ⟨sh, qs, es⟩ : ∃ sh : Nat, 8 * ((j : Int) % 4) = (sh : Int) ∧ sh = 8 * (j % 4) := ⟨8 * (j % 4), by omega, rfl⟩
          have hs32 : min sh 32 = sh := by omega
          obtain ⟨jj, qj, ej⟩ : ∃ jj : Nat, (m : Int) - 1 - (j : Int) = (jj : Int) ∧ jj = m - 1 - j := ⟨m - 1 - j, by omega, rfl⟩
          have hjm : (jj : Int) < (m : Int) := by omega
          have hwb : wideB l j = by8 (x >>> sh) := by rw [wideB, show j / 4 = n by omega, if_pos hlt, HX.out, es]
          have hW1 := hW.out
          rw [show min j m = j by omega] at hW1
          have hput := hW1.put hin.2
          rw [hwb, ← ej, show j + 1 = min (j + 1) m by omega] at hput
          have hshr := wd_shr x sh
          have hby := by8_int (x >>> sh)
          generalize by8 (x >>> sh) = y at hput hby
          have hcj : wr.cell? ⟨g, jj, none⟩ = some (.int .u8 ((byt t jj).toNat : Int)) := by rw [hS.out.1.cell jj, encS_get t jj (by rw [hW1.1]; omega)]
          have hfj := hS.out.1.free jj
          have HP := Lib.hid hput
          have hnx : Hid (Blk (wr.setCell ⟨g, jj, none⟩ (.int .u8 (y.toNat : Int))) g (encS (bset t jj y)) 5 ∧ Below w.heap.size w (wr.setCell ⟨g, jj, none⟩ (.int .u8 (y.toNat : Int)))) :=
            Lib.hid ⟨by rw [encS_bset]; exact hS.out.1.set jj _, hS.out.2.setCell (p := ⟨g, jj, none⟩) hgl _⟩
          clear hwb hput hW hS es ej hW1
          repeat (first | (fail) | go_values | go_skip | go_guarded | go_step | go_upon | go_back)
          go_roundw
          case rel => exact ⟨j + 1, _, by omega, by omega, by go_num, HP, hnx⟩
          case measure => simp [intOf]; omega
        · have hmin : min j m = min (4 * (n + 1)) m := by omega
          rw [hmin] at hW
          clear hmin
          by_cases h4 : j < 4 * n + 4
          · have t1 : (j : Int) < 4 * (n : Int) + 4 := by omega
            have t2 : ¬ ((j : Int) < (m : Int)) := by omega
            clear hin
            repeat (first | (fail) | go_values | go_skip | go_guarded | go_step | go_upon | go_back)
            go_roundw
            case rel => exact ⟨n + 1, t, by omega, by go_num, hW, hS⟩
            case measure => simp [intOf]; omega
          · have t1 : ¬ ((j : Int) < 4 * (n : Int) + 4) := by omega
            clear hin
            repeat (first | (fail) | go_values | go_skip | go_guarded | go_step | go_upon | go_back)
            go_roundw
            case rel => exact ⟨n + 1, t, by omega, by go_num, hW, hS⟩
            case measure => simp [intOf]; omega
    · obtain rfl : n = l.length := by omega
      have ht := hW.out.end_
      subst ht
      have hcs := conv_bytes_string wr g m m (wideS l m) hS.out.1 (wideS_size l m).symm
      clear hW
      repeat (first | (fail) | go_values | go_skip | go_guarded | go_step | go_upon | go_back)
      go_ret2
      exact ⟨rfl, hS.out.2⟩
end Go.Proofs.YtdmfbcfhfopipaaGreatDoor
