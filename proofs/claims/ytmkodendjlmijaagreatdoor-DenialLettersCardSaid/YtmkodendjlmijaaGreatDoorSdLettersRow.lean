import Derived.Test.YtmkodendjlmijaaGreatDoorSd5
import Derived.Test.YtmkodendjlmijaaGreatDoorSd1
import Derived.Test.YtmkodendjlmijaaGreatDoorSd6
import Derived.Test.YtmkodendjlmijaaGreatDoorSd7
import Derived.Test.YtmkodendjlmijaaGreatDoorRows
import Derived.Test.YtmkodendjlmijaaGreatDoorTie
import Derived.Test.YtmkodendjlmijaaGreatDoorCards
import Derived.ProofKit
import Derived.OpenShut
import Derived.LaidMore
import Derived.Lay
import Derived.SevenTiedAt
import Derived.Stop.Joined
/- name.Cased: a name with great and small letters. -/
namespace Go.Proofs.YtmkodendjlmijaaGreatDoor
open Go.RowKit Go.Shelf
attribute [local go_sem] Oper.semAt_some

theorem cells_of_cell {W : World} {g j : Nat} {v : Value} (h : W.cell? ⟨g, j, none⟩ = some v) : ∃ cs ty fr, W.heap[g]? = some (.cells cs ty fr) := by
  unfold World.cell? at h
  split at h
  · rename_i c a b hq; exact ⟨c, a, b, hq⟩
  · cases h
theorem BytesAt.kept {W W' : World} {row : Option Nat} {g : Nat} {t : ByteArray} (h : BytesAt W g t) (hg : W.grownBy W' row) (hrow : ∀ r, row = some r → ∃ o : Obj, W.heap[r]? = some o ∧ o.isCells = false) : BytesAt W' g t := fun j hj => by
  obtain ⟨cs, ty, fr, hq⟩ := cells_of_cell (h j hj).1
  have e : W'.heap[g]? = W.heap[g]? := hg.block g (Array.getElem?_eq_some_iff.1 hq).1 (fun e => by
    obtain ⟨o, ho, hc⟩ := hrow g e.symm
    rw [hq] at ho; cases ho; simp [Obj.isCells] at hc)
  have := h j hj
  simpa only [World.cell?, World.frozen?, e] using this
theorem BytesAt.other {W : World} {g : Nat} {t : ByteArray} (h : BytesAt W g t) {p : Addr} (hp : g ≠ p.block) (v : Value) : BytesAt (W.setCell p v) g t := fun j hj => by
  have e : (W.setCell p v).heap[g]? = W.heap[g]? := heap_setCell_other _ _ _ _ hp
  have := h j hj
  simpa only [World.cell?, World.frozen?, e] using this
/-- t is s in other letters. -/
def CaseOf (s t : ByteArray) : Prop := t.size = s.size ∧ ∀ j, j < s.size → smallB (byt t j) = byt s j
theorem and63 (k : Int) : ∃ m : Nat, bits .and .i64 k 63 = (m : Int) ∧ m < 64 := by
  refine ⟨(BitVec.ofInt 64 k &&& 63#64).toNat, ?_, ?_⟩
  · show IntKind.i64.wrap ((BitVec.ofInt 64 k &&& 63#64).toNat : Int) = _
    have : (BitVec.ofInt 64 k &&& 63#64).toNat < 64 := by rw [BitVec.toNat_and, show (63#64).toNat = 2 ^ 6 - 1 from rfl, Nat.and_two_pow_sub_one_eq_mod]; omega
    exact IntWalk.i64_in _ (by omega)
  · rw [BitVec.toNat_and, show (63#64).toNat = 2 ^ 6 - 1 from rfl, Nat.and_two_pow_sub_one_eq_mod]; omega
theorem and1 (k : Int) : ∃ q : Int, bits .and .u64 k 1 = q ∧ (q = 0 ∨ q = 1) := by
  refine ⟨((BitVec.ofInt 64 k &&& 1#64).toNat : Int), ?_, ?_⟩
  · show IntKind.u64.wrap ((BitVec.ofInt 64 k &&& 1#64).toNat : Int) = _
    rw [IntKind.wrap_u64]
    have : (BitVec.ofInt 64 k &&& 1#64).toNat < 2 := by rw [BitVec.toNat_and, show (1#64).toNat = 2 ^ 1 - 1 from rfl, Nat.and_two_pow_sub_one_eq_mod]; omega
    omega
  · have : (BitVec.ofInt 64 k &&& 1#64).toNat < 2 := by rw [BitVec.toNat_and, show (1#64).toNat = 2 ^ 1 - 1 from rfl, Nat.and_two_pow_sub_one_eq_mod]; omega
    omega
set_option maxRecDepth 10000 in
theorem case_byte (b : UInt8) (h : 97 ≤ b.toNat ∧ b.toNat ≤ 122) (q : Int) (hq : q = 0 ∨ q = 1) : ∃ nb : UInt8, bits .andNot .u8 (b.toNat : Int) (q * 32) = (nb.toNat : Int) ∧ smallB nb = b := by
  have key : ∀ n : Fin 256, 97 ≤ n.val → n.val ≤ 122 → (bits .andNot .u8 (n.val : Int) 0 = (n.val : Int) ∧ smallB (UInt8.ofNat n.val) = UInt8.ofNat n.val) ∧ bits .andNot .u8 (n.val : Int) 32 = ((n.val - 32 : Nat) : Int) ∧ smallB (UInt8.ofNat (n.val - 32)) = UInt8.ofNat n.val := by decide +kernel
  obtain ⟨⟨k1, k2⟩, k3, k4⟩ := key ⟨b.toNat, b.toNat_lt⟩ h.1 h.2
  simp only [UInt8.ofNat_toNat] at k2 k4
  change bits .andNot .u8 (b.toNat : Int) 32 = ((b.toNat - 32 : Nat) : Int) at k3
  rcases hq with rfl | rfl
  · exact ⟨b, by rw [show (0 : Int) * 32 = 0 from rfl]; exact k1, k2⟩
  · refine ⟨UInt8.ofNat (b.toNat - 32), ?_, k4⟩
    rw [show (1 : Int) * 32 = 32 from rfl, k3, UInt8.toNat_ofNat']
    have := b.toNat_lt
    omega
/-- What the loops of Cased keep. -/
structure CsSt (s low : ByteArray) (cap : Nat) (bits0 : Int) (w : World) (g B : Nat) (W : World) : Prop where
  row : ∃ t, BytesAt W g t ∧ CaseOf low t
  b : Blk W B #[.slice (some ⟨g, 0, none⟩) s.size cap] 57
  k : ∃ k : Int, Blk W (B + 1) #[.int .i64 k] 3
  bits : Blk W w.heap.size #[.int .u64 bits0] 32
  below : Below w.heap.size w W
  size : B ≤ W.heap.size
theorem CsSt.grown {s low : ByteArray} {cap : Nat} {bits0 : Int} {w W W' : World} {g B C : Nat} {row : Option Nat} (h : CsSt s low cap bits0 w g B W) (hg : W.grownBy W' row) (hr : ∀ r, row = some r → C ≤ r ∧ ∃ o : Obj, W.heap[r]? = some o ∧ o.isCells = false) (hC : w.heap.size ≤ C) : CsSt s low cap bits0 w g B W' := by
  have hr2 : ∀ r, row = some r → ∃ o : Obj, W.heap[r]? = some o ∧ o.isCells = false := fun r e => (hr r e).2
  obtain ⟨t, h1, h2⟩ := h.row
  obtain ⟨k, h3⟩ := h.k
  exact ⟨⟨t, h1.kept hg hr2, h2⟩, h.b.kept hg hr2, ⟨k, h3.kept hg hr2⟩, h.bits.kept hg hr2, h.below.grown hg h.below.size (fun k e => Nat.le_trans hC (hr k e).1), Nat.le_trans h.size hg.size⟩
theorem CsSt.put {s low : ByteArray} {cap : Nat} {bits0 : Int} {w W : World} {g B : Nat} (h : CsSt s low cap bits0 w g B W) (n : Nat) {t : ByteArray} {kk : Int} (hrow : BytesAt W g t) (hct : CaseOf low t) (hkk : Blk W (B + 1) #[.int .i64 kk] 3) (j : Nat) (hj : j < t.size) (nb : UInt8) (hnb : smallB nb = byt t j) (v : Int) (hgB : g < B) (hlt : w.heap.size < g) (_ : low.size = s.size) :
    CsSt s low cap bits0 w g B (((W.drewN n).setCell ⟨g, j, none⟩ (.int .u8 (nb.toNat : Int))).setCell ⟨B + 1, 0, none⟩ (.int .i64 v)) := by
  have hr2 : BytesAt ((W.drewN n).setCell ⟨g, j, none⟩ (.int .u8 (nb.toNat : Int))) g (bset t j nb) := BytesAt.set (w := W.drewN n) hrow j nb hj
  refine ⟨⟨bset t j nb, hr2.other (by simp; omega) _, by rw [size_bset]; exact hct.1, fun i hi => ?_⟩, ?_, ⟨v, ?_⟩, ?_, ?_, by simpa using h.size⟩
  · rw [byt_bset _ _ _ _ hj]
    split
    · rename_i e
      subst e
      have h1 := hct.2 j hi
      rw [hnb]
      rw [← h1]
      have h2 : smallB (smallB (byt t j)) = smallB (byt t j) := smallB_smallB _
      rw [← hnb, smallB_smallB]
    · exact hct.2 i hi
  · exact (Blk.other (w := W.drewN n) h.b (by simp; omega) _).other (by simp) _
  · have := (Blk.other (w := W.drewN n) (p := ⟨g, j, none⟩) hkk (by simp; omega) (.int .u8 (nb.toNat : Int))).set 0 (.int .i64 v)
    simpa using this
  · exact (Blk.other (w := W.drewN n) h.bits (by simp; omega) _).other (by simp; omega) _
  · exact (Below.setCell (w := W.drewN n) (p := ⟨g, j, none⟩) ⟨h.below.os, h.below.tape, h.below.output, h.below.size, h.below.block⟩ (by simp; omega) _).setCell (p := ⟨B + 1, 0, none⟩) (by simp; omega) _
set_option maxRecDepth 100000 in
set_option maxHeartbeats 1000000 in
theorem cased_in (s low : ByteArray) (bits0 : Int) (w : World) (h1 : ∀ w, Calls Tryz.prog 12 #[.string s] w fun e w' => e = .returned (.bool true) ∧ Below w.heap.size w w') (h2 : ∀ w, Calls Tryz.prog 25 #[.string s] w fun e w' => e = .returned (.string low) ∧ Below w.heap.size w w')
    (h255 : s.size ≤ 255) (hls : low.size = s.size) (hlow : ∀ j, j < s.size → smallB (byt low j) = byt low j) (hb0 : 0 ≤ bits0) (hb1 : bits0 < 18446744073709551616) :
    CallsIn Fence.wide 4 Tryz.prog 14 #[.string s, .int .u64 bits0] w fun e w' => (∃ t, e = .returned (.tuple #[.string t, .int .i64 0]) ∧ CaseOf low t) ∧ Below w.heap.size w w' := by
  have H1 := Lib.hid h1; have H2 := Lib.hid h2; have HLO := Lib.hid hlow
  clear h1 h2 hlow
  have hcv := conv_string_bytes
  have hro : Fence.wide.round = none := rfl
  have hn1 : 1 ≤ 4 := by omega
  refine callsIn_of_wp_marks Tryz.func14 rfl trivial ?_ hro
  simp only [Tryz.ntmps14, List.size_toArray, List.length_cons, List.length_nil, Nat.reduceAdd, Nat.reduceSub, Array.replicate_succ, Array.replicate_zero, List.push_toArray, List.append_toArray, List.nil_append, List.cons_append]
  gi_wp2_with (first
    | (refine ⟨trivial, ?_⟩; gi_at_call 32; refine (callsIn_wide.2 (labels_any _ _)).mono ?_; rintro e w' ⟨rfl, rfl⟩)
    | (refine ⟨trivial, ?_⟩; gi_at_call 12; refine (callsIn_wide.2 (H1.out _)).mono ?_; rintro e w1 ⟨rfl, hB1⟩)
    | (refine ⟨trivial, ?_⟩; gi_at_call 25; refine (callsIn_wide.2 (H2.out _)).mono ?_; rintro e w2 ⟨rfl, hB2⟩))
  have hrow := BytesAt.new w2 low
  have hWz := Lib.bytesWorld_size w2 5 low
  have hbw := below_bytesWorld w2 5 low
  have hge := grownCap_ge w2 s.size 0 5
  generalize grownCap w2 s.size 0 5 = cap at *
  generalize Lib.bytesWorld w2 5 low = WB at *
  obtain ⟨B, hB⟩ : ∃ B, WB.heap.size = B := ⟨_, rfl⟩
  rw [hB]
  have kb : Blk w2 w.heap.size #[.int .u64 bits0] 32 := ((Blk.new w _ _).below hB1 (by simp)).below hB2 (by have := hB1.size; simp at this; omega)
  have b12 : Below w.heap.size w w2 := ((Below.refl _ w).alloc (Nat.le_refl _) _).trans ((hB1.trans (hB2.mono hB1.size)).mono (by simp))
  have hlt2 : w.heap.size < w2.heap.size := kb.lt
  obtain ⟨W0, hW0⟩ : ∃ W0, W0 = ((WB.alloc (.cells #[.slice (some ⟨w2.heap.size, 0, none⟩) s.size cap] 57)).alloc (.cells #[.int .i64 0] 3)).alloc (.cells #[.string s] 9) := ⟨_, rfl⟩
  have bl0 : Below WB.heap.size WB W0 := by
    rw [hW0]
    exact (((Below.refl _ WB).alloc (Nat.le_refl _) _).alloc (by simp) _).alloc (by simp; omega) _
  have st0 : CsSt s low cap bits0 w w2.heap.size B W0 := by
    refine ⟨⟨low, (hrow.below bl0 (by omega)), rfl, fun j hj => ?_⟩, ?_, ⟨0, ?_⟩, (kb.below hbw kb.lt).below bl0 (by omega), ?_, by rw [← hB]; exact bl0.size⟩
    · have := HLO.out j (by omega); rw [this]
    · rw [hW0, ← hB]
      exact ((Blk.new WB _ _).alloc _).alloc _
    · rw [hW0, ← hB]
      have := (Blk.new (WB.alloc (.cells #[.slice (some ⟨w2.heap.size, 0, none⟩) s.size cap] 57)) #[.int .i64 0] 3).alloc (.cells #[.string s] 9)
      simpa using this
    · exact (b12.trans (hbw.mono b12.size)).trans (bl0.mono (by omega))
  have e3 : Blk W0 (B + 1 + 1) #[.string s] 9 := by
    rw [hW0, ← hB]
    have := Blk.new ((WB.alloc (.cells #[.slice (some ⟨w2.heap.size, 0, none⟩) s.size cap] 57)).alloc (.cells #[.int .i64 0] 3)) #[.string s] 9
    simpa using this
  have hW0z : W0.heap.size = B + 1 + 1 + 1 := by rw [hW0, ← hB]; simp
  have hgB : w2.heap.size < B := by omega
  rw [← hW0]
  clear hrow hbw kb b12 bl0 hB1 hB2 H1 H2 hcv hW0 HLO
  refine wpIn_rangeFunc_ownF (α := Lab s) (ps := #[20, 21]) hro hn1 (gf := 60) (lb := #[.pointer (some ⟨B + 1 + 1, 0, none⟩)]) rfl trivial (enters_of Tryz.func60 (by kernel_rfl) rfl)
    (labels1_stops Fence.wide 3 trivial hro (by omega) (B + 1 + 1) s _ (by omega) e3) keepsBlk_t keepsBlk_b (Below.refl _ _) (fun _ => rfl)
    (fun _ W => CsSt s low cap bits0 w w2.heap.size B W)
    (fun _ _ _ => False)
    (fun _ A B' row hs hg hr => hs.grown hg hr (by omega))
    (fun _ _ _ _ _ hs _ _ => hs)
    st0
    (fun x => { tmps := #[.string s, .int .u64 bits0, undef, .pointer (some ⟨w.heap.size, 0, none⟩), .string ⟨#[]⟩, .int .i64 0, .pointer (some ⟨B, 0, none⟩), .pointer (some ⟨B + 1, 0, none⟩), .int .i64 (x.1.1 : Int), .string x.1.2, undef, undef, .string s, .bool true, .bool false, .string s, .string low, .slice (some ⟨w2.heap.size, 0, none⟩) s.size cap, .string s, .func (.func 60) #[] #[.pointer (some ⟨B + 1 + 1, 0, none⟩)], .int .i64 (x.1.1 : Int), .string x.1.2, undef, undef, undef, undef, undef, undef, undef, undef, undef, undef, undef, undef, undef, undef, undef, undef, undef, undef, undef, undef, undef, undef, undef, undef, undef, undef, undef, undef, undef, undef, undef, undef, undef, undef, undef, undef, undef, undef], defers := [] }) ?assign ?body ?done ?stop
  case assign =>
    intro l x W K hK
    simp only [encLab]
    gi_wp2
    exact hK
  case body =>
    rintro l pre x W hst _
    have hx := (labels_le s x.1 x.2).1
    have HST := Lib.hid hst
    clear hst
    gi_wp2
    gi_loopw [10, 11, 24] (fun _ _ i wr => ∃ k : Nat, k ≤ x.1.2.size ∧ i = .int .i64 k ∧ Hid (CsSt s low cap bits0 w w2.heap.size B wr ∧ KeepsOthers W wr ∧ KeepsBlk (B + 1 + 1) W wr)) (fun _ _ i _ => x.1.2.size - (intOf i).toNat)
    case atStart => exact ⟨0, Nat.zero_le _, rfl, Lib.hid ⟨HST.out, KeepsOthers.refl _, KeepsBlk.refl _ _⟩⟩
    case round =>
      obtain ⟨k, hk, rfl, hS⟩ := hrel
      by_cases hlt : k < x.1.2.size
      · obtain ⟨hSt, hKo, hKb⟩ := hS.out
        obtain ⟨t, hrow, hct⟩ := hSt.row
        obtain ⟨kk, hkk⟩ := hSt.k
        have hks : x.1.1 + 1 + k < s.size := by omega
        have hus : x.1.1 + 1 + k < t.size := by have := hct.1; omega
        have d0 := hSt.b.cell 0
        have d1 := hkk.cell 0
        have d2 := hSt.bits.cell 0
        have f1 := hkk.free 0
        have d3 := (hrow _ hus).1
        have f3 := (hrow _ hus).2
        have q1 : (0 : Int) ≤ (x.1.1 : Int) + 1 + (k : Int) := by omega
        have q2 : (x.1.1 : Int) + 1 + (k : Int) < (s.size : Int) := by omega
        have r1 : IntKind.i64.wrap ((x.1.1 : Int) + 1) = (x.1.1 : Int) + 1 := IntWalk.i64_in _ (by omega)
        have r2 : IntKind.i64.wrap ((x.1.1 : Int) + 1 + (k : Int)) = (x.1.1 : Int) + 1 + (k : Int) := IntWalk.i64_in _ (by omega)
        have hti : ((x.1.1 : Int) + 1 + (k : Int)).toNat = x.1.1 + 1 + k := by omega
        generalize hbb : byt t (x.1.1 + 1 + k) = b at *
        have hb8 := b.toNat_lt
        clear hS
        by_cases h97 : 97 ≤ b.toNat ∧ b.toNat ≤ 122
        · obtain ⟨m, hm, hm64⟩ := and63 kk
          obtain ⟨q, hq, h01⟩ := and1 (bits0 / 2 ^ m)
          have c1 : (97 : Int) ≤ (b.toNat : Int) := by omega
          have c2 : (b.toNat : Int) ≤ 122 := by omega
          have hmix : Tryz.prog.follows .mixedOrders = true := by kernel_rfl
          have hmm : min m 64 = m := by omega
          obtain ⟨nb, hnb1, hnb2⟩ := case_byte b h97 q h01
          have HC := Lib.hid (show CsSt s low cap bits0 w w2.heap.size B wr ∧ KeepsOthers W wr ∧ KeepsBlk (B + 1 + 1) W wr ∧ BytesAt wr w2.heap.size t ∧ CaseOf low t ∧ Blk wr (B + 1) #[.int .i64 kk] 3 ∧ smallB nb = b ∧ byt t (x.1.1 + 1 + k) = b from ⟨hSt, hKo, hKb, hrow, hct, hkk, hnb2, hbb⟩)
          have hw1 : IntKind.u8.wrap q = q := IntWalk.u8_in _ (by omega)
          have hw2 : IntKind.u8.wrap (q * 32) = q * 32 := IntWalk.u8_in _ (by omega)
          clear hSt hKo hKb hrow hct hkk hnb2 hbb h97 h01
          gi_wp2
          refine wpIn_draw (openRound l _ _) 12 (C := Drawn wr) hmix (by kernel_rfl) (by kernel_rfl) (by kernel_rfl) (by simp) ⟨1, rfl⟩ ?_
          simp only [List.take_succ_cons, List.take_zero, List.drop_succ_cons, List.drop_zero]
          repeat (go_big_quiet_step (fail))
          refine wpQuiet_nil ?_
          intro _ hw'
          obtain ⟨nq, hw''⟩ := hw'
          subst hw''
          gi_wp2
          go_roundw
          case rel =>
            obtain ⟨hSt, hKo, hKb, hrow, hct, hkk, hnb2, hbb⟩ := HC.out
            refine ⟨k + 1, by omega, by go_num, Lib.hid ⟨hSt.put nq hrow hct hkk _ hus nb (by rw [hnb2, hbb]) _ hgB hlt2 hls, ?_, ?_⟩⟩
            · exact hKo.trans (KeepsOthers.trans (show KeepsOthers wr (wr.drewN nq) from ⟨Nat.le_refl _, fun _ _ h _ => h⟩) ((KeepsOthers.setCell _ _ _).trans (KeepsOthers.setCell _ _ _)))
            · exact keepsBlk_t hKb (keepsBlk_t (show KeepsBlk _ wr (wr.drewN nq) from fun _ _ h => h) (keepsBlk_t (KeepsBlk.set _ _ _ (by simp; omega)) (KeepsBlk.set _ _ _ (by simp))))
          case measure => simp [intOf]; omega
        · have HC := Lib.hid (show CsSt s low cap bits0 w w2.heap.size B wr ∧ KeepsOthers W wr ∧ KeepsBlk (B + 1 + 1) W wr from ⟨hSt, hKo, hKb⟩)
          clear hSt hKo hKb hrow hct hkk hbb
          by_cases h1 : 97 ≤ b.toNat
          · have c1 : (97 : Int) ≤ (b.toNat : Int) := by omega
            have c2 : (122 : Int) < (b.toNat : Int) := by omega
            clear h97 h1
            gi_wp2
            go_roundw
            case rel => exact ⟨k + 1, by omega, by go_num, HC⟩
            case measure => simp [intOf]; omega
          · have c1 : (b.toNat : Int) < 97 := by omega
            clear h97 h1
            gi_wp2
            go_roundw
            case rel => exact ⟨k + 1, by omega, by go_num, HC⟩
            case measure => simp [intOf]; omega
      · obtain rfl : k = x.1.2.size := by omega
        gi_wp2
        exact ⟨hS.out.2.1, hS.out.2.2, hS.out.1⟩
  case done =>
    rintro D ys W hD hS hst hK
    obtain ⟨t, hrow, hct⟩ := hst.row
    have d0 := hst.b.cell 0
    have hcs := hrow.string s.size cap (by rw [hct.1, hls])
    have HC := Lib.hid hct; have HB := Lib.hid hst.below
    clear hrow hct hst hS
    gi_wp2
    refine ⟨by simp, .inl ⟨_, _, rfl, run_takeDeferred hK, ?_⟩⟩
    exact ⟨_, results_tmp2 rfl _ _ _, ⟨t, rfl, HC.out⟩, HB.out.trans (belowK_b (w := w) (Nat.le_refl _) W D _ _ (by omega) hK rfl rfl)⟩
  case stop =>
    rintro D c pre W _ _ h _
    exact h.elim
theorem size_nameLower' (x : ByteArray) : (nameLower x).size = x.size := by
  unfold nameLower
  split
  · exact size_lowS x
  · rfl
theorem CaseOf.low {s t : ByteArray} (hr : nameRight s = true) (h : CaseOf (nameLower s) t) : nameRight t = true ∧ nameLower t = nameLower s := by
  have e : lowS t = nameLower s := bytes_ext (by rw [size_lowS]; exact h.1) (fun j hj => by
    rw [size_lowS] at hj
    rw [byt_lowS t j hj]
    exact h.2 j (by rw [← h.1]; exact hj))
  have hrt : nameRight t = true := by rw [← right_lowS, e, right_lower, hr]
  exact ⟨hrt, by rw [nameLower, if_pos hrt, e]⟩
/-- What name.Cased tells: the name in other letters, or none. -/
def CasedP (s : ByteArray) (w : World) (e : Ending) (w' : World) : Prop :=
  Below w.heap.size w w' ∧ ∃ t x, e = .returned (.tuple #[.string t, .int .i64 x]) ∧ (nameRight s = true → nameRight t = true ∧ nameLower t = nameLower s ∧ x = 0) ∧ (nameRight s = false → t = ⟨#[]⟩ ∧ x = 2)
theorem name_cased (s : ByteArray) (bits0 : Int) (w : World) (hb0 : 0 ≤ bits0) (hb1 : bits0 < 18446744073709551616) : Calls Tryz.prog 14 #[.string s, .int .u64 bits0] w (CasedP s w) := by
  cases hr : nameRight s with
  | true =>
    have h1 := fun w => name_right s w
    have h2 := fun w => name_lower s w
    rw [hr] at h1
    have hsz := (right_size0 hr).2
    refine (callsIn_wide.1 (cased_in s (nameLower s) bits0 w h1 h2 hsz (size_nameLower' s) (fun j hj => ?_) hb0 hb1)).mono ?_
    · rw [nameLower, if_pos hr, byt_lowS s j hj, smallB_smallB]
    · rintro e w' ⟨⟨t, he, hc⟩, hb⟩
      exact ⟨hb, t, 0, he, fun _ => ⟨(hc.low hr).1, (hc.low hr).2, rfl⟩, fun h => by rw [hr] at h; cases h⟩
  | false =>
    have h1 := fun w => name_right s w
    rw [hr] at h1
    have HR := Lib.hid h1
    have HQ := Lib.hid hr
    clear h1 hr
    go_enter Tryz.func14, Tryz.ntmps14
    go_wp2_with (go_at_call 12; refine (HR.out _).mono ?_; rintro e w1 ⟨rfl, hb1⟩)
    go_ret2
    exact ⟨((Below.refl _ w).alloc (Nat.le_refl _) _).trans (hb1.mono (by simp)), _, _, rfl, ⟨fun h => (by rw [HQ.out] at h; cases h), fun _ => ⟨rfl, rfl⟩⟩⟩
end Go.Proofs.YtmkodendjlmijaaGreatDoor

/- DenialLetters, walked: true. -/
namespace Go.Proofs.YtmkodendjlmijaaGreatDoor
open Go.RowKit

theorem hashR_same {n t salt : ByteArray} (r : Int) (h1 : nameRight t = nameRight n) (h2 : nameLower t = nameLower n) : hashR t salt r = hashR n salt r := by rw [hashR, hashR, h1, h2]
theorem hashR_err (n salt : ByteArray) (r : Int) (h : nameRight n = false) : hashR n salt r = (⟨#[]⟩, 2) := if_pos h
theorem hashR_len (n salt : ByteArray) (r : Int) : (hashR n salt r).2 ≠ 0 ∨ (hashR n salt r).1.size = 20 := by
  rw [hashR]
  split
  · left; simp
  · split
    · left; simp
    · split
      · left; simp
      · right
        show (hashIt salt r.toNat (sumB _ salt)).size = 20
        exact hashIt_size _ _ _ (sumB_size _ _)
theorem hash_two (n salt : ByteArray) (q : Int) (w : World) : Calls Tryz.prog 8 #[.string n, .string salt, .int .i64 q] w fun e w' => Below w.heap.size w w' ∧ ∃ h x, e = .returned (.tuple #[.string h, .int .i64 x]) ∧ Hid ((h, x) = hashR n salt q) :=
  (den_hash n salt q w).mono fun e w' h => ⟨h.2, _, _, h.1, Lib.hid rfl⟩
set_option maxRecDepth 100000 in
set_option maxHeartbeats 2000000 in
theorem letters_any (n salt : ByteArray) (rounds bits0 : Int) (w : World) (hr : -9223372036854775808 ≤ rounds ∧ rounds ≤ 9223372036854775807) (hb : 0 ≤ bits0 ∧ bits0 ≤ 18446744073709551615) :
    Calls Tryz.prog 5 #[.string n, .string salt, .int .i64 rounds, .int .u64 bits0] w fun e w' => e = .returned (.bool true) ∧ Below w.heap.size w w' := by
  have h1 := fun w => name_right n w
  have h2 := fun W => name_cased n bits0 W hb.1 (by omega)
  have HX := Lib.hid examples_any
  obtain ⟨nr, hnr⟩ : ∃ b, nameRight n = b := ⟨_, rfl⟩
  rw [hnr] at h1
  have HQ := Lib.hid hnr
  have HR := Lib.hid h1; have HC := Lib.hid h2
  have bl := Below.refl w.heap.size w
  clear h1 h2 hb hnr
  obtain ⟨hr1, hr2⟩ := hr
  by_cases hneg : rounds < 0
  · have q1 : decide (rounds < 0) = true := decide_eq_true hneg
    obtain ⟨r, hrr⟩ : ∃ r : Nat, -(rounds + 1) = (r : Int) := ⟨(-(rounds + 1)).toNat, by omega⟩
    have hrb : (r : Int) ≤ 9223372036854775807 := by omega
    have q2 : IntKind.i64.wrap (rounds + 1) = rounds + 1 := IntWalk.i64_in _ (by omega)
    have q3 : IntKind.i64.wrap (r : Int) = (r : Int) := IntWalk.i64_in _ (by omega)
    cases nr with
    | true =>
      go_enter Tryz.func5, Tryz.ntmps5
      go_wp2_with (go_at_call 7; refine (Hid.out (p := _) ?_))
      refine Lib.hid ?_
      refine (HX.out _).mono ?_
      rintro e w1 ⟨rfl, hb⟩
      replace bl := bl.trans (hb.mono bl.size)
      clear hb
      simp only []
      go_wp2_with (go_at_call 14; refine (Hid.out (p := _) ?_))
      refine Lib.hid ?_
      refine (HC.out _).mono ?_
      rintro e w2 ⟨hb, t, x, rfl, ht⟩
      replace bl := bl.trans (hb.mono bl.size)
      have HT := Lib.hid ht
      clear hb ht
      simp only []
      go_wp2_with (go_at_call 8; refine (Hid.out (p := _) ?_))
      refine Lib.hid ?_
      refine (hash_two n salt _ _).mono ?_
      rintro e w3 ⟨hb, h, y, rfl, hp⟩
      replace bl := bl.trans (hb.mono bl.size)
      clear hb
      simp only []
      go_wp2_with (go_at_call 8; refine (Hid.out (p := _) ?_))
      refine Lib.hid ?_
      refine (hash_two t salt _ _).mono ?_
      rintro e w4 ⟨hb, k, z, rfl, hq⟩
      replace bl := bl.trans (hb.mono bl.size)
      clear hb
      simp only []
      go_wp2_with (go_at_call 12; refine (Hid.out (p := _) ?_))
      refine Lib.hid ?_
      refine (HR.out _).mono ?_
      rintro e w5 ⟨rfl, hb⟩
      replace bl := bl.trans (hb.mono bl.size)
      clear hb
      simp only []
      have hrt := HQ.out
      have hkz : (k, z) = (h, y) := hq.out.trans ((hashR_same _ ((HT.out.1 hrt).1.trans hrt.symm) (HT.out.1 hrt).2.1).trans hp.out.symm)
      obtain ⟨rfl, rfl⟩ : k = h ∧ z = y := by injection hkz with a b; exact ⟨a, b⟩
      have hlen : z ≠ 0 ∨ k.size = 20 := by
        exact Eq.mpr (congrArg (fun p : ByteArray × Int => p.2 ≠ 0 ∨ p.1.size = 20) hp.out) (hashR_len n salt _)
      have e1 : (k.toList == k.toList) = true := beq_self_eq_true _
      clear hp hq hkz HT hrt
      by_cases hz : z = 0
      · have e2 : (z != 0) = false := by rw [hz]; rfl
        have e3 : ((k.size : Int) == 20) = true := beq_iff_eq.2 (by have := hlen.resolve_left (fun h => h hz); omega)
        clear hz hlen
        go_wp2_with fail
        go_ret
        exact ⟨rfl, bl⟩
      · have e2 : (z != 0) = true := by rw [bne_iff_ne]; exact hz
        clear hz hlen
        go_wp2_with fail
        go_ret
        exact ⟨rfl, bl⟩
    | false =>
      go_enter Tryz.func5, Tryz.ntmps5
      go_wp2_with (go_at_call 7; refine (Hid.out (p := _) ?_))
      refine Lib.hid ?_
      refine (HX.out _).mono ?_
      rintro e w1 ⟨rfl, hb⟩
      replace bl := bl.trans (hb.mono bl.size)
      clear hb
      simp only []
      go_wp2_with (go_at_call 14; refine (Hid.out (p := _) ?_))
      refine Lib.hid ?_
      refine (HC.out _).mono ?_
      rintro e w2 ⟨hb, t, x, rfl, ht⟩
      replace bl := bl.trans (hb.mono bl.size)
      have HT := Lib.hid ht
      clear hb ht
      simp only []
      go_wp2_with (go_at_call 8; refine (Hid.out (p := _) ?_))
      refine Lib.hid ?_
      refine (hash_two n salt _ _).mono ?_
      rintro e w3 ⟨hb, h, y, rfl, hp⟩
      replace bl := bl.trans (hb.mono bl.size)
      clear hb
      simp only []
      go_wp2_with (go_at_call 8; refine (Hid.out (p := _) ?_))
      refine Lib.hid ?_
      refine (hash_two t salt _ _).mono ?_
      rintro e w4 ⟨hb, k, z, rfl, hq⟩
      replace bl := bl.trans (hb.mono bl.size)
      clear hb
      simp only []
      go_wp2_with (go_at_call 12; refine (Hid.out (p := _) ?_))
      refine Lib.hid ?_
      refine (HR.out _).mono ?_
      rintro e w5 ⟨rfl, hb⟩
      replace bl := bl.trans (hb.mono bl.size)
      clear hb
      simp only []
      have hnr := HQ.out
      have hhy := hp.out
      rw [hashR_err n salt _ hnr] at hhy
      obtain ⟨rfl, rfl⟩ : h = ⟨#[]⟩ ∧ y = 2 := by injection hhy with a b; exact ⟨a, b⟩
      clear hhy hnr hp hq HT
      go_wp2_with fail
      go_ret
      exact ⟨rfl, bl⟩
  · have q1 : decide (rounds < 0) = false := decide_eq_false hneg
    cases nr with
    | true =>
      go_enter Tryz.func5, Tryz.ntmps5
      go_wp2_with (go_at_call 7; refine (Hid.out (p := _) ?_))
      refine Lib.hid ?_
      refine (HX.out _).mono ?_
      rintro e w1 ⟨rfl, hb⟩
      replace bl := bl.trans (hb.mono bl.size)
      clear hb
      simp only []
      go_wp2_with (go_at_call 14; refine (Hid.out (p := _) ?_))
      refine Lib.hid ?_
      refine (HC.out _).mono ?_
      rintro e w2 ⟨hb, t, x, rfl, ht⟩
      replace bl := bl.trans (hb.mono bl.size)
      have HT := Lib.hid ht
      clear hb ht
      simp only []
      go_wp2_with (go_at_call 8; refine (Hid.out (p := _) ?_))
      refine Lib.hid ?_
      refine (hash_two n salt _ _).mono ?_
      rintro e w3 ⟨hb, h, y, rfl, hp⟩
      replace bl := bl.trans (hb.mono bl.size)
      clear hb
      simp only []
      go_wp2_with (go_at_call 8; refine (Hid.out (p := _) ?_))
      refine Lib.hid ?_
      refine (hash_two t salt _ _).mono ?_
      rintro e w4 ⟨hb, k, z, rfl, hq⟩
      replace bl := bl.trans (hb.mono bl.size)
      clear hb
      simp only []
      go_wp2_with (go_at_call 12; refine (Hid.out (p := _) ?_))
      refine Lib.hid ?_
      refine (HR.out _).mono ?_
      rintro e w5 ⟨rfl, hb⟩
      replace bl := bl.trans (hb.mono bl.size)
      clear hb
      simp only []
      have hrt := HQ.out
      have hkz : (k, z) = (h, y) := hq.out.trans ((hashR_same _ ((HT.out.1 hrt).1.trans hrt.symm) (HT.out.1 hrt).2.1).trans hp.out.symm)
      obtain ⟨rfl, rfl⟩ : k = h ∧ z = y := by injection hkz with a b; exact ⟨a, b⟩
      have hlen : z ≠ 0 ∨ k.size = 20 := by
        exact Eq.mpr (congrArg (fun p : ByteArray × Int => p.2 ≠ 0 ∨ p.1.size = 20) hp.out) (hashR_len n salt _)
      have e1 : (k.toList == k.toList) = true := beq_self_eq_true _
      clear hp hq hkz HT hrt
      by_cases hz : z = 0
      · have e2 : (z != 0) = false := by rw [hz]; rfl
        have e3 : ((k.size : Int) == 20) = true := beq_iff_eq.2 (by have := hlen.resolve_left (fun h => h hz); omega)
        clear hz hlen
        go_wp2_with fail
        go_ret
        exact ⟨rfl, bl⟩
      · have e2 : (z != 0) = true := by rw [bne_iff_ne]; exact hz
        clear hz hlen
        go_wp2_with fail
        go_ret
        exact ⟨rfl, bl⟩
    | false =>
      go_enter Tryz.func5, Tryz.ntmps5
      go_wp2_with (go_at_call 7; refine (Hid.out (p := _) ?_))
      refine Lib.hid ?_
      refine (HX.out _).mono ?_
      rintro e w1 ⟨rfl, hb⟩
      replace bl := bl.trans (hb.mono bl.size)
      clear hb
      simp only []
      go_wp2_with (go_at_call 14; refine (Hid.out (p := _) ?_))
      refine Lib.hid ?_
      refine (HC.out _).mono ?_
      rintro e w2 ⟨hb, t, x, rfl, ht⟩
      replace bl := bl.trans (hb.mono bl.size)
      have HT := Lib.hid ht
      clear hb ht
      simp only []
      go_wp2_with (go_at_call 8; refine (Hid.out (p := _) ?_))
      refine Lib.hid ?_
      refine (hash_two n salt _ _).mono ?_
      rintro e w3 ⟨hb, h, y, rfl, hp⟩
      replace bl := bl.trans (hb.mono bl.size)
      clear hb
      simp only []
      go_wp2_with (go_at_call 8; refine (Hid.out (p := _) ?_))
      refine Lib.hid ?_
      refine (hash_two t salt _ _).mono ?_
      rintro e w4 ⟨hb, k, z, rfl, hq⟩
      replace bl := bl.trans (hb.mono bl.size)
      clear hb
      simp only []
      go_wp2_with (go_at_call 12; refine (Hid.out (p := _) ?_))
      refine Lib.hid ?_
      refine (HR.out _).mono ?_
      rintro e w5 ⟨rfl, hb⟩
      replace bl := bl.trans (hb.mono bl.size)
      clear hb
      simp only []
      have hnr := HQ.out
      have hhy := hp.out
      rw [hashR_err n salt _ hnr] at hhy
      obtain ⟨rfl, rfl⟩ : h = ⟨#[]⟩ ∧ y = 2 := by injection hhy with a b; exact ⟨a, b⟩
      clear hhy hnr hp hq HT
      go_wp2_with fail
      go_ret
      exact ⟨rfl, bl⟩
end Go.Proofs.YtmkodendjlmijaaGreatDoor

/- DenialLetters: letters in names change nothing of their hashes, and each hash has 20 bytes. Proved for every name, salt, number of rounds and bits: the row and its tied card. -/
namespace Go.Proofs.YtmkodendjlmijaaGreatDoor
open Go.ChangeShapes Go.WideShapes Go.ChangeAt Go.RowKit

theorem ownDenialLetters : ownKnob Tryz.prog.godebug = none := by kernel_rfl
theorem bdDenialLetters {n : Int} (h : (Lit.int .i64 n).wf = true) : -9223372036854775808 ≤ n ∧ n ≤ 9223372036854775807 := by
  simp only [Lit.wf, Bool.and_eq_true, decide_eq_true_eq] at h
  have e1 : IntKind.i64.min = -9223372036854775808 := by decide
  have e2 : IntKind.i64.max = 9223372036854775807 := by decide
  omega
theorem buDenialLetters {n : Int} (h : (Lit.int .u64 n).wf = true) : 0 ≤ n ∧ n ≤ 18446744073709551615 := by
  simp only [Lit.wf, Bool.and_eq_true, decide_eq_true_eq] at h
  have e1 : IntKind.u64.min = 0 := by decide
  have e2 : IntKind.u64.max = 18446744073709551615 := by decide
  omega
set_option maxRecDepth 100000 in
theorem liftedDenialLetters (os : Os) (started : os.Started) (H : Type) (enc : TypeId × Value → H) :
    ReturnsInHanded {} Tryz.checked os 5 .any (fun w args => (Rows.denialLettersSpec.pre enc Tryz.prog Tryz.f5 [] false w args ∧ laidMetH Tryz.prog Rows.denialLettersRow.laid w) ∧ sizedMet enc Tryz.prog Tryz.f5 (OpenSpec.ofChange Rows.denialLettersSpec) false w args)
      (Rows.denialLettersSpec.post enc Tryz.prog Tryz.f5 false true false false) := by
  refine returnsInHanded_of_change_and (C := Tryz.checked) (X := fun w _ => laidMetH Tryz.prog Rows.denialLettersRow.laid w) (fun _ _ _ hh h => h.of_heap hh) ownDenialLetters started (by kernel_rfl) Tryz.func5
    (ChangeSpec.witness_shaped (enc := enc) (C := Tryz.checked) (os := os) (X := fun w _ => laidMetH Tryz.prog Rows.denialLettersRow.laid w) false (World.laidAll Tryz.prog os Rows.denialLettersRow.laid) #[.string ⟨#[]⟩, .string ⟨#[]⟩, .int .i64 0, .int .u64 0] 8 (World.laidAll_os _ _ _)
      (World.shaped_of_ZipB (by kernel_rfl) (by kernel_rfl)) (by kernel_rfl) (by kernel_rfl) (by kernel_rfl)
      (by rw [MakeChecks.laidMetH_plain _ _ _ (by kernel_rfl)]; exact laidMet_laidAll _ (by kernel_rfl) (by kernel_rfl))) ?_
  intro W base args ds gs before hval0 hW _ _ _ _
  have hval : ∀ (j : Nat) t v, Tryz.f5.params[j]? = some t → args[j]? = some v → Value.okWide Tryz.prog W .any base t v := hval0
  have hW' := hW
  obtain ⟨p, q, hA0, hV, rfl, _, _⟩ := hW
  have hA : DataW.TrodAll enc Tryz.prog W 0 (fun _ => true) true Tryz.f5.params.toList args.toList ds p := hA0
  rw [Tryz.params5] at hA hval
  obtain ⟨args⟩ := args
  obtain ⟨v0, r0, d0, ds0, p0, q0, ha0, hd0, hp0, h0, hA⟩ := trodAll_cons hA
  obtain ⟨v1, r1, d1, ds1, p1, q1, ha1, hd1, hp1, h1, hA⟩ := trodAll_cons hA
  obtain ⟨v2, r2, d2, ds2, p2, q2, ha2, hd2, hp2, h2, hA⟩ := trodAll_cons hA
  obtain ⟨v3, r3, d3, ds3, p3, q3, ha3, hd3, hp3, h3, hA⟩ := trodAll_cons hA
  obtain ⟨rfl, rfl, rfl⟩ := trodAll_nil hA
  obtain ⟨rfl, rfl⟩ := trodVars_none hV
  simp only [] at ha0
  subst ha3 ha2 ha1 ha0 hd3 hd2 hd1 hd0 hp3 hp2 hp1 hp0
  obtain ⟨s0, rfl, rfl, rfl, ws0⟩ := Go.ChangeMaps.open_string Tryz.underlying9 (hval 0 9 v0 rfl rfl) h0
  obtain ⟨s1, rfl, rfl, rfl, ws1⟩ := Go.ChangeMaps.open_string Tryz.underlying9 (hval 1 9 v1 rfl rfl) h1
  obtain ⟨s2, rfl, rfl, rfl, ws2⟩ := open_int Tryz.underlying3 (hval 2 3 v2 rfl rfl) h2
  obtain ⟨s3, rfl, rfl, rfl, ws3⟩ := open_int Tryz.underlying32 (hval 3 32 v3 rfl rfl) h3
  simp only [List.append_nil] at hW'
  refine (letters_any s0 s1 s2 s3 W (bdDenialLetters ws2) (buDenialLetters ws3)).mono fun e W' ⟨he, hB⟩ => ?_
  subst he
  refine ⟨_, rfl, _, _, _, [], [], [], hW', trodAll_mk1 (shut_bool Tryz.underlying4 _),
    trodAll_mk4 (Go.ChangeMaps.shut_string Tryz.underlying9 ws0) (Go.ChangeMaps.shut_string Tryz.underlying9 ws1) (shut_int Tryz.underlying3 ws2) (shut_int Tryz.underlying32 ws3), rfl, hB.frame _, fun h => by cases h⟩

theorem denialLetters_holds : Rows.DenialLettersSaid :=
  OpenClaim.holds_of_wide 5 Tryz.f5 rfl rfl rfl rfl rfl rfl rfl ⟨rfl, rfl, rfl, rfl, rfl⟩ rfl rfl rfl rfl rfl (by kernel_rfl) Tryz.func5 (by kernel_rfl)
    (of_decide_eq_true (by kernel_rfl)) (by unfold Func.isWrapper; first | (rw [if_pos (by decide +kernel)]; kernel_rfl) | (rw [if_neg (by decide +kernel)]; exact ⟨rfl, rfl⟩))
    (fun os started H enc _ => liftedDenialLetters os started H enc)
theorem denialLetters_card_holds : Rows.DenialLettersCardSaid :=
  Claim7.holds_tied_plain_at .later [] [.data, .data, .data, .data, .sentinel, .sentinel, .pinned] true (true, "78a266fe9d0711a0d9dab8bcb82e2238974444689a2fe5e8145701f4dd61ff3b") true denialLetters_holds (fun _ h => by cases h) (by kernel_rfl) (fun _ h => by cases h) denialLetters_row_tie rfl ⟨rfl, rfl⟩ (by kernel_rfl) rfl
    (fun f fn hf hfn => by
      obtain rfl : f = 5 := Option.some.inj ((show Tryz.prog.funcNamed "guidepost/guidepostlaw09.DenialLetters" = some 5 by kernel_rfl).symm.trans hf) |>.symm
      obtain rfl : fn = Tryz.f5 := (Option.some.inj (Tryz.func5.symm.trans hfn)).symm
      exact ⟨by kernel_rfl, fun j t ht => by
        rw [Tryz.params5] at ht
        have hm : t ∈ [9, 9, 3, 32] := by simpa using Array.mem_of_getElem? ht
        have hall : ([9, 9, 3, 32].all fun u => !Tryz.prog.wantsStandIn u) = true := by kernel_rfl
        exact (show Tryz.prog.wantsStandIn t = false by simpa using List.all_eq_true.1 hall t hm)⟩)
    (by kernel_rfl)
#print axioms denialLetters_holds
#print axioms denialLetters_card_holds
end Go.Proofs.YtmkodendjlmijaaGreatDoor

