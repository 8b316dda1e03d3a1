/- digest.Sum256, walked: the digest of a text's bytes. -/
import Derived.Test.YtdmfbcfhfopipaaGreatDoorSha2
import Derived.Test.YtdmfbcfhfopipaaGreatDoorBlocks
namespace Go.Proofs.YtdmfbcfhfopipaaGreatDoor
open Go.RowKit

def H256 : List W32 := [0x6a09e667, 0xbb67ae85, 0x3c6ef372, 0xa54ff53a, 0x510e527f, 0x9b05688c, 0x1f83d9ab, 0x5be0cd19]
theorem H256_enc : (#[.int .u32 1779033703, .int .u32 3144134277, .int .u32 1013904242, .int .u32 2773480762, .int .u32 1359893119, .int .u32 2600822924, .int .u32 528734635, .int .u32 1541459225] : Array Value) = encW H256 := rfl
def sha2 (l : List UInt8) : List W32 := foldB comp2 ((padL l).length / 64) H256 (padL l)
def sum256 (l : List UInt8) : List UInt8 := tellW (sha2 l)
theorem foldB_len (f : List W32 → List W32 → List W32) (h : ∀ a b, (f a b).length = a.length) (n : Nat) (st : List W32) (l : List UInt8) : (foldB f n st l).length = st.length := by
  induction n generalizing st l with
  | zero => rfl
  | succ n ih => rw [foldB_succ, ih, h]
theorem sha2_len (l : List UInt8) : (sha2 l).length = 8 := foldB_len _ comp2_len _ _ _
theorem sum256_len (l : List UInt8) : (sum256 l).length = 32 := by rw [sum256, tellW_len, sha2_len]

structure I2 (w : World) (hb kb : Nat) (st : List W32) (W : World) : Prop where
  len : st.length = 8
  h : Blk W hb (encW st) 124
  k : Blk W kb (encW K256) 125
  below : Below w.heap.size w W

theorem callFunc_sha2 (args : Array Value) (W : World) : (callFunc 82 args).run Tryz.prog W = .ok (.enter 82 args) W := by kernel_rfl

theorem blocks_sha2 (s : ByteArray) (w W : World) (hb kb : Nat) (hs : s.size ≤ 9223372036854775000) (h1 : w.heap.size ≤ hb) (h2 : hb < kb) (h0 : I2 w hb kb H256 W) :
    Calls Tryz.prog 81 #[.string s, .func (.func 82) #[] #[.pointer (some ⟨hb, 0, none⟩), .pointer (some ⟨kb, 0, none⟩)]] W fun e W' => e = .returned (.tuple #[]) ∧ I2 w hb kb (sha2 s.data.toList) W' := by
  refine blocks_any comp2 (I2 w hb kb) _ _ (kb + 1) s W H256 hs ?_ h0.k.lt callFunc_sha2 ?_ h0
  · intro st W W' h hb
    exact ⟨h.len, h.h.below hb (by omega), h.k.below hb (by omega), h.below.trans (hb.mono (by omega))⟩
  · intro st bl W h hl
    refine (sha2_block st bl hb kb _ _ W h.len hl h.h h.k (by omega)).mono ?_
    rintro e W' ⟨rfl, h3, h4⟩
    have hk' := h.k.only h4 (by omega)
    exact ⟨rfl, ⟨(comp2_len st bl).trans h.len, h3, hk', h.below.trans (h4.belowOf h1 h.below.size)⟩, hk'.lt⟩

theorem sum2_lt {w w1 : World} {o : Obj} (h : Below (w.alloc o).heap.size (w.alloc o) w1) : w.heap.size < w1.heap.size := by have := h.size; simp at this; omega
theorem sum2_start {w w1 : World} (h : Below (w.alloc (.cells (encW H256) 124)).heap.size (w.alloc (.cells (encW H256) 124)) w1) : I2 w w.heap.size w1.heap.size H256 (w1.alloc (.cells (encW K256) 125)) := by
  have hl := sum2_lt h
  refine ⟨rfl, ((Blk.new w _ _).below h (by simp)).alloc _, Blk.new w1 _ _, ?_⟩
  exact (((Below.refl w.heap.size w).alloc (Nat.le_refl _) _).trans (h.mono (by simp))).alloc (by omega) _
theorem sum2_tell {w w2 : World} {kb : Nat} {l : List UInt8} (h : I2 w w.heap.size kb (sha2 l) w2) :
    Calls Tryz.prog 85 #[.slice (some ⟨w.heap.size, 0, none⟩) 8 8] w2 fun e w3 => e = .returned (.string (bs (sum256 l))) ∧ Below w.heap.size w w3 := by
  have := tell_any (sha2 l) w.heap.size 8 _ w2 (by rw [sha2_len]; omega) h.h
  rw [sha2_len] at this
  exact this.mono fun e w3 k => ⟨k.1, h.below.trans (k.2.mono h.below.size)⟩

set_option maxRecDepth 100000 in
set_option maxHeartbeats 1000000 in
theorem sum256_any (s : ByteArray) (w : World) (hs : s.size ≤ 9223372036854775000) : Calls Tryz.prog 48 #[.string s] w fun e w' => e = .returned (.string (bs (sum256 s.data.toList))) ∧ Below w.heap.size w w' := by
  go_enter Tryz.func48, Tryz.ntmps48
  go_wp2_with (first
    | (go_at_call 80; rw [H256_enc]; refine (keys_any _).mono ?_; rintro e w1 ⟨rfl, hB1⟩; replace hB1 := Lib.hid hB1)
    | (refine wpList_alloc rfl 125 rfl (.agg (encW (List.replicate 64 0))) (fun w => by kernel_rfl) ?_)
    | (refine wpList_store_row rfl 125 _ _ rfl w1.heap.size (encW K256) rfl rfl 125 (encW (List.replicate 64 0)) (Blk.new w1 _ _) info_K256 rfl K256_ones ?_; rw [show (w1.alloc (.cells (Value.agg (encW (List.replicate 64 0))).cells 125)).setRow w1.heap.size (encW K256) = w1.alloc (.cells (encW K256) 125) from World.setRow_alloc_new _ _ _ _])
    | (go_at_call 81; refine (blocks_sha2 s w _ _ _ hs (Nat.le_refl _) (sum2_lt hB1.out) (sum2_start hB1.out)).mono ?_; rintro e w2 ⟨rfl, hI⟩; replace hI := Lib.hid hI)
    | (go_at_call 85; refine (sum2_tell hI.out).mono ?_; rintro e w3 ⟨rfl, hB3⟩; replace hB3 := Lib.hid hB3))
  go_ret
  exact ⟨rfl, hB3.out⟩
end Go.Proofs.YtdmfbcfhfopipaaGreatDoor
