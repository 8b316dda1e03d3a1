/- digest.Sum1, walked. -/
import Derived.Test.YtdmfbcfhfopipaaGreatDoorSha1
import Derived.Test.YtdmfbcfhfopipaaGreatDoorSum2
namespace Go.Proofs.YtdmfbcfhfopipaaGreatDoor
open Go.RowKit

def H160 : List W32 := [0x67452301, 0xefcdab89, 0x98badcfe, 0x10325476, 0xc3d2e1f0]
theorem H160_enc : (#[.int .u32 1732584193, .int .u32 4023233417, .int .u32 2562383102, .int .u32 271733878, .int .u32 3285377520] : Array Value) = encW H160 := rfl
def sha1 (l : List UInt8) : List W32 := foldB comp1 ((padL l).length / 64) H160 (padL l)
def sum160 (l : List UInt8) : List UInt8 := tellW (sha1 l)
theorem sha1_len (l : List UInt8) : (sha1 l).length = 5 := foldB_len _ comp1_len _ _ _
theorem sum160_len (l : List UInt8) : (sum160 l).length = 20 := by rw [sum160, tellW_len, sha1_len]

structure I1 (w : World) (hb : Nat) (st : List W32) (W : World) : Prop where
  len : st.length = 5
  h : Blk W hb (encW st) 189
  below : Below w.heap.size w W
theorem callFunc_sha1 (args : Array Value) (W : World) : (callFunc 151 args).run Tryz.prog W = .ok (.enter 151 args) W := by kernel_rfl

theorem blocks_sha1 (s : ByteArray) (w W : World) (hb : Nat) (hs : s.size ≤ 9223372036854775000) (h1 : w.heap.size ≤ hb) (h0 : I1 w hb H160 W) :
    Calls Tryz.prog 81 #[.string s, .func (.func 151) #[] #[.pointer (some ⟨hb, 0, none⟩)]] W fun e W' => e = .returned (.tuple #[]) ∧ I1 w hb (sha1 s.data.toList) W' := by
  refine blocks_any comp1 (I1 w hb) _ _ (hb + 1) s W H160 hs ?_ h0.h.lt callFunc_sha1 ?_ h0
  · intro st W W' h hb
    exact ⟨h.len, h.h.below hb (by omega), h.below.trans (hb.mono (by omega))⟩
  · intro st bl W h hl
    refine (sha1_block st bl hb _ W h.len hl h.h).mono ?_
    rintro e W' ⟨rfl, h3, h4⟩
    exact ⟨rfl, ⟨(comp1_len st bl).trans h.len, h3, h.below.trans (h4.belowOf h1 h.below.size)⟩, h3.lt⟩
theorem sum1_start (w : World) : I1 w w.heap.size H160 (w.alloc (.cells (encW H160) 189)) := ⟨rfl, Blk.new w _ _, (Below.refl w.heap.size w).alloc (Nat.le_refl _) _⟩
theorem sum1_tell {w w2 : World} {l : List UInt8} (h : I1 w w.heap.size (sha1 l) w2) :
    Calls Tryz.prog 85 #[.slice (some ⟨w.heap.size, 0, none⟩) 5 5] w2 fun e w3 => e = .returned (.string (bs (sum160 l))) ∧ Below w.heap.size w w3 := by
  have := tell_any (sha1 l) w.heap.size 5 _ w2 (by rw [sha1_len]; omega) h.h
  rw [sha1_len] at this
  exact this.mono fun e w3 k => ⟨k.1, h.below.trans (k.2.mono h.below.size)⟩

set_option maxRecDepth 100000 in
set_option maxHeartbeats 1000000 in
theorem sum160_any (s : ByteArray) (w : World) (hs : s.size ≤ 9223372036854775000) : Calls Tryz.prog 61 #[.string s] w fun e w' => e = .returned (.string (bs (sum160 s.data.toList))) ∧ Below w.heap.size w w' := by
  go_enter Tryz.func61, Tryz.ntmps61
  go_wp2_with (first
    | (go_at_call 81; rw [H160_enc]; refine (blocks_sha1 s w _ _ hs (Nat.le_refl _) (sum1_start w)).mono ?_; rintro e w2 ⟨rfl, hI⟩; replace hI := Lib.hid hI)
    | (go_at_call 85; refine (sum1_tell hI.out).mono ?_; rintro e w3 ⟨rfl, hB3⟩; replace hB3 := Lib.hid hB3))
  go_ret
  exact ⟨rfl, hB3.out⟩
end Go.Proofs.YtdmfbcfhfopipaaGreatDoor
