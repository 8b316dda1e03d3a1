import Derived.Test.YtdmfbcfhfopipaaGreatDoorKV10
import Derived.Test.YtdmfbcfhfopipaaGreatDoorKV2
/- guidepostlaw06.examples, walked: true. -/
namespace Go.Proofs.YtdmfbcfhfopipaaGreatDoor
open Go.RowKit

def exA : ByteArray := ⟨#[1, 0, 3, 8, 1]⟩
def exB : ByteArray := ⟨#[1, 0, 3, 8, 1, 2]⟩
def exO : ByteArray := ⟨#[0]⟩
theorem ex_tag : keyRight exA = true ∧ tagOf exA = 1288 := by decide
theorem ex_of3 : keysOf exO exB 3 = (DsD.none, 1) := by decide
theorem ex_name : nameRight exO = true := by decide
theorem ex_rsa : rsaOf [1, 3, 255] = none := by decide
theorem ex_dig : keysDigest 2 exO exB = (bs (sum256 (lowS exO ++ exB).data.toList), 0) := by
  rw [keysDigest, if_neg (by omega), if_neg (by rw [ex_name]; simp), if_neg (by simp [show keyRight exB = true by decide])]
  rfl
theorem ex_of2 : keysOf exO exB 2 = (⟨tagOf exB, (keyOf exB).alg, 2, bs (sum256 (lowS exO ++ exB).data.toList)⟩, 0) := by rw [keysOf, ex_dig]; rfl
theorem ex_fits : fitsB exO exB (keysOf exO exB 2).1 = true := by
  have : (keysOf exO exB 2).1.kind = 2 := by rw [ex_of2]
  rw [fitsB, this, ex_of2]
  simp
set_option maxRecDepth 100000 in
set_option maxHeartbeats 1000000 in
theorem examples_any (w : World) : Calls Tryz.prog 9 #[] w fun e w' => e = .returned (.bool true) ∧ Below w.heap.size w w' := by
  have htag : ∀ w, Calls Tryz.prog 10 #[.string exA] w fun e w' => e = .returned (.tuple #[.int .i64 1288, .int .i64 0]) ∧ Below w.heap.size w w' := fun w => by
    have := key_tag exA w
    rw [ex_tag.1, ex_tag.2] at this
    exact this
  have hof3 := fun w => keys_of exO exB 3 w
  rw [ex_of3] at hof3
  have hrsa : ∀ w, Calls Tryz.prog 18 #[.string (bs [1, 3, 255])] w fun e w' => Below w.heap.size w w' ∧ e = .returned (.tuple #[zeroNat, zeroNat, .int .i64 8]) := fun w => by
    refine (rsa_one [1, 3, 255] w (by decide) (by decide) (by decide)).mono fun e w' h => ?_
    have h2 := h.2
    rw [ex_rsa] at h2
    exact ⟨h.1, h2⟩
  have hof2 := fun w => keys_of exO exB 2 w
  have hfit := fun w => keys_fits exO exB (keysOf exO exB 2).1 w
  rw [ex_fits] at hfit
  have hlen : (keysOf exO exB 2).1.dig.size = 32 := by rw [ex_of2]; exact (bs_size _).trans (sum256_len _)
  have herr : (keysOf exO exB 2).2 = 0 := by rw [ex_of2]
  rw [herr] at hof2
  generalize (keysOf exO exB 2).1 = x at hof2 hfit hlen
  obtain ⟨xt, xa, xk, xd⟩ := x
  simp only [DsD.v, DsD.cells, DsD.none, zeroNat] at hof2 hfit hof3 hrsa hlen
  have HT := Lib.hid htag; have H3 := Lib.hid hof3; have HR := Lib.hid hrsa; have H2 := Lib.hid hof2; have HF := Lib.hid hfit
  clear htag hof3 hrsa hof2 hfit herr
  go_enter Tryz.func9, Tryz.ntmps9
  go_wp2_with (first
    | (go_at_call 10; refine (HT.out _).mono ?_; rintro e w1 ⟨rfl, hB1⟩; replace hB1 := Lib.hid hB1)
    | (go_at_call 14; refine (Hid.out (p := _) ?_)))
  refine Lib.hid ?_
  refine (H3.out _).mono ?_
  rintro e w2 ⟨rfl, hB2⟩
  replace hB2 := Lib.hid hB2
  simp only []
  go_wp2_with (go_at_call 18; refine (Hid.out (p := _) ?_))
  refine Lib.hid ?_
  refine (HR.out _).mono ?_
  rintro e w3 ⟨hB3, rfl⟩
  replace hB3 := Lib.hid hB3
  simp only []
  go_wp2_with (go_at_call 14; refine (Hid.out (p := _) ?_))
  refine Lib.hid ?_
  refine (H2.out _).mono ?_
  rintro e w4 ⟨rfl, hB4⟩
  replace hB4 := Lib.hid hB4
  simp only []
  go_wp2_with (go_at_call 17; refine (Hid.out (p := _) ?_))
  refine Lib.hid ?_
  refine (HF.out _).mono ?_
  rintro e w5 ⟨rfl, hB5⟩
  replace hB5 := Lib.hid hB5
  simp only []
  go_wp2_with fail
  go_ret
  have b1 := hB1.out
  have b2 : Below w.heap.size w w2 := b1.trans (hB2.out.mono b1.size)
  have b3 := (b2.alloc b2.size (.cells #[.int .i64 0, .int .i64 0, .int .i64 0, .string ⟨#[]⟩] 23))
  have b4 := b3.trans (hB3.out.mono b3.size)
  have b5 := (b4.alloc b4.size (.cells #[.slice none 0 0] 45))
  have b6 := (b5.alloc b5.size (.cells #[.slice none 0 0] 45))
  have b7 := b6.trans (hB4.out.mono b6.size)
  have b8 := (b7.alloc b7.size (.cells #[.int .i64 xt, .int .i64 xa, .int .i64 xk, .string xd] 23))
  exact ⟨rfl, b8.trans (hB5.out.mono b8.size)⟩
end Go.Proofs.YtdmfbcfhfopipaaGreatDoor

