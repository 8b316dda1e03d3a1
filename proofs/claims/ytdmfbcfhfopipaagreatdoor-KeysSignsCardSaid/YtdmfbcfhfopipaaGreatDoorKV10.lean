import Derived.Test.YtdmfbcfhfopipaaGreatDoorKV6
import Derived.Test.YtdmfbcfhfopipaaGreatDoorKV9
import Derived.Test.YtdmfbcfhfopipaaGreatDoorKV1
import Derived.Recover
import Derived.Defers
import Derived.Laws.EntriesVeiled
import Derived.Test.YtdmfbcfhfopipaaGreatDoorKV5
/- keys.Verify. -/
namespace Go.Proofs.YtdmfbcfhfopipaaGreatDoor
open Go.RowKit

theorem blk_cat (k : Nat) (l : List UInt8) : ((⟨#[0, 1]⟩ : ByteArray) ++ bs (List.replicate k 255)) ++ bs (sigTail l) = bs ([0, 1] ++ List.replicate k 255 ++ sigTail l) := by
  rw [show (⟨#[0, 1]⟩ : ByteArray) = bs [0, 1] from rfl, bs_append, bs_append]
theorem bits_mono {m n a b : Nat} (ha : bitsL (nd m) = (a : Int)) (hb : bitsL (nd n) = (b : Int)) (h : m < n) : a ≤ b := by
  obtain ⟨a', h1, _, h2⟩ := bits_nd m
  obtain ⟨b', h3, h4, _⟩ := bits_nd n
  obtain rfl : a = a' := by omega
  obtain rfl : b = b' := by omega
  by_cases h0 : m = 0
  · subst h0
    rw [nd_zero] at ha
    simp [bitsL] at ha
    omega
  · obtain ⟨h5, h6⟩ := h2 h0
    have : a - 1 < b := (Nat.pow_lt_pow_iff_right (by omega : 1 < 2)).mp (Nat.lt_of_le_of_lt h6 (Nat.lt_trans h h4))
    omega
set_option maxRecDepth 100000 in
set_option maxHeartbeats 4000000 in
theorem keys_verify (p text sign : ByteArray) (w : World) (hp : p.size ≤ 9223372036854775807) (ht : text.size ≤ 9223372036854775000) (hs : sign.size ≤ 9223372036854775807) :
    Calls Tryz.prog 23 #[.string p, .string text, .string sign] w fun e w' => e = .returned (.bool (verifyB p.data.toList text.data.toList sign.data.toList)) ∧ Below w.heap.size w w' := by
  have h1 := fun w => rsa_all p w hp
  have hbs : bs sign.data.toList = sign := bs_toList sign
  have hsl : sign.data.toList.length = sign.size := by simp
  have hE := rsaE_nd p.data.toList
  have hN := rsaN_nd p.data.toList
  have hsm := rsa_small p.data.toList
  rw [hN] at hsm
  have HNL := Lib.hid (show (nd (rsaNum p.data.toList).2).length ≤ 1000000000000 by omega)
  rw [hE, hN] at h1
  have hsi : (sign.size : Int) ≤ 9223372036854775807 := by omega
  cases hg : rsaGood p.data.toList with
  | false =>
    rw [hg] at h1
    have hv := ver_bad (text := text.data.toList) (sign := sign.data.toList) hg
    rw [hv]
    simp only [Bool.false_eq_true, if_false] at h1
    obtain ⟨b, hb, _, hbl⟩ := bits_len (rsaNum p.data.toList).2
    have hbi : (b : Int) ≤ 100000 := by omega
    generalize (rsaNum p.data.toList).1 = E at *
    generalize (rsaNum p.data.toList).2 = N at *
    have H1 := Lib.hid h1; have HBB := Lib.hid hb
    clear h1 hbs hsl hE hN hg hv hsm hb hbl
    go_enter Tryz.func23, Tryz.ntmps23
    repeat (first | (go_at_call 18; refine (Hid.out (p := _) ?_)) | go_values | go_skip | go_guarded | go_step | go_upon | go_back)
    refine Lib.hid ?_
    refine (H1.out _).mono ?_
    rintro e w1 ⟨hb, v, u, rfl, hv, hu⟩
    obtain ⟨A, c, rfl, k1, k2, k3⟩ := hv
    obtain ⟨B, d, rfl, l1, l2, l3⟩ := hu
    obtain ⟨W2, hW2⟩ : ∃ W2, W2 = (w1.alloc (.cells #[.slice A (nd E).length c] 45)).alloc (.cells #[.slice B (nd N).length d] 45) := ⟨_, rfl⟩
    have xe : Blk W2 w1.heap.size #[.slice A (nd E).length c] 45 := by rw [hW2]; exact (Blk.new w1 _ _).alloc _
    have xn : Blk W2 (w1.heap.size + 1) #[.slice B (nd N).length d] 45 := by
      have := Blk.new (w1.alloc (.cells #[.slice A (nd E).length c] 45)) #[.slice B (nd N).length d] 45
      rw [hW2]; simpa using this
    have hq2 : Below w1.heap.size w1 W2 := by rw [hW2]; exact ((Below.refl _ w1).alloc (Nat.le_refl _) _).alloc (by simp) _
    have hB2 : Below w.heap.size w W2 := hb.trans (hq2.mono hb.size)
    have a1 : ((w1.alloc (.cells #[.slice A (nd E).length c] 45)).alloc (.cells #[.slice B (nd N).length d] 45)).cell? ⟨w1.heap.size + 1, 0, none⟩ = some (.slice B (nd N).length d) := by rw [← hW2]; exact xn.cell 0
    have hNE : NatV 0 W2 (.agg #[.slice A (nd E).length c]) (nd E) := ⟨A, c, rfl, k1, k2, (k3.below hq2).mono (Nat.zero_le _)⟩
    have hNN : NatV 0 W2 (.agg #[.slice B (nd N).length d]) (nd N) := ⟨B, d, rfl, l1, l2, (l3.below hq2).mono (Nat.zero_le _)⟩
    have hbt := nat_bits _ (nd N) W2 0 hNN HNL.out
    have HW2 := Lib.hid hW2; have XE := Lib.hid xe; have XN := Lib.hid xn; have HB2 := Lib.hid hB2; have HNE := Lib.hid hNE; have HNN := Lib.hid hNN; have HBT := Lib.hid hbt
    clear hb k1 k2 k3 l1 l2 l3 hW2 xe xn hq2 hB2 hNE hNN hbt H1
    simp only []
    repeat (first | (go_at_call 40; refine (Hid.out (p := _) ?_)) | go_values | go_skip | go_guarded | go_step | go_upon | go_back)
    refine Lib.hid ?_
    clear a1
    rw [← HW2.out]
    refine HBT.out.mono ?_
    rintro e w3 ⟨rfl, hb3⟩
    have B3 := Lib.hid hb3
    clear hb3 HBT HW2
    simp only []
    rw [HBB.out]
    repeat (first | (fail) | go_values | go_skip | go_guarded | go_step | go_upon | go_back)
    go_ret
    exact ⟨rfl, HB2.out.trans (B3.out.mono HB2.out.size)⟩
  | true =>
    rw [hg] at h1
    simp only [if_true] at h1
    obtain ⟨g1, g2, g3, b, g4, g5, g6, g7⟩ := rsa_good hg
    have hlen := ver_len (p := p.data.toList) (text := text.data.toList) (sign := sign.data.toList)
    have hbig := ver_big (p := p.data.toList) (text := text.data.toList) (sign := sign.data.toList)
    have hend := fun a c => ver_end (text := text.data.toList) (sign := sign.data.toList) hg a c
    have hsum := fun w => sum256_any text w ht
    have hblk : blockL text.data.toList (vMany p.data.toList) = [0, 1] ++ List.replicate (vMany p.data.toList - 54) 255 ++ sigTail text.data.toList := rfl
    generalize verifyB p.data.toList text.data.toList sign.data.toList = V at hlen hbig hend ⊢
    generalize vMany p.data.toList = M at *
    generalize (rsaNum p.data.toList).1 = E at *
    generalize (rsaNum p.data.toList).2 = N at *
    have hq : ((b : Int) + 7) / 8 = (M : Int) := by omega
    have hbi : (b : Int) ≤ 2048 := by omega
    have H1 := Lib.hid h1; have HEND := Lib.hid hend; have HSUM := Lib.hid hsum; have HB4 := Lib.hid g4; have HG := Lib.hid (And.intro g1 (And.intro g2 g3)); have HQ := Lib.hid (And.intro g7 (And.intro g5 g6)); have HBK := Lib.hid hblk
    by_cases hl : sign.size = M
    · have hno : ((sign.size : Int) != (M : Int)) = false := by rw [bne_eq_false_iff_eq]; omega
      have hof := fun W => of_bytes sign.data.toList W (by omega)
      rw [hbs, num_be] at hof
      have hle := be_len sign.data.toList (by omega)
      have HOF := Lib.hid hof; have HLE := Lib.hid hle; have HLL := Lib.hid (show sign.data.toList.length = M by omega)
      generalize be sign.data.toList = s at *
      clear h1 hend hsum g1 g2 g3 g4 g5 g6 g7 hof hle hbs hlen hE hN hsl hsm hblk
      rw [hl] at hno
      go_enter Tryz.func23, Tryz.ntmps23
      repeat (first | (go_at_call 18; refine (Hid.out (p := _) ?_)) | go_values | go_skip | go_guarded | go_step | go_upon | go_back)
      refine Lib.hid ?_
      refine (H1.out _).mono ?_
      rintro e w1 ⟨hb, v, u, rfl, hv, hu⟩
      obtain ⟨A, c, rfl, k1, k2, k3⟩ := hv
      obtain ⟨B, d, rfl, l1, l2, l3⟩ := hu
      obtain ⟨W2, hW2⟩ : ∃ W2, W2 = (w1.alloc (.cells #[.slice A (nd E).length c] 45)).alloc (.cells #[.slice B (nd N).length d] 45) := ⟨_, rfl⟩
      have xe : Blk W2 w1.heap.size #[.slice A (nd E).length c] 45 := by rw [hW2]; exact (Blk.new w1 _ _).alloc _
      have xn : Blk W2 (w1.heap.size + 1) #[.slice B (nd N).length d] 45 := by
        have := Blk.new (w1.alloc (.cells #[.slice A (nd E).length c] 45)) #[.slice B (nd N).length d] 45
        rw [hW2]; simpa using this
      have hq2 : Below w1.heap.size w1 W2 := by rw [hW2]; exact ((Below.refl _ w1).alloc (Nat.le_refl _) _).alloc (by simp) _
      have hB2 : Below w.heap.size w W2 := hb.trans (hq2.mono hb.size)
      have a1 : ((w1.alloc (.cells #[.slice A (nd E).length c] 45)).alloc (.cells #[.slice B (nd N).length d] 45)).cell? ⟨w1.heap.size + 1, 0, none⟩ = some (.slice B (nd N).length d) := by rw [← hW2]; exact xn.cell 0
      have hNE : NatV 0 W2 (.agg #[.slice A (nd E).length c]) (nd E) := ⟨A, c, rfl, k1, k2, (k3.below hq2).mono (Nat.zero_le _)⟩
      have hNN : NatV 0 W2 (.agg #[.slice B (nd N).length d]) (nd N) := ⟨B, d, rfl, l1, l2, (l3.below hq2).mono (Nat.zero_le _)⟩
      have hbt := nat_bits _ (nd N) W2 0 hNN HNL.out
      have HW2 := Lib.hid hW2; have XE := Lib.hid xe; have XN := Lib.hid xn; have HB2 := Lib.hid hB2; have HNE := Lib.hid hNE; have HNN := Lib.hid hNN; have HBT := Lib.hid hbt
      clear hb k1 k2 k3 l1 l2 l3 hW2 xe xn hq2 hB2 hNE hNN hbt H1
      simp only []
      repeat (first | (go_at_call 40; refine (Hid.out (p := _) ?_)) | go_values | go_skip | go_guarded | go_step | go_upon | go_back)
      refine Lib.hid ?_
      clear a1
      rw [← HW2.out]
      refine HBT.out.mono ?_
      rintro e w3 ⟨rfl, hb3⟩
      have B3 := Lib.hid hb3
      clear hb3 HBT HW2
      simp only []
      rw [HB4.out]
      repeat (first | (go_at_call 25; refine (Hid.out (p := _) ?_)) | go_values | go_skip | go_guarded | go_step | go_upon | go_back)
      refine Lib.hid ?_
      refine (HOF.out _).mono ?_
      rintro e w4 ⟨v, rfl, hv, hb4⟩
      obtain ⟨A3, c3, rfl, m1, m2, m3⟩ := hv
      have b4 : Below W2.heap.size W2 w4 := B3.out.trans (hb4.mono B3.out.size)
      obtain ⟨W5, hW5⟩ : ∃ W5, W5 = w4.alloc (.cells #[.slice A3 (nd s).length c3] 45) := ⟨_, rfl⟩
      have b5 : Below W2.heap.size W2 W5 := by rw [hW5]; exact b4.alloc b4.size _
      have xs : Blk W5 w4.heap.size #[.slice A3 (nd s).length c3] 45 := by rw [hW5]; exact Blk.new w4 _ _
      have xe := XE.out.below b5 XE.out.lt
      have xn := XN.out.below b5 XN.out.lt
      have hS5 : NatV 0 W5 (.agg #[.slice A3 (nd s).length c3]) (nd s) := ⟨A3, c3, rfl, m1, m2, (m3.mono (Nat.zero_le _)).below (by rw [hW5]; exact (Below.refl _ w4).alloc (Nat.le_refl _) _)⟩
      have s0 : (w4.alloc (.cells #[.slice A3 (nd s).length c3] 45)).cell? ⟨w4.heap.size, 0, none⟩ = some (.slice A3 (nd s).length c3) := by rw [← hW5]; exact xs.cell 0
      have n0 : (w4.alloc (.cells #[.slice A3 (nd s).length c3] 45)).cell? ⟨w1.heap.size + 1, 0, none⟩ = some (.slice B (nd N).length d) := by rw [← hW5]; exact xn.cell 0
      have hcm := nat_cmp _ _ s N W5 (by have := HLE.out; omega) (by have := HG.out.2.2; omega) 0 0 hS5 (HNN.out.below b5)
      have HW5 := Lib.hid hW5; have B5 := Lib.hid b5; have XS := Lib.hid xs; have XE5 := Lib.hid xe; have XN5 := Lib.hid xn; have HS5 := Lib.hid hS5; have HCM := Lib.hid hcm
      clear m1 m2 m3 b4 hW5 b5 xs xe xn hS5 hcm hb4 HOF B3 XE XN
      simp only []
      repeat (first | (go_at_call 29; refine (Hid.out (p := _) ?_)) | go_values | go_skip | go_guarded | go_step | go_upon | go_back)
      refine Lib.hid ?_
      clear s0 n0
      rw [← HW5.out]
      refine HCM.out.mono ?_
      rintro e w6 ⟨rfl, hb6⟩
      have B6 := Lib.hid hb6
      clear hb6 HCM HW5
      simp only []
      by_cases hlt : s < N
      · rw [cmpI_lt hlt]
        have HV := Lib.hid (HEND.out HLL.out hlt)
        have hPN : s ^ E % N < N := Nat.mod_lt _ (by have := HG.out.1; omega)
        have HPN := Lib.hid hPN
        clear hbig hlt HEND hPN
        have hc := tail_cat text.data.toList
        have hT : (bs (sigTail text.data.toList)).size = 52 := by rw [bs_size, sigTail_len]
        have hZ : (bs (sum256 text.data.toList)).size = 32 := by rw [bs_size, sum256_len]
        obtain ⟨k, hk, hke⟩ : ∃ k : Nat, (M : Int) - 2 - 52 = (k : Int) ∧ k = M - 54 := ⟨M - 54, by have := HQ.out; omega, rfl⟩
        have hbc := blk_cat k text.data.toList
        rw [hke, ← HBK.out, ← hke] at hbc
        have hR : (bs (List.replicate k 255)).size = k := by rw [bs_size]; simp
        have hR2 : ((⟨#[0, 1]⟩ : ByteArray) ++ bs (List.replicate k 255)).size = k + 2 := by rw [show (⟨#[0, 1]⟩ : ByteArray) = bs [0, 1] from rfl, bs_append, bs_size]; simp
        have hrp := fun w => repeat_byte 255 k w (by have := HQ.out; omega)
        have hki : (k : Int) ≤ 100000 := by have := HQ.out; omega
        generalize bs (sigTail text.data.toList) = T at *
        generalize bs (sum256 text.data.toList) = S0 at *
        generalize bs (List.replicate k 255) = R at *
        have HRP := Lib.hid hrp
        clear hrp hke
        repeat (first | (go_at_call 48; refine (Hid.out (p := _) ?_)) | go_values | go_skip | go_guarded | go_step | go_upon | go_back)
        refine Lib.hid ?_
        refine (HSUM.out _).mono ?_
        rintro e w7 ⟨rfl, hb7⟩
        have B7 := Lib.hid (B6.out.trans (hb7.mono B6.out.size))
        clear hb7 HSUM B6
        simp only []
        repeat (first | (go_at_call 49; refine (Hid.out (p := _) ?_)) | go_values | go_skip | go_guarded | go_step | go_upon | go_back)
        refine Lib.hid ?_
        refine (HRP.out _).mono ?_
        rintro e w8 ⟨rfl, hb8⟩
        have hb8' := B7.out.trans (hb8.mono B7.out.size)
        have s8 : w8.cell? ⟨w4.heap.size, 0, none⟩ = some (.slice A3 (nd s).length c3) := (XS.out.below hb8' XS.out.lt).cell 0
        have n8 : w8.cell? ⟨w1.heap.size + 1, 0, none⟩ = some (.slice B (nd N).length d) := (XN5.out.below hb8' XN5.out.lt).cell 0
        have e8 : w8.cell? ⟨w1.heap.size, 0, none⟩ = some (.slice A (nd E).length c) := (XE5.out.below hb8' XE5.out.lt).cell 0
        have hb58 := B5.out.trans (hb8'.mono B5.out.size)
        have hpw := nat_pow _ _ _ s E N HG.out.1 w8 (by have := HLE.out; omega) (by have := HG.out.2.1; omega) HG.out.2.2 0 0 0 (HS5.out.below hb8') (HNE.out.below hb58) (HNN.out.below hb58)
        have HPW := Lib.hid hpw; have B8 := Lib.hid (HB2.out.trans (hb58.mono HB2.out.size))
        clear hb8 hb8' hb58 hpw B7 HRP
        simp only []
        repeat (first | (go_at_call 27; refine (Hid.out (p := _) ?_)) | go_values | go_skip | go_guarded | go_step | go_upon | go_back)
        refine Lib.hid ?_
        clear s8 n8 e8
        refine HPW.out.mono ?_
        rintro e w9 ⟨hb9, r, rfl, hr⟩
        obtain ⟨A9, c9, rfl, r1, r2, r3⟩ := hr
        obtain ⟨bp, hbp, _⟩ := bits_nd (s ^ E % N)
        have hmono := bits_mono hbp HB4.out HPN.out
        have hpl : (nd (s ^ E % N)).length ≤ 64 := Nat.le_trans (nd_len_mono (Nat.le_of_lt HPN.out)) HG.out.2.2
        obtain ⟨W10, hW10⟩ : ∃ W, W = w9.alloc (.cells #[.slice A9 (nd (s ^ E % N)).length c9] 45) := ⟨_, rfl⟩
        have p0 : (w9.alloc (.cells #[.slice A9 (nd (s ^ E % N)).length c9] 45)).cell? ⟨w9.heap.size, 0, none⟩ = some (.slice A9 (nd (s ^ E % N)).length c9) := (Blk.new w9 _ _).cell 0
        have hq10 : Below w9.heap.size w9 W10 := by rw [hW10]; exact (Below.refl _ w9).alloc (Nat.le_refl _) _
        have hwd := nat_wide _ (nd (s ^ E % N)) M W10 0 ⟨A9, c9, rfl, r1, r2, r3.below hq10⟩ (by omega) (by have := HQ.out; omega) (by rw [hbp]; have := HQ.out; omega)
        rw [wideS_nd] at hwd
        have HWD := Lib.hid hwd; have HW10 := Lib.hid hW10; have B10 := Lib.hid ((B8.out.trans (hb9.mono B8.out.size)).trans (hq10.mono (B8.out.trans (hb9.mono B8.out.size)).size))
        clear hb9 r1 r2 r3 hbp hmono hpl hW10 hq10 hwd HPW B8
        simp only []
        repeat (first | (go_at_call 28; refine (Hid.out (p := _) ?_)) | go_values | go_skip | go_guarded | go_step | go_upon | go_back)
        refine Lib.hid ?_
        clear p0
        rw [← HW10.out]
        refine HWD.out.mono ?_
        rintro e w11 ⟨rfl, hb11⟩
        have B11 := Lib.hid (B10.out.trans (hb11.mono B10.out.size))
        clear hb11 HWD HW10 B10
        simp only []
        repeat (first | (fail) | go_values | go_skip | go_guarded | go_step | go_upon | go_back)
        go_ret
        refine ⟨?_, B11.out⟩
        rw [HV.out, bs_beq]
        rfl
      · have hge : (0 : Int) ≤ cmpI s N := cmpI_nonneg.2 (by omega)
        generalize cmpI s N = cm at hge ⊢
        have HV := Lib.hid (hbig hlt)
        clear hbig hlt HEND
        repeat (first | (fail) | go_values | go_skip | go_guarded | go_step | go_upon | go_back)
        go_ret
        exact ⟨by rw [HV.out]; rfl, HB2.out.trans ((B5.out.trans (B6.out.mono B5.out.size)).mono HB2.out.size)⟩
    · have hyes : ((sign.size : Int) != (M : Int)) = true := by rw [bne_iff_ne]; omega
      have hV := hlen (by omega)
      rw [hV]
      clear h1 hend hsum g1 g2 g3 g4 g5 g6 g7 hbs hlen hbig hE hN hsl hl HEND HSUM hV hsm hblk HBK
      go_enter Tryz.func23, Tryz.ntmps23
      repeat (first | (go_at_call 18; refine (Hid.out (p := _) ?_)) | go_values | go_skip | go_guarded | go_step | go_upon | go_back)
      refine Lib.hid ?_
      refine (H1.out _).mono ?_
      rintro e w1 ⟨hb, v, u, rfl, hv, hu⟩
      obtain ⟨A, c, rfl, k1, k2, k3⟩ := hv
      obtain ⟨B, d, rfl, l1, l2, l3⟩ := hu
      obtain ⟨W2, hW2⟩ : ∃ W2, W2 = (w1.alloc (.cells #[.slice A (nd E).length c] 45)).alloc (.cells #[.slice B (nd N).length d] 45) := ⟨_, rfl⟩
      have xe : Blk W2 w1.heap.size #[.slice A (nd E).length c] 45 := by rw [hW2]; exact (Blk.new w1 _ _).alloc _
      have xn : Blk W2 (w1.heap.size + 1) #[.slice B (nd N).length d] 45 := by
        have := Blk.new (w1.alloc (.cells #[.slice A (nd E).length c] 45)) #[.slice B (nd N).length d] 45
        rw [hW2]; simpa using this
      have hq2 : Below w1.heap.size w1 W2 := by rw [hW2]; exact ((Below.refl _ w1).alloc (Nat.le_refl _) _).alloc (by simp) _
      have hB2 : Below w.heap.size w W2 := hb.trans (hq2.mono hb.size)
      have a1 : ((w1.alloc (.cells #[.slice A (nd E).length c] 45)).alloc (.cells #[.slice B (nd N).length d] 45)).cell? ⟨w1.heap.size + 1, 0, none⟩ = some (.slice B (nd N).length d) := by rw [← hW2]; exact xn.cell 0
      have hNE : NatV 0 W2 (.agg #[.slice A (nd E).length c]) (nd E) := ⟨A, c, rfl, k1, k2, (k3.below hq2).mono (Nat.zero_le _)⟩
      have hNN : NatV 0 W2 (.agg #[.slice B (nd N).length d]) (nd N) := ⟨B, d, rfl, l1, l2, (l3.below hq2).mono (Nat.zero_le _)⟩
      have hbt := nat_bits _ (nd N) W2 0 hNN HNL.out
      have HW2 := Lib.hid hW2; have XE := Lib.hid xe; have XN := Lib.hid xn; have HB2 := Lib.hid hB2; have HNE := Lib.hid hNE; have HNN := Lib.hid hNN; have HBT := Lib.hid hbt
      clear hb k1 k2 k3 l1 l2 l3 hW2 xe xn hq2 hB2 hNE hNN hbt H1
      simp only []
      repeat (first | (go_at_call 40; refine (Hid.out (p := _) ?_)) | go_values | go_skip | go_guarded | go_step | go_upon | go_back)
      refine Lib.hid ?_
      clear a1
      rw [← HW2.out]
      refine HBT.out.mono ?_
      rintro e w3 ⟨rfl, hb3⟩
      have B3 := Lib.hid hb3
      clear hb3 HBT HW2
      simp only []
      rw [HB4.out]
      repeat (first | (fail) | go_values | go_skip | go_guarded | go_step | go_upon | go_back)
      go_ret
      exact ⟨rfl, HB2.out.trans (B3.out.mono HB2.out.size)⟩
end Go.Proofs.YtdmfbcfhfopipaaGreatDoor

/- name.Lower, walked. -/
namespace Go.Proofs.YtdmfbcfhfopipaaGreatDoor
open Go.RowKit Go.Shelf
attribute [local go_sem] Oper.semAt_some

/-- Does a place lie in one of these labels? -/
def covered (l : List (Nat × ByteArray)) (j : Nat) : Bool := l.any fun x => decide (x.1 + 1 ≤ j) && decide (j < x.1 + 1 + x.2.size)
theorem covered_snoc (l : List (Nat × ByteArray)) (x : Nat × ByteArray) (j : Nat) : covered (l ++ [x]) j = (covered l j || (decide (x.1 + 1 ≤ j) && decide (j < x.1 + 1 + x.2.size))) := by simp [covered]

/-- t is s with small letters where p says so. -/
def LowAt (s t : ByteArray) (p : Nat → Bool) : Prop := t.size = s.size ∧ ∀ j, j < s.size → byt t j = if p j then smallB (byt s j) else byt s j
theorem LowAt.start (s : ByteArray) (p : Nat → Bool) (h : ∀ j, p j = false) : LowAt s s p := ⟨rfl, fun j _ => by simp [h j]⟩
theorem LowAt.congr {s t : ByteArray} {p q : Nat → Bool} (h : LowAt s t p) (e : ∀ j, j < s.size → p j = q j) : LowAt s t q := ⟨h.1, fun j hj => by rw [← e j hj]; exact h.2 j hj⟩
theorem LowAt.step {s t : ByteArray} {p : Nat → Bool} (h : LowAt s t p) (k : Nat) (hk : k < s.size) : LowAt s (bset t k (smallB (byt t k))) (fun j => p j || decide (j = k)) := by
  refine ⟨by rw [size_bset]; exact h.1, fun j hj => ?_⟩
  rw [byt_bset t k j _ (by rw [h.1]; exact hk)]
  by_cases e : k = j
  · subst e
    rw [if_pos rfl, h.2 k hk]
    simp only [decide_true, Bool.or_true, if_true]
    split
    · exact smallB_smallB _
    · rfl
  · rw [if_neg e, h.2 j hj]
    have e' : ¬ j = k := fun h => e h.symm
    simp [e']

theorem cov_step (c : Bool) (a k j : Nat) : ((c || (decide (a ≤ j) && decide (j < a + k))) || decide (j = a + k)) = (c || (decide (a ≤ j) && decide (j < a + (k + 1)))) := by
  cases c
  · rw [Bool.eq_iff_iff]; simp; omega
  · simp

set_option maxRecDepth 100000 in
set_option maxHeartbeats 1000000 in
theorem name_lower_in (s : ByteArray) (w : World) (hr : nameRight s = true) :
    CallsIn Fence.wide 4 Tryz.prog 33 #[.string s] w fun e w' => (∃ t, e = .returned (.string t) ∧ LowAt s t (covered (labels s))) ∧ Below w.heap.size w w' := by
  have h255 : s.size ≤ 255 := by simp [nameRight] at hr; omega
  have hrc := fun w => name_right s w
  rw [hr] at hrc
  have HR := Lib.hid hrc
  clear hrc hr
  have hro : Fence.wide.round = none := rfl
  have hn1 : 1 ≤ 4 := by omega
  have hmk := make_u8 s.size (by omega)
  have hcp := fun w o => copy_str_new w s o
  refine callsIn_of_wp_marks Tryz.func33 rfl trivial ?_ hro
  simp only [Tryz.ntmps33, List.size_toArray, List.length_cons, List.length_nil, Nat.reduceAdd, Nat.reduceSub, Array.replicate_succ, Array.replicate_zero, List.push_toArray, List.append_toArray, List.nil_append, List.cons_append]
  gi_wp2_with (first | (refine ⟨trivial, ?_⟩; gi_at_call 62; refine (callsIn_wide.2 (labels_any _ _)).mono ?_; rintro e w' ⟨rfl, rfl⟩) | (refine ⟨trivial, ?_⟩; gi_at_call 32; refine (callsIn_wide.2 (HR.out _)).mono ?_; rintro e w1 ⟨rfl, hB1⟩))
  have hB0 : Below w.heap.size w (((w1.alloc (.cells (encS s) 5)).alloc (.cells #[.slice (some ⟨w1.heap.size, 0, none⟩) s.size s.size] 41)).alloc (.cells #[.string s] 9)) := (((hB1.alloc hB1.size _).alloc (by simp; have := hB1.size; omega) _).alloc (by simp; have := hB1.size; omega) _)
  have b0 : Blk (((w1.alloc (.cells (encS s) 5)).alloc (.cells #[.slice (some ⟨w1.heap.size, 0, none⟩) s.size s.size] 41)).alloc (.cells #[.string s] 9)) w1.heap.size (encS s) 5 := ((Blk.new w1 _ _).alloc _).alloc _
  have b1 : Blk (((w1.alloc (.cells (encS s) 5)).alloc (.cells #[.slice (some ⟨w1.heap.size, 0, none⟩) s.size s.size] 41)).alloc (.cells #[.string s] 9)) (w1.heap.size + 1) #[.slice (some ⟨w1.heap.size, 0, none⟩) s.size s.size] 41 := by
    have := (Blk.new (w1.alloc (.cells (encS s) 5)) #[.slice (some ⟨w1.heap.size, 0, none⟩) s.size s.size] 41).alloc (.cells #[.string s] 9)
    simpa using this
  have b2 : Blk (((w1.alloc (.cells (encS s) 5)).alloc (.cells #[.slice (some ⟨w1.heap.size, 0, none⟩) s.size s.size] 41)).alloc (.cells #[.string s] 9)) (w1.heap.size + 1 + 1) #[.string s] 9 := by
    have := Blk.new ((w1.alloc (.cells (encS s) 5)).alloc (.cells #[.slice (some ⟨w1.heap.size, 0, none⟩) s.size s.size] 41)) #[.string s] 9
    simpa using this
  have hsz : w.heap.size ≤ w1.heap.size := hB1.size
  clear HR hmk hcp hB1
  refine wpIn_rangeFunc_ownF (α := Lab s) (ps := #[19, 20]) hro hn1 (gf := 152) (lb := #[.pointer (some ⟨w1.heap.size + 1 + 1, 0, none⟩)]) rfl trivial (enters_of Tryz.func152 (by kernel_rfl) rfl)
    (labels1_stops Fence.wide 3 trivial hro (by omega) (w1.heap.size + 1 + 1) s _ (by omega) b2) keepsBlk_t keepsBlk_b (Below.refl _ _) (fun _ => rfl)
    (fun pre W => ((∃ t, Blk W w1.heap.size (encS t) 5 ∧ LowAt s t (covered (labPre pre))) ∧ Blk W (w1.heap.size + 1) #[.slice (some ⟨w1.heap.size, 0, none⟩) s.size s.size] 41) ∧ Below w.heap.size w W)
    (fun _ _ _ => False)
    (OwnFrom.and (Own.from (fun s A B row hs hg hr => ⟨by obtain ⟨t, h1, h2⟩ := hs.1; exact ⟨t, h1.kept hg hr, h2⟩, hs.2.kept hg hr⟩) _) (ownFrom_below (Nat.le_refl _) (by simp; omega)))
    (fun _ _ _ _ _ hs _ _ => hs)
    ⟨⟨⟨s, b0, LowAt.start s _ (fun j => by simp [covered, labPre])⟩, b1⟩, hB0⟩
    (fun x => { tmps := #[.string s, undef, .string ⟨#[]⟩, .pointer (some ⟨w1.heap.size + 1, 0, none⟩), .int .i64 (x.1.1 : Int), .string x.1.2, undef, .string s, .bool true, .bool false, undef, .string s, .int .i64 s.size, .slice (some ⟨w1.heap.size, 0, none⟩) s.size s.size, .slice (some ⟨w1.heap.size, 0, none⟩) s.size s.size, .string s, .int .i64 s.size, .string s, .func (.func 152) #[] #[.pointer (some ⟨w1.heap.size + 1 + 1, 0, none⟩)], .int .i64 (x.1.1 : Int), .string x.1.2, undef, undef, undef, undef, undef, undef, undef, undef, undef, undef, undef, undef, undef, undef, undef, undef, undef, undef, undef, undef, undef, undef], defers := [] }) ?assign ?body ?done ?stop
  case assign =>
    intro l x W K hK
    simp only [encLab]
    gi_wp2
    exact hK
  case body =>
    rintro l pre x W ⟨⟨⟨t, hb, hlow⟩, hs1⟩, hB⟩ _
    have hx := (labels_le s x.1 x.2).1
    have HB := Lib.hid hb; have HL := Lib.hid hlow; have HS := Lib.hid hs1
    clear hb hlow hs1
    gi_wp2
    gi_loopw [6, 23] (fun _ i wr => ∃ (k : Nat) (t : ByteArray), k ≤ x.1.2.size ∧ i = .int .i64 k ∧ Hid (Blk wr w1.heap.size (encS t) 5) ∧ Hid (LowAt s t (fun j => covered (labPre pre) j || (decide (x.1.1 + 1 ≤ j) && decide (j < x.1.1 + 1 + k)))) ∧ Hid (Blk wr (w1.heap.size + 1) #[.slice (some ⟨w1.heap.size, 0, none⟩) s.size s.size] 41) ∧ Below w.heap.size w wr ∧ KeepsOthers W wr ∧ KeepsBlk (w1.heap.size + 1 + 1) W wr)
      (fun _ i _ => x.1.2.size - (intOf i).toNat)
    case atStart =>
      exact ⟨0, t, Nat.zero_le _, rfl, HB, Lib.hid (HL.out.congr (fun j _ => by simp; omega)), HS, hB, KeepsOthers.refl _, KeepsBlk.refl _ _⟩
    case round =>
      obtain ⟨k, u, hk, rfl, hbu, hlu, hsu, hBu, hKo, hKb⟩ := hrel
      by_cases hlt : k < x.1.2.size
      · have hcell : wr.cell? ⟨w1.heap.size + 1, 0, none⟩ = some (.slice (some ⟨w1.heap.size, 0, none⟩) s.size s.size) := hsu.out.cell 0
        have hks : x.1.1 + 1 + k < s.size := by omega
        have hus : x.1.1 + 1 + k < u.size := by have := hlu.out.1; omega
        have hbyte : wr.cell? ⟨w1.heap.size, x.1.1 + 1 + k, none⟩ = some (.int .u8 ((byt u (x.1.1 + 1 + k)).toNat : Int)) := by rw [hbu.out.cell, encS_get u _ hus]
        have hfree := hbu.out.free (x.1.1 + 1 + k)
        have hmix : Tryz.prog.follows .mixedOrders = true := by kernel_rfl
        have q1 : (0 : Int) ≤ (x.1.1 : Int) + 1 + (k : Int) := by omega
        have q2 : (x.1.1 : Int) + 1 + (k : Int) < (s.size : Int) := by omega
        have r1 : IntKind.i64.wrap ((x.1.1 : Int) + 1) = (x.1.1 : Int) + 1 := IntWalk.i64_in _ (by omega)
        have r2 : IntKind.i64.wrap ((x.1.1 : Int) + 1 + (k : Int)) = (x.1.1 : Int) + 1 + (k : Int) := IntWalk.i64_in _ (by omega)
        have hti : ((x.1.1 : Int) + 1 + (k : Int)).toNat = x.1.1 + 1 + k := by omega
        gi_wp2
        refine wpIn_draw (openRound l _ _) 14 (C := Drawn wr) hmix (by kernel_rfl) (by kernel_rfl) (by kernel_rfl) (by simp) ⟨1, rfl⟩ ?_
        simp only [List.take_succ_cons, List.take_zero, List.drop_succ_cons, List.drop_zero]
        repeat (go_big_quiet_step ((go_at_call 63; exact Calls.quiet_of_same ((small_any _ _).mono fun e w' h => ⟨h.1, h.2.symm⟩))))
        refine wpQuiet_nil ?_
        intro _ hw'
        obtain ⟨nq, hw''⟩ := hw'
        subst hw''
        gi_wp2
        go_roundw
        case rel =>
          refine ⟨k + 1, bset u (x.1.1 + 1 + k) (smallB (byt u (x.1.1 + 1 + k))), by omega, by go_num, Lib.hid ?_, Lib.hid ?_, Lib.hid ?_, ?_, ?_, ?_⟩
          · rw [encS_bset]
            exact Blk.set (w := wr.drewN nq) hbu.out _ _
          · exact (hlu.out.step _ hks).congr (fun j _ => cov_step _ _ _ _)
          · exact Blk.other (w := wr.drewN nq) hsu.out (by simp) _
          · exact Below.setCell (w := wr.drewN nq) ⟨hBu.os, hBu.tape, hBu.output, hBu.size, hBu.block⟩ (by exact hsz) _
          · exact hKo.trans (KeepsOthers.trans (show KeepsOthers wr (wr.drewN nq) from ⟨Nat.le_refl _, fun _ _ h _ => h⟩) (KeepsOthers.setCell _ _ _))
          · exact keepsBlk_t hKb (keepsBlk_t (show KeepsBlk _ wr (wr.drewN nq) from fun _ _ h => h) (KeepsBlk.set _ _ _ (by simp; omega)))
        case measure => simp [intOf]; omega
      · obtain rfl : k = x.1.2.size := by omega
        have hnew := (hlu.out.congr (q := covered (labPre (pre ++ [x]))) (fun j _ => by rw [labPre_snoc, covered_snoc]))
        have HN := Lib.hid hnew
        clear hnew
        gi_wp2
        exact ⟨hKo, hKb, ⟨⟨u, hbu.out, HN.out⟩, hsu.out⟩, hBu⟩
  case done =>
    rintro D ys W hD hS ⟨⟨⟨t, hb, hlow⟩, hs1⟩, hB⟩ hK
    rw [hS] at hlow
    have hcell : W.cell? ⟨w1.heap.size + 1, 0, none⟩ = some (.slice (some ⟨w1.heap.size, 0, none⟩) s.size s.size) := hs1.cell 0
    have hcv := conv_bytes_string W w1.heap.size s.size s.size t hb hlow.1.symm
    have HL := Lib.hid hlow
    clear hlow hS hb hs1
    gi_wp2
    refine ⟨by simp, .inl ⟨_, _, rfl, run_takeDeferred hK, ?_⟩⟩
    exact ⟨_, results_tmp rfl _ _ _, ⟨t, rfl, HL.out⟩, hB.trans (belowK_b (w := w) (Nat.le_refl _) W D _ _ (by simp at hD; omega) hK rfl rfl)⟩
  case stop =>
    rintro D c pre W _ _ h _
    exact h.elim

theorem endOf_cons (x : Nat × ByteArray) (l : List (Nat × ByteArray)) : endOf (x :: l) = if l = [] then x.1 + 1 + x.2.size else endOf l := by
  cases l with
  | nil => simp [endOf]
  | cons y l => simp [endOf]

theorem labs_cover (s : ByteArray) : ∀ (f p : Nat), ∀ j, p ≤ j → j < (if labs s f p = [] then p else endOf (labs s f p)) → covered (labs s f p) j = true ∨ (byt s j).toNat ≤ 63 := by
  intro f
  induction f with
  | zero => intro p j h1 h2; simp [labs] at h2; omega
  | succ f ih =>
    intro p j h1 h2
    rw [labs] at h2 ⊢
    split at h2
    · rename_i hc
      rw [if_pos hc]
      rw [if_neg (by simp), endOf_cons] at h2
      have e : (s.extract (p + 1) (p + 1 + (byt s p).toNat)).size = (byt s p).toNat := by rw [ByteArray.size_extract]; omega
      simp only [e] at h2
      rcases Nat.lt_or_ge j (p + 1 + (byt s p).toNat) with h3 | h3
      · by_cases hj : j = p
        · subst hj; exact .inr hc.2.2.1
        · left
          simp only [covered, List.any_cons, e, Bool.or_eq_true, Bool.and_eq_true, decide_eq_true_eq]
          exact .inl ⟨by omega, h3⟩
      · have := ih (p + 1 + (byt s p).toNat) j h3 (by split at h2 <;> split <;> simp_all)
        rcases this with h4 | h4
        · left
          simp only [covered, List.any_cons, Bool.or_eq_true] at h4 ⊢
          exact .inr h4
        · exact .inr h4
    · rename_i hc
      rw [if_pos rfl] at h2
      omega

theorem right_cover (s : ByteArray) (h : nameRight s = true) (j : Nat) (hj : j < s.size) : covered (labels s) j = true ∨ (byt s j).toNat ≤ 63 := by
  simp only [nameRight, Bool.and_eq_true, decide_eq_true_eq, beq_iff_eq] at h
  rcases Nat.lt_or_ge j (nameEnd s) with h1 | h1
  · refine labs_cover s (s.size + 1) 0 j (Nat.zero_le _) ?_
    change j < if labels s = [] then 0 else endOf (labels s)
    split
    · rename_i he
      simp [nameEnd, he, endOf] at h1
    · exact h1
  · have : j = nameEnd s := by omega
    rw [this, h.2]
    right; simp

/-- A text with small letters. -/
def lowS (s : ByteArray) : ByteArray := ⟨s.data.map smallB⟩
theorem size_lowS (s : ByteArray) : (lowS s).size = s.size := by
  show (s.data.map smallB).size = s.data.size
  simp
theorem byt_lowS (s : ByteArray) (j : Nat) (hj : j < s.size) : byt (lowS s) j = smallB (byt s j) := by
  have h' : j < s.data.size := hj
  simp only [byt, lowS, List.getD, Array.getElem?_toList, Array.getElem?_map, Array.getElem?_eq_getElem h', Option.map_some, Option.getD_some]
def nameLower (s : ByteArray) : ByteArray := if nameRight s then lowS s else s

theorem low_eq (s t : ByteArray) (h : nameRight s = true) (hl : LowAt s t (covered (labels s))) : t = lowS s := by
  refine bytes_ext (by rw [size_lowS]; exact hl.1) (fun j hj => ?_)
  have hj' : j < s.size := by rw [← hl.1]; exact hj
  rw [hl.2 j hj', byt_lowS s j hj']
  split
  · rfl
  · rename_i hc
    rcases right_cover s h j hj' with h1 | h1
    · exact absurd h1 hc
    · exact (smallB_len _ h1).symm

theorem name_lower (s : ByteArray) (w : World) : Calls Tryz.prog 33 #[.string s] w fun e w' => e = .returned (.string (nameLower s)) ∧ Below w.heap.size w w' := by
  cases hr : nameRight s with
  | true =>
    refine (callsIn_wide.1 (name_lower_in s w hr)).mono ?_
    rintro e w' ⟨⟨t, he, hl⟩, hb⟩
    refine ⟨?_, hb⟩
    rw [he, low_eq s t hr hl, nameLower, if_pos hr]
  | false =>
    have hrc := fun w => name_right s w
    rw [hr] at hrc
    have e : nameLower s = s := by rw [nameLower, if_neg (by rw [hr]; simp)]
    rw [e]
    have HR := Lib.hid hrc
    clear hrc hr e
    go_enter Tryz.func33, Tryz.ntmps33
    go_wp2_with (go_at_call 32; refine (HR.out _).mono ?_; rintro e w1 ⟨rfl, hb⟩)
    go_ret
    exact ⟨rfl, hb⟩
end Go.Proofs.YtdmfbcfhfopipaaGreatDoor

/- data.Key: a key's parts out of its data. -/
namespace Go.Proofs.YtdmfbcfhfopipaaGreatDoor
open Go.RowKit

/-- What a key has. -/
structure KeyD where
  flags : Int
  protocol : Int
  alg : Int
  pub : ByteArray
def KeyD.v (k : KeyD) : Value := .agg #[.int .i64 k.flags, .int .i64 k.protocol, .int .i64 k.alg, .string k.pub]
def KeyD.none : KeyD := ⟨0, 0, 0, ⟨#[]⟩⟩

/-- The key that data tell (at least five bytes, at most 2000). -/
def keyOf (d : ByteArray) : KeyD := ⟨numOf (d.extract 0 2), numOf (d.extract 2 3), numOf (d.extract 3 4), d.extract 4 d.size⟩
def keyRight (d : ByteArray) : Bool := decide (5 ≤ d.size) && decide (d.size ≤ 2000)

theorem key1_any (b : Nat) (s : ByteArray) (w : World) (hS : Src b s w) :
    Calls Tryz.prog 73 #[.pointer (some ⟨b, 0, none⟩)] w (Taken b w (5 ≤ s.size) (keyOf s).v ⟨#[]⟩) := by
  have h1 := fun w h => number_any b s 2 w h (by omega) (by omega)
  have h2 := fun w h => number_any b (s.extract 2 s.size) 1 w h (by omega) (by omega)
  have h3 := fun w h => number_any b (s.extract 3 s.size) 1 w h (by omega) (by omega)
  have h4 := fun w h => rest_any b (s.extract 4 s.size) w h
  have z2 : (s.extract 2 s.size).size = s.size - 2 := by simp
  have z3 : (s.extract 3 s.size).size = s.size - 3 := by simp
  have z4 : (s.extract 4 s.size).size = s.size - 4 := by simp
  have e1 : (s.extract 2 s.size).extract 1 (s.extract 2 s.size).size = s.extract 3 s.size := by simp [ByteArray.extract_extract]; congr 1; omega
  have e2 : (s.extract 3 s.size).extract 1 (s.extract 3 s.size).size = s.extract 4 s.size := by simp [ByteArray.extract_extract]; congr 1; omega
  have e3 : 3 ≤ s.size → (s.extract 2 s.size).extract 0 1 = s.extract 2 3 := by intro h; simp [ByteArray.extract_extract]; congr 1; omega
  have e4 : 4 ≤ s.size → (s.extract 3 s.size).extract 0 1 = s.extract 3 4 := by intro h; simp [ByteArray.extract_extract]; congr 1; omega
  simp only [Int.reduceToNat, e1, e2] at h1 h2 h3
  have hv : (keyOf s).v = .agg #[.int .i64 (numOf (s.extract 0 2)), .int .i64 (numOf (s.extract 2 3)), .int .i64 (numOf (s.extract 3 4)), .string (s.extract 4 s.size)] := rfl
  have hv' : 5 ≤ s.size → (keyOf s).v = .agg #[.int .i64 (numOf (s.extract 0 2)), .int .i64 (numOf ((s.extract 2 s.size).extract 0 1)), .int .i64 (numOf ((s.extract 3 s.size).extract 0 1)), .string (s.extract 4 s.size)] := by
    intro h; rw [hv, e3 (by omega), e4 (by omega)]
  clear e1 e2 e3 e4 hv
  generalize (keyOf s).v = V at *
  have hne : w.heap.size ≠ b := by have := hS.lt; omega
  generalize numOf (s.extract 0 2) = f at *
  generalize numOf ((s.extract 2 s.size).extract 0 1) = p at *
  generalize numOf ((s.extract 3 s.size).extract 0 1) = a at *
  generalize s.extract 4 s.size = q at *
  generalize s.extract 3 s.size = s3 at *
  generalize s.extract 2 s.size = s2 at *
  have H1 := Lib.hid h1; have H2 := Lib.hid h2; have H3 := Lib.hid h3; have H4 := Lib.hid h4
  have HS := Lib.hid hS; have HV := Lib.hid hv'; have Z2 := Lib.hid z2; have Z3 := Lib.hid z3; have Z4 := Lib.hid z4
  clear h1 h2 h3 h4 hS hv' z2 z3 z4
  go_enter Tryz.func73, Tryz.ntmps73
  go_wp2_with fail
  refine (H1.out _ (HS.out.alloc _)).mono ?_
  rintro e w1 (⟨hn1, rfl, hS1, hO1⟩ | ⟨hn1, rfl, hO1⟩)
  case inr => exact ⟨rfl, .inr ⟨by omega, rfl, (Only.alloc w _).trans hO1⟩⟩
  have hB1 := (Blk.new w #[.int .i64 0, .int .i64 0, .int .i64 0, .string ⟨#[]⟩] 67).only hO1 hne
  have HQ1 := Lib.hid hS1; have HB1 := Lib.hid hB1; clear hS1 hB1
  go_wp2_with fail
  refine (H2.out _ HQ1.out).mono ?_
  rintro e w2 (⟨hn2, rfl, hS2, hO2⟩ | ⟨hn2, rfl, hO2⟩)
  case inr => exact ⟨rfl, .inr ⟨by have := Z2.out; omega, rfl, ((Only.alloc w _).trans hO1).trans hO2⟩⟩
  have HQ2 := Lib.hid hS2; have HB2 := Lib.hid (HB1.out.only hO2 hne); clear hS2 HB1
  go_wp2_with fail
  refine (H3.out _ HQ2.out).mono ?_
  rintro e w3 (⟨hn3, rfl, hS3, hO3⟩ | ⟨hn3, rfl, hO3⟩)
  case inr => exact ⟨rfl, .inr ⟨by have := Z3.out; omega, rfl, ((Only.alloc w _).trans hO1).trans (hO2.trans hO3)⟩⟩
  have HQ3 := Lib.hid hS3; have HB3 := Lib.hid (HB2.out.only hO3 hne); clear hS3 HB2
  go_wp2_with fail
  refine (H4.out _ HQ3.out).mono ?_
  rintro e w4 (⟨hn4, rfl, hS4, hO4⟩ | ⟨hn4, rfl, hO4⟩)
  case inr => exact ⟨rfl, .inr ⟨by have := Z4.out; omega, rfl, ((Only.alloc w _).trans hO1).trans (hO2.trans (hO3.trans hO4))⟩⟩
  have h5 : 5 ≤ s.size := by have := Z4.out; omega
  have HQ4 := Lib.hid hS4; have hB4 := (HB3.out.only hO4 hne); clear hS4 HB3
  have c0 : w4.cell? ⟨w.heap.size, 0, none⟩ = some (.int .i64 0) := hB4.cell 0
  have c1 : w4.cell? ⟨w.heap.size, 1, none⟩ = some (.int .i64 0) := hB4.cell 1
  have c2 : w4.cell? ⟨w.heap.size, 2, none⟩ = some (.int .i64 0) := hB4.cell 2
  have c3 : w4.cell? ⟨w.heap.size, 3, none⟩ = some (.string ⟨#[]⟩) := hB4.cell 3
  have f0 := fun j => hB4.free j
  clear H1 H2 H3 H4 HS HQ1 HQ2 HQ3
  go_wp2_with fail
  have hF : Blk ((((((((w4.setCell ⟨w.heap.size, 0, none⟩ (.int .i64 f)).setCell ⟨w.heap.size, 1, none⟩ (.int .i64 p)).setCell ⟨w.heap.size, 2, none⟩ (.int .i64 a)).setCell ⟨w.heap.size, 3, none⟩ (.string q)).setCell ⟨w.heap.size, 0, none⟩ (.int .i64 f)).setCell ⟨w.heap.size, 1, none⟩ (.int .i64 p)).setCell ⟨w.heap.size, 2, none⟩ (.int .i64 a)).setCell ⟨w.heap.size, 3, none⟩ (.string q)) w.heap.size #[.int .i64 f, .int .i64 p, .int .i64 a, .string q] 67 := by
    simpa using (((((((hB4.set 0 (.int .i64 f)).set 1 (.int .i64 p)).set 2 (.int .i64 a)).set 3 (.string q)).set 0 (.int .i64 f)).set 1 (.int .i64 p)).set 2 (.int .i64 a)).set 3 (.string q)
  refine bodyPost_ret (v := .agg #[.int .i64 f, .int .i64 p, .int .i64 a, .string q]) (results_cell_row rfl _ _ w.heap.size _ _ (0, 0) _ rfl hF Tryz.underlying67 rfl info_Key) rfl (.inl ⟨h5, by rw [HV.out h5], ?_, ?_⟩)
  · have n : b ≠ w.heap.size := fun h => hne h.symm
    iterate 8 refine Blk.other ?_ n _
    exact HQ4.out
  · iterate 8 refine Only.setNew ?_ (Nat.le_refl _) _
    exact ((Only.alloc w _).trans hO1).trans (hO2.trans (hO3.trans hO4))
end Go.Proofs.YtdmfbcfhfopipaaGreatDoor

/- data.take at Key: what is taken, or ErrData. -/
namespace Go.Proofs.YtdmfbcfhfopipaaGreatDoor
open Go.RowKit

theorem assert_stop (w : World) : (Instr.typeAssert (.iface 191 (.agg #[])) 20 191 true).run Tryz.prog w = .ok (.tuple #[.agg #[], .bool true]) w := by kernel_rfl

set_option maxRecDepth 100000 in
theorem take1_panic (B n m : Nat) (w : World) (h0 : Blk w n #[.int .i64 0, .int .i64 0, .int .i64 0, .string ⟨#[]⟩] 67) (h1 : Blk w m #[.int .i64 0] 25) (hne : n ≠ m) (hBn : B ≤ n) (hBm : B ≤ m) :
    CallsD Tryz.prog 153 #[.pointer (some ⟨n, 0, none⟩), .pointer (some ⟨m, 0, none⟩)] (.panicking [{ v := .iface 191 (.agg #[]), recovered := false }]) w fun e u' w' =>
      e = .returned (.tuple #[]) ∧ u' = .panicking [{ v := .iface 191 (.agg #[]), recovered := true }] ∧ Blk w' n #[.int .i64 0, .int .i64 0, .int .i64 0, .string ⟨#[]⟩] 67 ∧ Blk w' m #[.int .i64 6] 25 ∧ Below B w w' := by
  refine callsD_of_wpS Tryz.func153 rfl fun c₀ cs hu => ?_
  simp only [Tryz.ntmps153, List.size_toArray, List.length_cons, List.length_nil, Nat.reduceAdd, Nat.reduceSub, Array.replicate_succ, Array.replicate_zero, List.push_toArray, List.append_toArray, List.nil_append, List.cons_append]
  apply wpS_seq
  apply wpS_region
  simp [wpOpsS, go_sem, recoverD, hu, Exit.thenS]
  refine wpS_of_wp (wp_mono (Q := fun e a' w' => e = .normal ∧ a'.defers = [] ∧ Blk w' n #[.int .i64 0, .int .i64 0, .int .i64 0, .string ⟨#[]⟩] 67 ∧ Blk w' m #[.int .i64 6] 25 ∧ Below B w w') ?_ ?_)
  · have c0 : w.cell? ⟨n, 0, none⟩ = some (.int .i64 0) := h0.cell 0
    have c1 : w.cell? ⟨n, 1, none⟩ = some (.int .i64 0) := h0.cell 1
    have c2 : w.cell? ⟨n, 2, none⟩ = some (.int .i64 0) := h0.cell 2
    have c3 : w.cell? ⟨n, 3, none⟩ = some (.string ⟨#[]⟩) := h0.cell 3
    have c4 : w.cell? ⟨m, 0, none⟩ = some (.int .i64 0) := h1.cell 0
    have f0 := fun j => h0.free j
    have f1 := fun j => h1.free j
    have l0 := h0.lt
    have l1 := h1.lt
    have H0 := Lib.hid h0; have H1 := Lib.hid h1; clear h0 h1
    generalize hQ : (fun (e : Exit) (a' : Act) (w' : World) => e = Exit.normal ∧ a'.defers = [] ∧ Blk w' n #[.int .i64 0, .int .i64 0, .int .i64 0, .string ⟨#[]⟩] 67 ∧ Blk w' m #[.int .i64 6] 25 ∧ Below B w w') = Q
    have HQ := Lib.hid hQ; clear hQ
    have hta := assert_stop
    go_wp2
    rw [← HQ.out]
    refine ⟨rfl, rfl, ?_, ?_, ?_⟩
    · refine Blk.alloc (Blk.alloc (Blk.other ?_ hne _) _) _
      simpa using (((H0.out.set 0 (.int .i64 0)).set 1 (.int .i64 0)).set 2 (.int .i64 0)).set 3 (.string ⟨#[]⟩)
    · refine Blk.alloc (Blk.alloc (Blk.set (cs := #[.int .i64 0]) ?_ 0 _) _) _
      iterate 4 refine Blk.other ?_ (fun h => hne h.symm) _
      exact H1.out
    · refine Below.alloc (Below.alloc ?_ (by simp; omega) _) (by simp; omega) _
      refine Below.setCell ?_ (by simpa using hBm) _
      iterate 4 refine Below.setCell ?_ (by simpa using hBn) _
      exact Below.refl _ _
  · rintro e a w' ⟨rfl, hd, q⟩
    exact ⟨hd, _, rfl, _, results_none rfl _ _ _, rfl, rfl, q⟩


theorem take1_idle (n m : Nat) (w : World) :
    CallsD Tryz.prog 153 #[.pointer (some ⟨n, 0, none⟩), .pointer (some ⟨m, 0, none⟩)] .returning w fun e u' w' => e = .returned (.tuple #[]) ∧ u' = .returning ∧ w' = w := by
  refine callsD_of_wpS Tryz.func153 rfl fun c₀ cs hu => ?_
  simp only [Tryz.ntmps153, List.size_toArray, List.length_cons, List.length_nil, Nat.reduceAdd, Nat.reduceSub, Array.replicate_succ, Array.replicate_zero, List.push_toArray, List.append_toArray, List.nil_append, List.cons_append]
  apply wpS_seq
  apply wpS_region
  simp [wpOpsS, go_sem, recoverD, hu, Exit.thenS]
  refine wpS_of_wp (wp_mono (Q := fun e a' w' => e = .normal ∧ a'.defers = [] ∧ w' = w) ?_ ?_)
  · generalize hQ : (fun (e : Exit) (a' : Act) (w' : World) => e = Exit.normal ∧ a'.defers = [] ∧ w' = w) = Q
    have HQ := Lib.hid hQ; clear hQ
    go_wp2
    rw [← HQ.out]
    exact ⟨rfl, rfl, rfl⟩
  · rintro e a w' ⟨rfl, hd, rfl⟩
    cases c₀
    simp at hu
    subst hu
    exact ⟨hd, _, rfl, _, results_none rfl _ _ _, rfl, rfl, rfl⟩

def keyVal (d : ByteArray) : Value := (if keyRight d then keyOf d else KeyD.none).v

def zKey : Array Value := #[.int .i64 0, .int .i64 0, .int .i64 0, .string ⟨#[]⟩]

/-- The world in which take calls its function. -/
def takeW (w : World) (d : ByteArray) : World := ((w.alloc (.cells zKey 67)).alloc (.cells #[.int .i64 0] 25)).alloc (.cells #[.string d] 194)
theorem takeW_src (w : World) (d : ByteArray) : Src (w.heap.size + 1 + 1) d (takeW w d) := by
  have := Blk.new ((w.alloc (.cells zKey 67)).alloc (.cells #[.int .i64 0] 25)) #[.string d] 194
  simpa [takeW, Src] using this
theorem takeW_key (w : World) (d : ByteArray) : Blk (takeW w d) w.heap.size zKey 67 := ((Blk.new w zKey 67).alloc _).alloc _
theorem takeW_err (w : World) (d : ByteArray) : Blk (takeW w d) (w.heap.size + 1) #[.int .i64 0] 25 := by
  have := (Blk.new (w.alloc (.cells zKey 67)) #[.int .i64 0] 25).alloc (.cells #[.string d] 194)
  simpa [takeW] using this
theorem takeW_below (w : World) (d : ByteArray) : Below w.heap.size w (takeW w d) := (((Below.refl _ w).alloc (Nat.le_refl _) _).alloc (by simp) _).alloc (by simp; omega) _

/-- Behind the door, where the body panicked. -/
theorem take_door_no (tmps : Array Value) (w w1 : World) (hk : Blk w1 w.heap.size zKey 67) (he : Blk w1 (w.heap.size + 1) #[.int .i64 0] 25) (hb : Below w.heap.size w w1)
    (h4 : tmps.getD 4 undef = .pointer (some ⟨w.heap.size, 0, none⟩)) (h5 : tmps.getD 5 undef = .pointer (some ⟨w.heap.size + 1, 0, none⟩)) :
    bodyPostD Tryz.prog Tryz.f72 (fun e w' => e = .returned (.tuple #[KeyD.none.v, .int .i64 6]) ∧ Below w.heap.size w w') (.panic stopC)
      { tmps := tmps, defers := [{ target := .fn (.func 153) #[.pointer (some ⟨w.heap.size, 0, none⟩), .pointer (some ⟨w.heap.size + 1, 0, none⟩)], args := #[] }] } w1 := by
  refine leaves_cons (f := 153) (args := #[.pointer (some ⟨w.heap.size, 0, none⟩), .pointer (some ⟨w.heap.size + 1, 0, none⟩)]) (by simp) (by simp [go_sem]) ?_
  refine (take1_panic w.heap.size _ _ w1 hk he (by omega) (Nat.le_refl _) (by omega)).mono ?_
  rintro e u' w2 ⟨rfl, rfl, hk2, he2, hb2⟩
  exact ⟨_, results2 rfl ⟨_, h4, loadVar_blk hk2 Tryz.underlying67 rfl info_Key⟩ ⟨_, h5, loadVar_int he2 Tryz.underlying25⟩, rfl, hb.trans hb2⟩

set_option maxRecDepth 100000 in
theorem take_key_no (d : ByteArray) (w : World) (h : keyRight d = false) :
    Calls Tryz.prog 72 #[.string d, .func (.func 73) #[] #[]] w fun e w' => e = .returned (.tuple #[KeyD.none.v, .int .i64 6]) ∧ Below w.heap.size w w' := by
  have hmf := makeFunc_run
  by_cases hd : d.size ≤ 2000
  · have hd' : decide ((d.size : Int) ≤ 2000) = true := by simp; omega
    have h5 : ¬ 5 ≤ d.size := by intro h5; simp [keyRight, hd, h5] at h
    have H5 := Lib.hid h5; clear h h5
    go_enter_defers Tryz.func72, Tryz.ntmps72
    go_wp2_with (go_at_call 154; refine (must_ok _ _).mono ?_; rintro e w' ⟨rfl, rfl⟩)
    refine (key1_any (w.heap.size + 1 + 1) d _ (takeW_src w d)).mono ?_
    rintro e w1 (⟨hn, rfl, hS, hO⟩ | ⟨hn, rfl, hO⟩)
    · exact absurd hn H5.out
    · exact take_door_no _ w w1 ((takeW_key w d).only hO (by omega)) ((takeW_err w d).only hO (by omega)) ((takeW_below w d).trans (hO.belowOf (by omega) (by simp [takeW]; omega))) rfl rfl
  · have hd' : decide ((d.size : Int) ≤ 2000) = false := by simp; omega
    clear h
    go_enter_defers Tryz.func72, Tryz.ntmps72
    go_wp2_with (go_at_call 154; refine (must_no _ _).mono ?_; rintro e w' ⟨rfl, rfl⟩)
    exact take_door_no _ w _ (takeW_key w d) (takeW_err w d) (takeW_below w d) rfl rfl

set_option maxRecDepth 100000 in
theorem take_key_yes (d : ByteArray) (w : World) (h : keyRight d = true) :
    Calls Tryz.prog 72 #[.string d, .func (.func 73) #[] #[]] w fun e w' => e = .returned (.tuple #[(keyOf d).v, .int .i64 0]) ∧ Below w.heap.size w w' := by
  have hmf := makeFunc_run
  simp only [keyRight, Bool.and_eq_true, decide_eq_true_eq] at h
  have hd' : decide ((d.size : Int) ≤ 2000) = true := by simp; omega
  have H5 := Lib.hid h.1; clear h
  have hkey := fun w h => key1_any (w.heap.size + 1 + 1) d (takeW w d) h
  obtain ⟨f, p, a, q, hk⟩ : ∃ f p a q, (keyOf d).v = .agg #[.int .i64 f, .int .i64 p, .int .i64 a, .string q] := ⟨_, _, _, _, rfl⟩
  rw [hk] at hkey ⊢
  have HK := Lib.hid hkey; clear hk hkey
  go_enter_defers Tryz.func72, Tryz.ntmps72
  go_wp2_with (go_at_call 154; refine (must_ok _ _).mono ?_; rintro e w' ⟨rfl, rfl⟩)
  refine (HK.out w (takeW_src w d)).mono ?_
  rintro e w1 (⟨hn, rfl, hS, hO⟩ | ⟨hn, rfl, hO⟩)
  case inr => exact absurd H5.out hn
  have hk1 := (takeW_key w d).only hO (by omega)
  have he1 := (takeW_err w d).only hO (by omega)
  have hB1 := (takeW_below w d).trans (hO.belowOf (B := w.heap.size) (by omega) (by simp [takeW]; omega))
  have c0 : w1.cell? ⟨w.heap.size, 0, none⟩ = some (.int .i64 0) := hk1.cell 0
  have c1 : w1.cell? ⟨w.heap.size, 1, none⟩ = some (.int .i64 0) := hk1.cell 1
  have c2 : w1.cell? ⟨w.heap.size, 2, none⟩ = some (.int .i64 0) := hk1.cell 2
  have c3 : w1.cell? ⟨w.heap.size, 3, none⟩ = some (.string ⟨#[]⟩) := hk1.cell 3
  have c4 : w1.cell? ⟨w.heap.size + 1, 0, none⟩ = some (.int .i64 0) := he1.cell 0
  have c5 : w1.cell? ⟨w.heap.size + 1 + 1, 0, none⟩ = some (.string ⟨#[]⟩) := hS.cell 0
  have f0 := fun j => hk1.free j
  have f1 := fun j => he1.free j
  have HK1 := Lib.hid hk1; have HE1 := Lib.hid he1; have HB1 := Lib.hid hB1
  clear hk1 he1 hB1 hO hS HK H5 hn
  go_wp2_with (go_at_call 154; refine (must_ok _ _).mono ?_; rintro e w' ⟨rfl, rfl⟩)
  refine leaves_cons (f := 153) (args := #[.pointer (some ⟨w.heap.size, 0, none⟩), .pointer (some ⟨w.heap.size + 1, 0, none⟩)]) (by simp) (by simp [go_sem]) ?_
  refine (take1_idle _ _ _).mono ?_
  rintro e u' w2 ⟨rfl, rfl, rfl⟩
  refine ⟨_, results2 rfl ⟨_, rfl, loadVar_blk (cs := #[.int .i64 f, .int .i64 p, .int .i64 a, .string q]) (t := 67) ?_ Tryz.underlying67 rfl info_Key⟩ ⟨_, rfl, loadVar_int (t := 25) (v := .int .i64 0) ?_ Tryz.underlying25⟩, rfl, ?_⟩
  · refine Blk.other ?_ (by simp) _
    simpa [zKey] using (((((((HK1.out.set 0 (.int .i64 f)).set 1 (.int .i64 p)).set 2 (.int .i64 a)).set 3 (.string q)).set 0 (.int .i64 f)).set 1 (.int .i64 p)).set 2 (.int .i64 a)).set 3 (.string q)
  · refine Blk.set (cs := #[.int .i64 0]) ?_ 0 _
    iterate 8 refine Blk.other ?_ (by simp) _
    exact HE1.out
  · refine Below.setCell ?_ (by simp) _
    iterate 8 refine Below.setCell ?_ (by exact Nat.le_refl _) _
    exact HB1.out

theorem data_key_yes (d : ByteArray) (w : World) (h : keyRight d = true) :
    Calls Tryz.prog 38 #[.string d] w fun e w' => e = .returned (.tuple #[(keyOf d).v, .int .i64 0]) ∧ Below w.heap.size w w' := by
  have ht := fun w => take_key_yes d w h
  obtain ⟨f, p, a, q, hk⟩ : ∃ f p a q, (keyOf d).v = .agg #[.int .i64 f, .int .i64 p, .int .i64 a, .string q] := ⟨_, _, _, _, rfl⟩
  rw [hk] at ht ⊢
  have HT := Lib.hid ht; clear hk ht h
  go_enter Tryz.func38, Tryz.ntmps38
  go_wp2_with fail
  refine (HT.out _).mono ?_
  rintro e w1 ⟨rfl, hb⟩
  have hk1 : Blk w1 w.heap.size zKey 67 := (Blk.new w zKey 67).below hb (by simp)
  have c0 : w1.cell? ⟨w.heap.size, 0, none⟩ = some (.int .i64 0) := hk1.cell 0
  have c1 : w1.cell? ⟨w.heap.size, 1, none⟩ = some (.int .i64 0) := hk1.cell 1
  have c2 : w1.cell? ⟨w.heap.size, 2, none⟩ = some (.int .i64 0) := hk1.cell 2
  have c3 : w1.cell? ⟨w.heap.size, 3, none⟩ = some (.string ⟨#[]⟩) := hk1.cell 3
  have f0 := fun j => hk1.free j
  have HK1 := Lib.hid hk1; clear hk1
  go_wp2
  refine bodyPost_ret (results2 rfl ⟨_, rfl, loadVar_blk (cs := #[.int .i64 f, .int .i64 p, .int .i64 a, .string q]) (t := 67) ?_ Tryz.underlying67 rfl info_Key⟩ rfl) rfl ⟨rfl, ?_⟩
  · simpa [zKey] using (((HK1.out.set 0 (.int .i64 f)).set 1 (.int .i64 p)).set 2 (.int .i64 a)).set 3 (.string q)
  · iterate 4 refine Below.setCell ?_ (by exact Nat.le_refl _) _
    exact ((Below.refl _ w).alloc (Nat.le_refl _) _).trans (hb.mono (by simp))

theorem data_key_no (d : ByteArray) (w : World) (h : keyRight d = false) :
    Calls Tryz.prog 38 #[.string d] w fun e w' => e = .returned (.tuple #[KeyD.none.v, .int .i64 6]) ∧ Below w.heap.size w w' := by
  have ht := fun w => take_key_no d w h
  have hk : KeyD.none.v = .agg #[.int .i64 0, .int .i64 0, .int .i64 0, .string ⟨#[]⟩] := rfl
  rw [hk] at ht ⊢
  have HT := Lib.hid ht; clear hk ht h
  go_enter Tryz.func38, Tryz.ntmps38
  go_wp2_with fail
  refine (HT.out _).mono ?_
  rintro e w1 ⟨rfl, hb⟩
  have hk1 : Blk w1 w.heap.size zKey 67 := (Blk.new w zKey 67).below hb (by simp)
  have c0 : w1.cell? ⟨w.heap.size, 0, none⟩ = some (.int .i64 0) := hk1.cell 0
  have c1 : w1.cell? ⟨w.heap.size, 1, none⟩ = some (.int .i64 0) := hk1.cell 1
  have c2 : w1.cell? ⟨w.heap.size, 2, none⟩ = some (.int .i64 0) := hk1.cell 2
  have c3 : w1.cell? ⟨w.heap.size, 3, none⟩ = some (.string ⟨#[]⟩) := hk1.cell 3
  have f0 := fun j => hk1.free j
  have HK1 := Lib.hid hk1; clear hk1
  go_wp2
  refine bodyPost_ret (results2 rfl ⟨_, rfl, loadVar_blk (cs := #[.int .i64 0, .int .i64 0, .int .i64 0, .string ⟨#[]⟩]) (t := 67) ?_ Tryz.underlying67 rfl info_Key⟩ rfl) rfl ⟨rfl, ?_⟩
  · simpa [zKey] using (((HK1.out.set 0 (.int .i64 0)).set 1 (.int .i64 0)).set 2 (.int .i64 0)).set 3 (.string ⟨#[]⟩)
  · iterate 4 refine Below.setCell ?_ (by exact Nat.le_refl _) _
    exact ((Below.refl _ w).alloc (Nat.le_refl _) _).trans (hb.mono (by simp))

/-- Both in one: what data.Key tells. -/
theorem data_key (d : ByteArray) (w : World) :
    Calls Tryz.prog 38 #[.string d] w fun e w' => e = .returned (.tuple #[(if keyRight d then keyOf d else KeyD.none).v, .int .i64 (if keyRight d then 0 else 6)]) ∧ Below w.heap.size w w' := by
  cases h : keyRight d
  · simpa using data_key_no d w h
  · simpa using data_key_yes d w h
end Go.Proofs.YtdmfbcfhfopipaaGreatDoor

/- data.Right at DNSKEY, and keys.Tag. -/
namespace Go.Proofs.YtdmfbcfhfopipaaGreatDoor
open Go.RowKit

theorem is_key (g : Nat) (w : World) : Calls Tryz.prog 134 #[.func (.func g) #[] #[]] w fun e w' => e = .returned (.func (.func 208) #[] #[.pointer (some ⟨w.heap.size, 0, none⟩)]) ∧ w' = w.alloc (.cells #[.func (.func g) #[] #[]] 75) := by
  have hmf := makeFunc_run
  go_enter Tryz.func134, Tryz.ntmps134
  go_wp2
  go_ret
  exact ⟨rfl, rfl⟩

theorem is_key1 (d : ByteArray) (c : Nat) (w : World) (hc : Blk w c #[.func (.func 38) #[] #[]] 75) :
    Calls Tryz.prog 208 #[.string d, .pointer (some ⟨c, 0, none⟩)] w fun e w' => e = .returned (.bool (keyRight d)) ∧ Below w.heap.size w w' := by
  have hk := fun w => data_key d w
  have c0 : w.cell? ⟨c, 0, none⟩ = some (.func (.func 38) #[] #[]) := hc.cell 0
  clear hc
  obtain ⟨f, p, a, q, hv⟩ : ∃ f p a q, (if keyRight d then keyOf d else KeyD.none).v = .agg #[.int .i64 f, .int .i64 p, .int .i64 a, .string q] := ⟨_, _, _, _, rfl⟩
  rw [hv] at hk
  have HK := Lib.hid hk; clear hv hk
  cases hr : keyRight d
  all_goals
    rw [hr] at HK
    have HR := Lib.hid hr; clear hr
    simp only [if_true, Bool.false_eq_true, if_false] at HK
    go_enter Tryz.func208, Tryz.ntmps208
    go_wp2_with fail
    refine (HK.out _).mono ?_
    rintro e w1 ⟨rfl, hb⟩
    go_wp2
    go_ret
    exact ⟨rfl, hb.alloc hb.size _⟩

theorem info_form : (Tryz.prog.info? 90).map (·.size) = some 4 := by kernel_rfl

set_option maxRecDepth 100000 in
theorem form_key (w : World) : Calls Tryz.prog 51 #[.int .i64 48] w fun e w' =>
    ∃ c, e = .returned (.agg #[.func (.func 208) #[] #[.pointer (some ⟨c, 0, none⟩)], .func (.func 135) #[] #[], .func (.func 136) #[] #[], .nilFunc]) ∧
      Blk w' c #[.func (.func 38) #[] #[]] 75 ∧ Below w.heap.size w w' := by
  go_enter Tryz.func51, Tryz.ntmps51
  go_wp2_with (go_at_call 134; refine (is_key _ _).mono ?_; rintro e w' ⟨rfl, rfl⟩)
  refine bodyPost_ret (results1 rfl ⟨_, rfl, loadVar_blk (cs := #[.func (.func 208) #[] #[.pointer (some ⟨w.heap.size + 1 + 1, 0, none⟩)], .func (.func 135) #[] #[], .func (.func 136) #[] #[], .nilFunc]) (t := 90) ?_ Tryz.underlying90 rfl info_form⟩) rfl ⟨w.heap.size + 1 + 1, rfl, ?_, ?_⟩
  · exact ((Blk.new w _ _).alloc _).alloc _
  · have := Blk.new ((w.alloc (.cells #[.func (.func 208) #[] #[.pointer (some ⟨w.heap.size + 1 + 1, 0, none⟩)], .func (.func 135) #[] #[], .func (.func 136) #[] #[], .nilFunc] 90)).alloc (.cells #[.func (.func 32) #[] #[], .func (.func 92) #[] #[], .func (.func 94) #[] #[], .func (.func 97) #[] #[]] 90)) #[.func (.func 38) #[] #[]] 75
    simpa using this
  · exact (((Below.refl _ w).alloc (Nat.le_refl _) _).alloc (by simp) _).alloc (by simp; omega) _

theorem form_field0 (a b c d : Value) (w : World) : (Instr.field 90 (.agg #[a, b, c, d]) 0).run Tryz.prog w = .ok a w := by kernel_rfl

set_option maxRecDepth 100000 in
theorem right_key (d : ByteArray) (w : World) : Calls Tryz.prog 24 #[.int .i64 48, .string d] w fun e w' => e = .returned (.bool (keyRight d)) ∧ Below w.heap.size w w' := by
  by_cases hd : d.size ≤ 2000
  · have hd' : decide ((d.size : Int) ≤ 2000) = true := by simp; omega
    clear hd
    have hfl := form_field0
    go_enter Tryz.func24, Tryz.ntmps24
    go_wp2_with (first | (go_at_call 50; refine (isType_any _ _).mono ?_; rintro e w' ⟨rfl, rfl⟩) | (go_at_call 51; refine (form_key _).mono ?_; rintro e w1 ⟨c, rfl, hc, hb⟩; have HC := Lib.hid hc; clear hc) | (go_at_call 208; refine (is_key1 _ _ _ HC.out).mono ?_; rintro e w2 ⟨rfl, hb2⟩))
    go_ret
    exact ⟨rfl, hb.trans (hb2.mono hb.size)⟩
  · have hd' : decide ((d.size : Int) ≤ 2000) = false := by simp; omega
    have hk : keyRight d = false := by simp [keyRight, hd]
    rw [hk]
    clear hd hk
    go_enter Tryz.func24, Tryz.ntmps24
    go_wp2_with (go_at_call 50; refine (isType_any _ _).mono ?_; rintro e w' ⟨rfl, rfl⟩)
    go_ret
    exact ⟨rfl, Below.refl _ _⟩

/-- A key's tag. -/
def tagSum : List UInt8 → Nat → Int
  | [], _ => 0
  | b :: l, i => (if i % 2 = 0 then 256 * (b.toNat : Int) else (b.toNat : Int)) + tagSum l (i + 1)
def tagOf (d : ByteArray) : Int := (tagSum d.data.toList 0 + tagSum d.data.toList 0 / 65536) % 65536

theorem tagSum_bd : ∀ (l : List UInt8) (i : Nat), 0 ≤ tagSum l i ∧ tagSum l i ≤ 65280 * l.length := by
  intro l
  induction l with
  | nil => intro i; simp [tagSum]
  | cons b l ih =>
    intro i
    have := ih (i + 1)
    have hb := b.toNat_lt
    simp only [tagSum, List.length_cons]
    split <;> omega
theorem tagSum_drop (l : List UInt8) (k : Nat) (h : k < l.length) : tagSum (l.drop k) k = (if k % 2 = 0 then 256 * ((l.getD k 0).toNat : Int) else ((l.getD k 0).toNat : Int)) + tagSum (l.drop (k + 1)) (k + 1) := by
  rw [List.drop_eq_getElem_cons h]
  simp [tagSum, List.getD, List.getElem?_eq_getElem h]
theorem i64_and1_even (k : Nat) (h : k % 2 = 0) (hk : k < 9223372036854775808) : bits .and .i64 (k : Int) 1 = 0 := by
  have := i64_and_nat k 1 hk (by omega)
  rw [show ((1 : Nat) : Int) = 1 from rfl] at this
  rw [this, Nat.and_one_is_mod]; omega
theorem i64_and1_odd (k : Nat) (h : ¬ k % 2 = 0) (hk : k < 9223372036854775808) : bits .and .i64 (k : Int) 1 = 1 := by
  have := i64_and_nat k 1 hk (by omega)
  rw [show ((1 : Nat) : Int) = 1 from rfl] at this
  rw [this, Nat.and_one_is_mod]; omega

theorem tag_no (d : ByteArray) (w : World) (h : keyRight d = false) : Calls Tryz.prog 10 #[.string d] w fun e w' => e = .returned (.tuple #[.int .i64 0, .int .i64 6]) ∧ Below w.heap.size w w' := by
  have hr := fun w => right_key d w
  rw [h] at hr
  have HR := Lib.hid hr; clear hr h
  go_enter Tryz.func10, Tryz.ntmps10
  go_wp2_with (go_at_call 24; refine (HR.out _).mono ?_; rintro e w1 ⟨rfl, hb⟩)
  go_ret2
  exact ⟨rfl, hb⟩

set_option maxRecDepth 100000 in
theorem tag_yes (d : ByteArray) (w : World) (h : keyRight d = true) : Calls Tryz.prog 10 #[.string d] w fun e w' => e = .returned (.tuple #[.int .i64 (tagOf d), .int .i64 0]) ∧ Below w.heap.size w w' := by
  have hr := fun w => right_key d w
  rw [h] at hr
  have hd : d.size ≤ 2000 := by simp [keyRight] at h; omega
  have HR := Lib.hid hr; clear hr h
  have hcv := conv_string_bytes
  go_enter Tryz.func10, Tryz.ntmps10
  go_wp2_with (go_at_call 24; refine (HR.out _).mono ?_; rintro e w1 ⟨rfl, hb⟩)
  go_loop [4, 13] (fun v i => ∃ (k : Nat) (a : Int), k ≤ d.size ∧ i = .int .i64 k ∧ v = .int .u32 a ∧ 0 ≤ a ∧ Hid (a + tagSum (d.data.toList.drop k) k = tagSum d.data.toList 0)) (fun _ i => d.size - (intOf i).toNat)
  case atStart => exact ⟨0, 0, Nat.zero_le _, rfl, rfl, by omega, by simp [Hid]⟩
  case round =>
    obtain ⟨k, a, hk, rfl, rfl, ha, hs⟩ := hrel
    have hbd := tagSum_bd d.data.toList 0
    have hbd2 := tagSum_bd (d.data.toList.drop k) k
    have hlen : d.data.toList.length = d.size := by simp
    have hau : a ≤ 130560000 := by have := hs.out; omega
    by_cases hlt : k < d.size
    · have hcell := Lib.bytesWorld_cell w1 5 d k hlt
      have hbyte := (d.data.toList.getD k 0).toNat_lt
      have htd := tagSum_drop d.data.toList k (by omega)
      have hs2 := Lib.hid hs.out
      have HT := Lib.hid htd
      clear hbd hbd2 hlen htd hs
      have hge : d.data.toList.getD k 0 = d.data[k]'(by simpa using hlt) := by simp [List.getD, List.getElem?_eq_getElem (show k < d.data.toList.length by simpa using hlt)]
      have HG := Lib.hid hge; clear hge
      by_cases h2 : k % 2 = 0
      · have hand := i64_and1_even k h2 (by omega)
        go_wp2
        go_round
        case rel =>
          have e1 := HT.out; have e2 := hs2.out; have e3 := HG.out
          rw [if_pos h2] at e1
          rw [e3] at e1 hbyte
          refine ⟨k + 1, a + 256 * ((d.data[k]'(by simpa using hlt)).toNat : Int), by omega, by go_num, ?_, by omega, by unfold Hid; omega⟩
          have : (a + (((d.data[k]'(by simpa using hlt)).toNat : Nat) : Int) % 4294967296 * 256 % 4294967296) % 4294967296 = a + 256 * ((d.data[k]'(by simpa using hlt)).toNat : Int) := by omega
          rw [this]
        case measure => simp [intOf]; omega
      · have hand := i64_and1_odd k h2 (by omega)
        go_wp2
        go_round
        case rel =>
          have e1 := HT.out; have e2 := hs2.out; have e3 := HG.out
          rw [if_neg h2] at e1
          rw [e3] at e1 hbyte
          refine ⟨k + 1, a + ((d.data[k]'(by simpa using hlt)).toNat : Int), by omega, by go_num, ?_, by omega, by unfold Hid; omega⟩
          have : (a + (((d.data[k]'(by simpa using hlt)).toNat : Nat) : Int) % 4294967296) % 4294967296 = a + ((d.data[k]'(by simpa using hlt)).toNat : Int) := by omega
          first | rw [this] | (simp; omega)
        case measure => simp [intOf]; omega
    · obtain rfl : k = d.size := by omega
      have e := hs.out
      rw [List.drop_of_length_le (by omega)] at e
      simp only [tagSum, Int.add_zero] at e
      have HE := Lib.hid e
      have hm : ∀ x : Int, 0 ≤ x → x < 4294967296 → bits .and .u32 x 65535 = x % 65536 := by
        intro x h0 h1
        have := u32_and x 65535 h0 h1 (by omega) (by omega)
        rw [this, show (65535 : Int).toNat = 2 ^ 16 - 1 from rfl, Nat.and_two_pow_sub_one_eq_mod]
        omega
      have HM := Lib.hid hm
      clear e hs hbd hbd2 hlen hm
      go_wp2
      go_ret2
      refine ⟨?_, hb.trans ((below_bytesWorld _ _ _).mono hb.size)⟩
      have e2 : wrap64 (bits BinOp.and IntKind.u32 (a + a / 65536) 65535) = tagOf d := by
        rw [HM.out _ (by omega) (by omega)]
        unfold tagOf wrap64
        rw [← HE.out]
        omega
      show Ending.returned (Value.tuple #[Value.int IntKind.i64 (wrap64 (bits BinOp.and IntKind.u32 (a + a / 65536) 65535)), Value.int IntKind.i64 0]) = _
      rw [e2]

theorem key_tag (d : ByteArray) (w : World) : Calls Tryz.prog 10 #[.string d] w fun e w' => e = .returned (.tuple #[.int .i64 (if keyRight d then tagOf d else 0), .int .i64 (if keyRight d then 0 else 6)]) ∧ Below w.heap.size w w' := by
  cases h : keyRight d
  · simpa using tag_no d w h
  · simpa using tag_yes d w h
end Go.Proofs.YtdmfbcfhfopipaaGreatDoor

/- keys.Digest, walked. -/
namespace Go.Proofs.YtdmfbcfhfopipaaGreatDoor
open Go.RowKit Go.BigFrame

section
variable {P : Program} {C : World → Prop} {o : Oper} {a : Act} {K : Act → Prop}
theorem quiet_runD (v : Value) (h : ∀ w, C w → (execOp a.eval o).run P w = .ok (.value v) w) (hk : K (a.put o.dst v)) : o.quiet P a C K :=
  ⟨v, fun w hw => by unfold Oper.quietAt; rw [h w hw]; exact ⟨rfl, rfl⟩, hk⟩
theorem quiet_call (f : FuncId) (args : Array Value) (v : Value) (h : ∀ w, C w → (execOp a.eval o).run P w = .ok (.enter f args) w) (hc : ∀ w, C w → Calls P f args w (fun e w'' => e = .returned v ∧ C w'')) (hk : K (a.put o.dst v)) : o.quiet P a C K :=
  ⟨v, fun w hw => by unfold Oper.quietAt; rw [h w hw]; exact ⟨rfl, hc w hw⟩, hk⟩
end

/-- The digest of a key by kind, if there is one: its bytes, the error. -/
def keysDigest (kind : Int) (owner d : ByteArray) : ByteArray × Int :=
  if kind < 1 ∨ 2 < kind then (⟨#[]⟩, 1)
  else if nameRight owner = false then (⟨#[]⟩, 2)
  else if keyRight d = false then (⟨#[]⟩, 6)
  else if kind = 1 then (bs (sum160 (lowS owner ++ d).data.toList), 0)
  else (bs (sum256 (lowS owner ++ d).data.toList), 0)

def mkT : Array Value := #[.func (.func 61) #[] #[], .func (.func 48) #[] #[]]

theorem makers_any (w : World) : Calls Tryz.prog 31 #[] w fun e w' => e = .returned (.slice (some ⟨w.heap.size, 0, none⟩) 2 2) ∧ w' = w.alloc (.cells mkT 73) := by
  go_enter Tryz.func31, Tryz.ntmps31
  go_wp2_with fail
  go_ret
  exact ⟨rfl, rfl⟩

theorem keyRight_size {d : ByteArray} (h : keyRight d = true) : d.size ≤ 2000 := by simp [keyRight] at h; omega
theorem nameRight_size {s : ByteArray} (h : nameRight s = true) : s.size ≤ 255 := by simp [nameRight] at h; omega

set_option maxRecDepth 100000 in
set_option maxHeartbeats 1000000 in
theorem digest_one (kind : Int) (owner d : ByteArray) (w : World) (hk : kind = 1) (ho : nameRight owner = true) (hd : keyRight d = true) :
    Calls Tryz.prog 12 #[.int .i64 kind, .string owner, .string d] w fun e w' => e = .returned (.tuple #[.string (keysDigest kind owner d).1, .int .i64 (keysDigest kind owner d).2]) ∧ Below w.heap.size w w' := by
  subst hk
  have hdg : keysDigest 1 owner d = (bs (sum160 (lowS owner ++ d).data.toList), 0) := by rw [keysDigest, if_neg (by omega), if_neg (by rw [ho]; simp), if_neg (by rw [hd]; simp)]; rfl
  have HDG := Lib.hid hdg
  have hso := nameRight_size ho
  have hsd := keyRight_size hd
  have hsz : (lowS owner ++ d).size ≤ 9223372036854775000 := by rw [ByteArray.size_append, size_lowS]; omega
  have hnr := name_right owner
  have hdr := right_key d
  have hlow := name_lower owner
  rw [ho] at hnr
  rw [hd] at hdr
  rw [nameLower, if_pos ho] at hlow
  have HN := Lib.hid hnr; have HD := Lib.hid hdr; have HL := Lib.hid hlow
  have hmix : Tryz.prog.follows .mixedOrders = true := by kernel_rfl
  have hsl := size_lowS owner
  clear hnr hdr hlow hdg ho hd
  go_enter Tryz.func12, Tryz.ntmps12
  go_wp2_with (first
    | (go_at_call 31; refine (makers_any _).mono ?_; rintro e w1 ⟨rfl, rfl⟩)
    | (go_at_call 32; refine (HN.out _).mono ?_; rintro e w2 ⟨rfl, hB2⟩; replace hB2 := Lib.hid hB2)
    | (go_at_call 24; refine (HD.out _).mono ?_; rintro e w3 ⟨rfl, hB3⟩; replace hB3 := Lib.hid hB3))
  have hm : Blk w3 w.heap.size mkT 73 := ((Blk.new w mkT 73).below hB2.out (by simp)).below hB3.out (by have := hB2.out.size; simp at this; omega)
  have hB4 : Below w.heap.size w w3 := (((Below.refl w.heap.size w).alloc (Nat.le_refl _) _).trans (hB2.out.mono (by simp))).trans (hB3.out.mono (by have := hB2.out.size; simp at this; omega))
  clear hB2 hB3
  have HM := Lib.hid hm; have HB4 := Lib.hid hB4
  clear hm hB4
  refine wp_region_quiet (C := fun W => Below w3.heap.size w3 W) hmix (by kernel_rfl) ⟨rfl, rfl, rfl, Nat.le_refl _, fun _ _ => rfl⟩ ?_
  refine wpQuiet_want rfl fun K hK => quiet_move _ rfl (hK _ ?_)
  clear hK K
  refine wpQuiet_want rfl fun K hK => quiet_move _ rfl (hK _ ?_)
  clear hK K
  refine wpQuiet_want rfl fun K hK => quiet_runD (.int .i64 0) (fun W hW => ?run) (hK _ ?_)
  case run => first | (simp [go_sem, Act.put, Act.eval]; done) | (simp [go_sem, Act.put, Act.eval]; rfl)
  clear hK K
  refine wpQuiet_want rfl fun K hK => quiet_runD (.pointer (some ⟨w.heap.size, 0, none⟩)) (fun W hW => ?run) (hK _ ?_)
  case run => first | (simp [go_sem, Act.put, Act.eval]; done) | (simp [go_sem, Act.put, Act.eval]; rfl)
  clear hK K
  refine wpQuiet_want rfl fun K hK => quiet_runD (.pointer (some ⟨w.heap.size, 0, none⟩)) (fun W hW => ?run) (hK _ ?_)
  case run => first | (simp [go_sem, Act.put, Act.eval]; done) | (simp [go_sem, Act.put, Act.eval]; rfl)
  clear hK K
  refine wpQuiet_want rfl fun K hK => quiet_runD (.func (.func 61) #[] #[]) (fun W hW => ?run) (hK _ ?_)
  case run =>
    have hc : W.cell? ⟨w.heap.size, 0, none⟩ = some (.func (.func 61) #[] #[]) := (HM.out.below hW HM.out.lt).cell 0
    simp [go_sem, Act.put, Act.eval, hc]
  clear hK K
  refine wpQuiet_want rfl fun K hK => quiet_move _ rfl (hK _ ?_)
  clear hK K
  refine wpQuiet_want rfl fun K hK => quiet_call 33 #[.string owner] (.string (lowS owner)) (fun W hW => ?run) (fun W hW => (HL.out W).mono fun e w' h => ⟨h.1, hW.trans (h.2.mono hW.size)⟩) (hK _ ?_)
  case run => simp [go_sem, Act.put, Act.eval]
  clear hK K
  refine wpQuiet_want rfl fun K hK => quiet_move _ rfl (hK _ ?_)
  clear hK K
  refine wpQuiet_want rfl fun K hK => quiet_runD (.string (lowS owner ++ d)) (fun W hW => ?run) (hK _ ?_)
  case run =>
    simp [go_sem, Act.put, Act.eval]
    omega
  clear hK K
  refine wpQuiet_want rfl fun K hK => quiet_call 61 #[.string (lowS owner ++ d)] (.string (bs (sum160 (lowS owner ++ d).data.toList))) (fun W hW => ?run) (fun W hW => (sum160_any _ W hsz).mono fun e w' h => ⟨h.1, hW.trans (h.2.mono hW.size)⟩) (hK _ ?_)
  case run => simp [go_sem, Act.put, Act.eval]
  clear hK K
  refine wpQuiet_want rfl fun K hK => quiet_assign _ rfl (hK _ ?_)
  clear hK K
  refine wpQuiet_want rfl fun K hK => quiet_assign _ rfl (hK _ ?_)
  clear hK K
  refine wpQuiet_nil ?_
  intro W hW
  replace hW := Lib.hid hW
  go_wp2_with fail
  rw [HDG.out]
  have hfin := HB4.out.trans (hW.out.mono HB4.out.size)
  clear HDG
  generalize hs6 : (bs (sum160 (lowS owner ++ d).data.toList)) = out
  simp only [Act.put]
  refine bodyPost_ret (results_tmp2 rfl _ _ _) rfl ⟨?_, hfin⟩
  simp [Act.eval]
set_option maxRecDepth 100000 in
set_option maxHeartbeats 1000000 in
theorem digest_two (kind : Int) (owner d : ByteArray) (w : World) (hk : kind = 2) (ho : nameRight owner = true) (hd : keyRight d = true) :
    Calls Tryz.prog 12 #[.int .i64 kind, .string owner, .string d] w fun e w' => e = .returned (.tuple #[.string (keysDigest kind owner d).1, .int .i64 (keysDigest kind owner d).2]) ∧ Below w.heap.size w w' := by
  subst hk
  have hdg : keysDigest 2 owner d = (bs (sum256 (lowS owner ++ d).data.toList), 0) := by rw [keysDigest, if_neg (by omega), if_neg (by rw [ho]; simp), if_neg (by rw [hd]; simp)]; rfl
  have HDG := Lib.hid hdg
  have hso := nameRight_size ho
  have hsd := keyRight_size hd
  have hsz : (lowS owner ++ d).size ≤ 9223372036854775000 := by rw [ByteArray.size_append, size_lowS]; omega
  have hnr := name_right owner
  have hdr := right_key d
  have hlow := name_lower owner
  rw [ho] at hnr
  rw [hd] at hdr
  rw [nameLower, if_pos ho] at hlow
  have HN := Lib.hid hnr; have HD := Lib.hid hdr; have HL := Lib.hid hlow
  have hmix : Tryz.prog.follows .mixedOrders = true := by kernel_rfl
  have hsl := size_lowS owner
  clear hnr hdr hlow hdg ho hd
  go_enter Tryz.func12, Tryz.ntmps12
  go_wp2_with (first
    | (go_at_call 31; refine (makers_any _).mono ?_; rintro e w1 ⟨rfl, rfl⟩)
    | (go_at_call 32; refine (HN.out _).mono ?_; rintro e w2 ⟨rfl, hB2⟩; replace hB2 := Lib.hid hB2)
    | (go_at_call 24; refine (HD.out _).mono ?_; rintro e w3 ⟨rfl, hB3⟩; replace hB3 := Lib.hid hB3))
  have hm : Blk w3 w.heap.size mkT 73 := ((Blk.new w mkT 73).below hB2.out (by simp)).below hB3.out (by have := hB2.out.size; simp at this; omega)
  have hB4 : Below w.heap.size w w3 := (((Below.refl w.heap.size w).alloc (Nat.le_refl _) _).trans (hB2.out.mono (by simp))).trans (hB3.out.mono (by have := hB2.out.size; simp at this; omega))
  clear hB2 hB3
  have HM := Lib.hid hm; have HB4 := Lib.hid hB4
  clear hm hB4
  refine wp_region_quiet (C := fun W => Below w3.heap.size w3 W) hmix (by kernel_rfl) ⟨rfl, rfl, rfl, Nat.le_refl _, fun _ _ => rfl⟩ ?_
  refine wpQuiet_want rfl fun K hK => quiet_move _ rfl (hK _ ?_)
  clear hK K
  refine wpQuiet_want rfl fun K hK => quiet_move _ rfl (hK _ ?_)
  clear hK K
  refine wpQuiet_want rfl fun K hK => quiet_runD (.int .i64 1) (fun W hW => ?run) (hK _ ?_)
  case run => first | (simp [go_sem, Act.put, Act.eval]; done) | (simp [go_sem, Act.put, Act.eval]; rfl)
  clear hK K
  refine wpQuiet_want rfl fun K hK => quiet_runD (.pointer (some ⟨w.heap.size, 1, none⟩)) (fun W hW => ?run) (hK _ ?_)
  case run => first | (simp [go_sem, Act.put, Act.eval]; done) | (simp [go_sem, Act.put, Act.eval]; rfl)
  clear hK K
  refine wpQuiet_want rfl fun K hK => quiet_runD (.pointer (some ⟨w.heap.size, 1, none⟩)) (fun W hW => ?run) (hK _ ?_)
  case run => first | (simp [go_sem, Act.put, Act.eval]; done) | (simp [go_sem, Act.put, Act.eval]; rfl)
  clear hK K
  refine wpQuiet_want rfl fun K hK => quiet_runD (.func (.func 48) #[] #[]) (fun W hW => ?run) (hK _ ?_)
  case run =>
    have hc : W.cell? ⟨w.heap.size, 1, none⟩ = some (.func (.func 48) #[] #[]) := (HM.out.below hW HM.out.lt).cell 1
    simp [go_sem, Act.put, Act.eval, hc]
  clear hK K
  refine wpQuiet_want rfl fun K hK => quiet_move _ rfl (hK _ ?_)
  clear hK K
  refine wpQuiet_want rfl fun K hK => quiet_call 33 #[.string owner] (.string (lowS owner)) (fun W hW => ?run) (fun W hW => (HL.out W).mono fun e w' h => ⟨h.1, hW.trans (h.2.mono hW.size)⟩) (hK _ ?_)
  case run => simp [go_sem, Act.put, Act.eval]
  clear hK K
  refine wpQuiet_want rfl fun K hK => quiet_move _ rfl (hK _ ?_)
  clear hK K
  refine wpQuiet_want rfl fun K hK => quiet_runD (.string (lowS owner ++ d)) (fun W hW => ?run) (hK _ ?_)
  case run =>
    simp [go_sem, Act.put, Act.eval]
    omega
  clear hK K
  refine wpQuiet_want rfl fun K hK => quiet_call 48 #[.string (lowS owner ++ d)] (.string (bs (sum256 (lowS owner ++ d).data.toList))) (fun W hW => ?run) (fun W hW => (sum256_any _ W hsz).mono fun e w' h => ⟨h.1, hW.trans (h.2.mono hW.size)⟩) (hK _ ?_)
  case run => simp [go_sem, Act.put, Act.eval]
  clear hK K
  refine wpQuiet_want rfl fun K hK => quiet_assign _ rfl (hK _ ?_)
  clear hK K
  refine wpQuiet_want rfl fun K hK => quiet_assign _ rfl (hK _ ?_)
  clear hK K
  refine wpQuiet_nil ?_
  intro W hW
  replace hW := Lib.hid hW
  go_wp2_with fail
  rw [HDG.out]
  have hfin := HB4.out.trans (hW.out.mono HB4.out.size)
  clear HDG
  generalize hs6 : (bs (sum256 (lowS owner ++ d).data.toList)) = out
  simp only [Act.put]
  refine bodyPost_ret (results_tmp2 rfl _ _ _) rfl ⟨?_, hfin⟩
  simp [Act.eval]

set_option maxRecDepth 100000 in
set_option maxHeartbeats 1000000 in
theorem digest_kind (kind : Int) (owner d : ByteArray) (w : World) (hk : kind < 1 ∨ 2 < kind) :
    Calls Tryz.prog 12 #[.int .i64 kind, .string owner, .string d] w fun e w' => e = .returned (.tuple #[.string (keysDigest kind owner d).1, .int .i64 (keysDigest kind owner d).2]) ∧ Below w.heap.size w w' := by
  have hdg : keysDigest kind owner d = (⟨#[]⟩, 1) := by rw [keysDigest, if_pos hk]
  have hmk : Below w.heap.size w (w.alloc (.cells mkT 73)) := (Below.refl w.heap.size w).alloc (Nat.le_refl _) _
  have HMK := Lib.hid hmk; have HD := Lib.hid hdg
  clear hmk hdg
  by_cases h1 : kind < 1
  · have q1 : decide (kind < 1) = true := decide_eq_true h1
    clear hk h1
    go_enter Tryz.func12, Tryz.ntmps12
    go_wp2_with (go_at_call 31; refine (makers_any _).mono ?_; rintro e w1 ⟨rfl, rfl⟩)
    go_ret2
    exact ⟨by rw [HD.out]; rfl, HMK.out⟩
  · have q1 : decide (kind < 1) = false := decide_eq_false h1
    have q2 : decide (2 < kind) = true := decide_eq_true (by omega)
    clear hk h1
    go_enter Tryz.func12, Tryz.ntmps12
    go_wp2_with (go_at_call 31; refine (makers_any _).mono ?_; rintro e w1 ⟨rfl, rfl⟩)
    go_ret2
    exact ⟨by rw [HD.out]; rfl, HMK.out⟩
set_option maxRecDepth 100000 in
set_option maxHeartbeats 1000000 in
theorem digest_name (kind : Int) (owner d : ByteArray) (w : World) (hk : 1 ≤ kind ∧ kind ≤ 2) (ho : nameRight owner = false) :
    Calls Tryz.prog 12 #[.int .i64 kind, .string owner, .string d] w fun e w' => e = .returned (.tuple #[.string (keysDigest kind owner d).1, .int .i64 (keysDigest kind owner d).2]) ∧ Below w.heap.size w w' := by
  have hdg : keysDigest kind owner d = (⟨#[]⟩, 2) := by rw [keysDigest, if_neg (by omega), if_pos ho]
  have hnr := name_right owner
  rw [ho] at hnr
  have HN := Lib.hid hnr
  clear ho hnr
  have hmk : Below w.heap.size w (w.alloc (.cells mkT 73)) := (Below.refl w.heap.size w).alloc (Nat.le_refl _) _
  have HMK := Lib.hid hmk; have HD := Lib.hid hdg
  clear hmk hdg
  have q1 : decide (kind < 1) = false := decide_eq_false (by omega)
  have q2 : decide (2 < kind) = false := decide_eq_false (by omega)
  clear hk
  go_enter Tryz.func12, Tryz.ntmps12
  go_wp2_with (first
    | (go_at_call 31; refine (makers_any _).mono ?_; rintro e w1 ⟨rfl, rfl⟩)
    | (go_at_call 32; refine (HN.out _).mono ?_; rintro e w2 ⟨rfl, hB2⟩; replace hB2 := Lib.hid hB2))
  go_ret2
  exact ⟨by rw [HD.out]; rfl, HMK.out.trans (hB2.out.mono HMK.out.size)⟩
set_option maxRecDepth 100000 in
set_option maxHeartbeats 1000000 in
theorem digest_key (kind : Int) (owner d : ByteArray) (w : World) (hk : 1 ≤ kind ∧ kind ≤ 2) (ho : nameRight owner = true) (hd : keyRight d = false) :
    Calls Tryz.prog 12 #[.int .i64 kind, .string owner, .string d] w fun e w' => e = .returned (.tuple #[.string (keysDigest kind owner d).1, .int .i64 (keysDigest kind owner d).2]) ∧ Below w.heap.size w w' := by
  have hdg : keysDigest kind owner d = (⟨#[]⟩, 6) := by rw [keysDigest, if_neg (by omega), if_neg (by rw [ho]; simp), if_pos hd]
  have hnr := name_right owner
  rw [ho] at hnr
  have hdr := right_key d
  rw [hd] at hdr
  have HN := Lib.hid hnr; have HR := Lib.hid hdr
  clear ho hnr hd hdr
  have hmk : Below w.heap.size w (w.alloc (.cells mkT 73)) := (Below.refl w.heap.size w).alloc (Nat.le_refl _) _
  have HMK := Lib.hid hmk; have HD := Lib.hid hdg
  clear hmk hdg
  have q1 : decide (kind < 1) = false := decide_eq_false (by omega)
  have q2 : decide (2 < kind) = false := decide_eq_false (by omega)
  clear hk
  go_enter Tryz.func12, Tryz.ntmps12
  go_wp2_with (first
    | (go_at_call 31; refine (makers_any _).mono ?_; rintro e w1 ⟨rfl, rfl⟩)
    | (go_at_call 32; refine (HN.out _).mono ?_; rintro e w2 ⟨rfl, hB2⟩; replace hB2 := Lib.hid hB2)
    | (go_at_call 24; refine (HR.out _).mono ?_; rintro e w3 ⟨rfl, hB3⟩; replace hB3 := Lib.hid hB3))
  go_ret2
  have h2 := HMK.out.trans (hB2.out.mono HMK.out.size)
  exact ⟨by rw [HD.out]; rfl, h2.trans (hB3.out.mono h2.size)⟩

theorem keys_digest (kind : Int) (owner d : ByteArray) (w : World) :
    Calls Tryz.prog 12 #[.int .i64 kind, .string owner, .string d] w fun e w' => e = .returned (.tuple #[.string (keysDigest kind owner d).1, .int .i64 (keysDigest kind owner d).2]) ∧ Below w.heap.size w w' := by
  by_cases hk : kind < 1 ∨ 2 < kind
  · exact digest_kind kind owner d w hk
  · cases ho : nameRight owner with
    | false => exact digest_name kind owner d w (by omega) ho
    | true =>
      cases hd : keyRight d with
      | false => exact digest_key kind owner d w (by omega) ho hd
      | true =>
        by_cases h1 : kind = 1
        · exact digest_one kind owner d w h1 ho hd
        · exact digest_two kind owner d w (by omega) ho hd
end Go.Proofs.YtdmfbcfhfopipaaGreatDoor

/- keys.Of, walked. -/
namespace Go.Proofs.YtdmfbcfhfopipaaGreatDoor
open Go.RowKit

structure DsD where
  tag : Int
  alg : Int
  kind : Int
  dig : ByteArray
  deriving DecidableEq
def DsD.cells (x : DsD) : Array Value := #[.int .i64 x.tag, .int .i64 x.alg, .int .i64 x.kind, .string x.dig]
def DsD.v (x : DsD) : Value := .agg x.cells
def DsD.none : DsD := ⟨0, 0, 0, ⟨#[]⟩⟩
def keysOf (owner d : ByteArray) (kind : Int) : DsD × Int :=
  if (keysDigest kind owner d).2 = 0 then (⟨tagOf d, (keyOf d).alg, kind, (keysDigest kind owner d).1⟩, 0) else (DsD.none, (keysDigest kind owner d).2)
theorem keysDigest_ok {kind : Int} {owner d : ByteArray} (h : (keysDigest kind owner d).2 = 0) : keyRight d = true ∧ nameRight owner = true ∧ (kind = 1 ∨ kind = 2) := by
  unfold keysDigest at h
  split at h
  · simp at h
  · split at h
    · simp at h
    · split at h
      · simp at h
      · rename_i h1 h2 h3
        exact ⟨by simpa using h3, by simpa using h2, by omega⟩
theorem info_Ds : (Tryz.prog.info? 23).map (·.size) = some 4 := by kernel_rfl

theorem ds_put {w : World} {b : Nat} {x : DsD} {t : TypeId} (h : Blk w b x.cells t) (y : DsD) :
    Blk ((((w.setCell ⟨b, 0, none⟩ (.int .i64 y.tag)).setCell ⟨b, 1, none⟩ (.int .i64 y.alg)).setCell ⟨b, 2, none⟩ (.int .i64 y.kind)).setCell ⟨b, 3, none⟩ (.string y.dig)) b y.cells t := by
  have := (((h.set 0 (.int .i64 y.tag)).set 1 (.int .i64 y.alg)).set 2 (.int .i64 y.kind)).set 3 (.string y.dig)
  simpa [DsD.cells] using this
theorem below_put4 {w0 w : World} {B b : Nat} (h : Below B w0 w) (hb : B ≤ b) (v0 v1 v2 v3 : Value) : Below B w0 ((((w.setCell ⟨b, 0, none⟩ v0).setCell ⟨b, 1, none⟩ v1).setCell ⟨b, 2, none⟩ v2).setCell ⟨b, 3, none⟩ v3) :=
  (((h.setCell (p := ⟨b, 0, none⟩) hb _).setCell (p := ⟨b, 1, none⟩) hb _).setCell (p := ⟨b, 2, none⟩) hb _).setCell (p := ⟨b, 3, none⟩) hb _
theorem ds_load {w : World} {b : Nat} {x : DsD} {t : TypeId} (h : Blk w b x.cells t) : (loadVar 23 ⟨b, 0, none⟩).run Tryz.prog w = .ok x.v w :=
  loadVar_blk h Tryz.underlying23 rfl info_Ds

set_option maxRecDepth 100000 in
set_option maxHeartbeats 1000000 in
theorem keys_of_no (owner d : ByteArray) (kind : Int) (w : World) (h : (keysDigest kind owner d).2 ≠ 0) :
    Calls Tryz.prog 14 #[.string owner, .string d, .int .i64 kind] w fun e w' => e = .returned (.tuple #[(keysOf owner d kind).1.v, .int .i64 (keysOf owner d kind).2]) ∧ Below w.heap.size w w' := by
  have hdg := keys_digest kind owner d
  have hof : keysOf owner d kind = (DsD.none, (keysDigest kind owner d).2) := by rw [keysOf, if_neg h]
  rw [hof]
  generalize (keysDigest kind owner d).2 = err at hdg h ⊢
  generalize (keysDigest kind owner d).1 = dig at hdg
  have HD := Lib.hid hdg
  clear hdg hof
  have q1 : (err != 0) = true := by simpa using h
  clear h
  go_enter Tryz.func14, Tryz.ntmps14
  go_wp2_with (go_at_call 12; refine (HD.out _).mono ?_; rintro e w1 ⟨rfl, hB⟩; have hg := (Blk.new w #[.int .i64 0, .int .i64 0, .int .i64 0, .string ⟨#[]⟩] 23).below hB (by simp); replace hB := Lib.hid hB; have c0 : w1.cell? ⟨w.heap.size, 0, none⟩ = some (.int .i64 0) := hg.cell 0; have c1 : w1.cell? ⟨w.heap.size, 1, none⟩ = some (.int .i64 0) := hg.cell 1; have c2 : w1.cell? ⟨w.heap.size, 2, none⟩ = some (.int .i64 0) := hg.cell 2; have c3 : w1.cell? ⟨w.heap.size, 3, none⟩ = some (.string ⟨#[]⟩) := hg.cell 3; have fg := hg.free; replace hg := Lib.hid hg)
  have h1 : Blk w1 w.heap.size DsD.none.cells 23 := hg.out
  refine bodyPost_ret (results2 rfl ⟨_, rfl, ds_load (ds_put h1 DsD.none)⟩ rfl) rfl ⟨rfl, ?_⟩
  exact below_put4 (((Below.refl w.heap.size w).alloc (Nat.le_refl _) _).trans (hB.out.mono (by simp))) (Nat.le_refl _) _ _ _ _

set_option maxRecDepth 100000 in
set_option maxHeartbeats 1000000 in
theorem keys_of_yes (owner d : ByteArray) (kind : Int) (w : World) (h : (keysDigest kind owner d).2 = 0) :
    Calls Tryz.prog 14 #[.string owner, .string d, .int .i64 kind] w fun e w' => e = .returned (.tuple #[(keysOf owner d kind).1.v, .int .i64 (keysOf owner d kind).2]) ∧ Below w.heap.size w w' := by
  have hdg := keys_digest kind owner d
  have hof : keysOf owner d kind = (⟨tagOf d, (keyOf d).alg, kind, (keysDigest kind owner d).1⟩, 0) := by rw [keysOf, if_pos h]
  have hr := (keysDigest_ok h).1
  have hkey := data_key d
  have htag := key_tag d
  rw [hr] at hkey htag
  simp only [if_true] at hkey htag
  rw [h] at hdg
  rw [hof]
  clear h hof hr
  generalize (keysDigest kind owner d).1 = dig at hdg ⊢
  generalize tagOf d = tag at htag ⊢
  obtain ⟨fl, pr, al, pu, hkv, hka⟩ : ∃ f p a q, (keyOf d).v = .agg #[.int .i64 f, .int .i64 p, .int .i64 a, .string q] ∧ (keyOf d).alg = a := ⟨_, _, _, _, rfl, rfl⟩
  rw [hkv] at hkey
  rw [hka]
  have HD := Lib.hid hdg; have HT := Lib.hid htag; have HKY := Lib.hid hkey
  clear hdg hkv hka htag hkey
  go_enter Tryz.func14, Tryz.ntmps14
  go_wp2_with (first
    | (go_at_call 12; refine (HD.out _).mono ?_; rintro e w1 ⟨rfl, hB⟩; have hg : Blk w1 w.heap.size DsD.none.cells 23 := (Blk.new w #[.int .i64 0, .int .i64 0, .int .i64 0, .string ⟨#[]⟩] 23).below hB (by simp); have hB1 : Below w.heap.size w w1 := ((Below.refl w.heap.size w).alloc (Nat.le_refl _) _).trans (hB.mono (by simp)); replace hB := Lib.hid hB; replace hB1 := Lib.hid hB1; replace hg := Lib.hid hg)
    | (go_at_call 38; refine (HKY.out _).mono ?_; rintro e w2 ⟨rfl, hB2⟩; replace hg := Lib.hid (hg.out.below hB2 hg.out.lt); replace hB1 := Lib.hid (hB1.out.trans (hB2.mono hB1.out.size)); clear hB2)
    | (go_at_call 10; refine (HT.out _).mono ?_; rintro e w3 ⟨rfl, hB3⟩; have hk3 : Blk w3 w2.heap.size #[.int .i64 fl, .int .i64 pr, .int .i64 al, .string pu] 67 := (Blk.new w2 #[.int .i64 fl, .int .i64 pr, .int .i64 al, .string pu] 67).below hB3 (by simp); have ck : w3.cell? ⟨w2.heap.size, 2, none⟩ = some (.int .i64 al) := hk3.cell 2; clear hk3; have hg3 : Blk w3 w.heap.size DsD.none.cells 23 := (hg.out.alloc _).below hB3 (by have := hg.out.lt; simp; omega); replace hB1 := Lib.hid ((hB1.out.alloc hB1.out.size (.cells #[.int .i64 fl, .int .i64 pr, .int .i64 al, .string pu] 67)).trans (hB3.mono (by have := hB1.out.size; simp; omega))); clear hB3 hg; have c0 : w3.cell? ⟨w.heap.size, 0, none⟩ = some (.int .i64 0) := hg3.cell 0; have c1 : w3.cell? ⟨w.heap.size, 1, none⟩ = some (.int .i64 0) := hg3.cell 1; have c2 : w3.cell? ⟨w.heap.size, 2, none⟩ = some (.int .i64 0) := hg3.cell 2; have c3 : w3.cell? ⟨w.heap.size, 3, none⟩ = some (.string ⟨#[]⟩) := hg3.cell 3; have fg := hg3.free; replace hg3 := Lib.hid hg3))
  refine bodyPost_ret (results2 rfl ⟨_, rfl, ds_load (ds_put hg3.out ⟨tag, al, kind, dig⟩)⟩ rfl) rfl ⟨rfl, ?_⟩
  exact below_put4 hB1.out (Nat.le_refl _) _ _ _ _

theorem keys_of (owner d : ByteArray) (kind : Int) (w : World) :
    Calls Tryz.prog 14 #[.string owner, .string d, .int .i64 kind] w fun e w' => e = .returned (.tuple #[(keysOf owner d kind).1.v, .int .i64 (keysOf owner d kind).2]) ∧ Below w.heap.size w w' := by
  by_cases h : (keysDigest kind owner d).2 = 0
  · exact keys_of_yes owner d kind w h
  · exact keys_of_no owner d kind w h
end Go.Proofs.YtdmfbcfhfopipaaGreatDoor

/- keys.Fits, walked. -/
namespace Go.Proofs.YtdmfbcfhfopipaaGreatDoor
open Go.RowKit

def fitsB (owner d : ByteArray) (x : DsD) : Bool := decide ((keysOf owner d x.kind).2 = 0) && decide ((keysOf owner d x.kind).1 = x)

theorem toList_iff (a b : ByteArray) : a.toList = b.toList ↔ a = b := by
  constructor
  · intro h
    rw [ByteArray.toList_eq, ByteArray.toList_eq] at h
    exact ByteArray.ext (Array.toList_inj.1 h)
  · intro h; rw [h]

set_option maxRecDepth 100000 in
set_option maxHeartbeats 1000000 in
theorem keys_fits (owner d : ByteArray) (x : DsD) (w : World) :
    Calls Tryz.prog 17 #[.string owner, .string d, x.v] w fun e w' => e = .returned (.bool (fitsB owner d x)) ∧ Below w.heap.size w w' := by
  have hof := keys_of owner d x.kind
  have hfi : fitsB owner d x = (decide ((keysOf owner d x.kind).2 = 0) && decide ((keysOf owner d x.kind).1 = x)) := rfl
  rw [hfi]
  clear hfi
  generalize (keysOf owner d x.kind).2 = err at hof ⊢
  generalize (keysOf owner d x.kind).1 = y at hof ⊢
  obtain ⟨xt, xa, xk, xd⟩ := x
  obtain ⟨yt, ya, yk, yd⟩ := y
  simp only [DsD.v, DsD.cells, DsD.mk.injEq] at hof ⊢
  have HO := Lib.hid hof
  clear hof
  go_enter Tryz.func17, Tryz.ntmps17
  go_wp2_with (go_at_call 14; refine (HO.out _).mono ?_; rintro e w1 ⟨rfl, hB⟩; have hx : Blk w1 w.heap.size #[.int .i64 xt, .int .i64 xa, .int .i64 xk, .string xd] 23 := (Blk.new w #[.int .i64 xt, .int .i64 xa, .int .i64 xk, .string xd] 23).below hB (by simp); have c0 : ∀ o, (w1.alloc o).cell? ⟨w.heap.size, 0, none⟩ = some (.int .i64 xt) := fun o => (hx.alloc o).cell 0; have c1 : ∀ o, (w1.alloc o).cell? ⟨w.heap.size, 1, none⟩ = some (.int .i64 xa) := fun o => (hx.alloc o).cell 1; have c2 : ∀ o, (w1.alloc o).cell? ⟨w.heap.size, 2, none⟩ = some (.int .i64 xk) := fun o => (hx.alloc o).cell 2; have c3 : ∀ o, (w1.alloc o).cell? ⟨w.heap.size, 3, none⟩ = some (.string xd) := fun o => (hx.alloc o).cell 3; have hB1 : Below w.heap.size w w1 := ((Below.refl w.heap.size w).alloc (Nat.le_refl _) _).trans (hB.mono (by simp)); clear hx hB; replace hB1 := Lib.hid hB1)
  all_goals (go_ret; exact ⟨by have htl := toList_iff yd xd; simp_all, hB1.out.alloc hB1.out.size _⟩)
end Go.Proofs.YtdmfbcfhfopipaaGreatDoor

