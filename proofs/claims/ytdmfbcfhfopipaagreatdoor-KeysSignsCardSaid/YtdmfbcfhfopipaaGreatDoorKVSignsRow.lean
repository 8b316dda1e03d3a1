import Derived.Test.YtdmfbcfhfopipaaGreatDoorKV5
import Derived.Test.YtdmfbcfhfopipaaGreatDoorKV6
import Derived.Test.YtdmfbcfhfopipaaGreatDoorKV10
import Derived.Test.YtdmfbcfhfopipaaGreatDoorKV1
import Derived.Test.YtdmfbcfhfopipaaGreatDoorKV9
import Derived.Test.YtdmfbcfhfopipaaGreatDoorKV11
import Derived.Deep.DeepCutAuto
import Derived.Test.YtdmfbcfhfopipaaGreatDoorRows
import Derived.Test.YtdmfbcfhfopipaaGreatDoorTie
import Derived.Test.YtdmfbcfhfopipaaGreatDoorCards
import Derived.Lib.SmallJoins
import Derived.ProofKit
import Derived.OpenShut
import Derived.LaidMore
import Derived.Lay
import Derived.SevenTiedAt
import Derived.Stop.Joined
/- KeysSigns: the plain law. -/
namespace Go.Proofs.YtdmfbcfhfopipaaGreatDoor
open Go.RowKit

theorem pub_split (E N : List UInt8) (x : UInt8) (hx : x.toNat = E.length) (he : 1 ≤ E.length) : rsaSplit (x :: (E ++ N)) = some (E.length, E ++ N) := by
  unfold rsaSplit
  rw [if_neg (by simp), if_neg (show ¬ ((x :: (E ++ N)).getD 0 0).toNat = 0 by rw [List.getD_cons_zero, hx]; omega)]
  simp [hx]
theorem pub_good (E N : List UInt8) (x : UInt8) (hx : x.toNat = E.length) (he : 1 ≤ E.length) (hn : N.length = 64) (hg : rsaGood (x :: (E ++ N)) = true) :
    rsaNum (x :: (E ++ N)) = (be E, be N) ∧ vMany (x :: (E ++ N)) = 64 ∧ be N < 256 ^ 64 := by
  have h0 := pub_split E N x hx he
  have hk : rsaOk E.length (E ++ N) = true := by
    unfold rsaGood rsaOf at hg
    rw [h0] at hg
    simp only [] at hg
    cases h : rsaOk E.length (E ++ N) with
    | true => rfl
    | false => rw [h] at hg; simp at hg
  have h1 : rsaNum (x :: (E ++ N)) = (be E, be N) := by
    unfold rsaNum rsaOf
    rw [h0]
    simp only [hk, if_true]
    simp
  have hlt := be_lt N
  rw [hn] at hlt
  refine ⟨h1, ?_, hlt⟩
  have hz : (N.getD 0 0).toNat ≠ 0 := by
    simp only [rsaOk, Bool.and_eq_true, decide_eq_true_eq] at hk
    have := hk.1.1.1.2
    have e : (E ++ N).getD E.length 0 = N.getD 0 0 := by rw [List.getD_eq_getElem?_getD, List.getElem?_append_right (Nat.le_refl _), Nat.sub_self, ← List.getD_eq_getElem?_getD]
    rw [e] at this
    exact this
  have hlo := be_low N (by omega) hz
  rw [hn] at hlo
  obtain ⟨b, b1, b2, b3⟩ := bits_nd (be N)
  have hp : ∀ k : Nat, 256 ^ k = 2 ^ (8 * k) := fun k => by rw [show (256 : Nat) = 2 ^ 8 from rfl, ← Nat.pow_mul]
  rw [hp] at hlo hlt
  have hne : be N ≠ 0 := fun h => by
    rw [h] at hlo
    exact Nat.lt_irrefl 0 (Nat.lt_of_lt_of_le (Nat.two_pow_pos _) hlo)
  obtain ⟨b4, b5⟩ := b3 hne
  have k1 : 8 * (64 - 1) < b := (Nat.pow_lt_pow_iff_right (by omega : 1 < 2)).mp (Nat.lt_of_le_of_lt hlo b2)
  have k2 : b - 1 < 8 * 64 := (Nat.pow_lt_pow_iff_right (by omega : 1 < 2)).mp (Nat.lt_of_le_of_lt b5 hlt)
  have h2 : vMany (x :: (E ++ N)) = ((bitsL (nd (be N)) + 7) / 8).toNat := by unfold vMany; rw [h1]
  rw [h2, b1]
  clear hlo hlt b2 b5
  omega
theorem block_len (text : List UInt8) : (blockL text 64).length = 64 := by simp [blockL, sigTail, sum256_len]
/-- Is a sign of 64 bytes right? -/
def okB (s e n b : Nat) : Bool := decide (s ^ e % n = b) && decide (s < n) && decide (b < n)
theorem pow_wide (m : Nat) (text : List UInt8) (hm : m < 256 ^ 64) : (wideL m 64 = blockL text 64) ↔ m = be (blockL text 64) := by
  constructor
  · intro h
    rw [← h, be_wide m 64 hm]
  · intro h
    have := wide_be (blockL text 64)
    rw [block_len, ← h] at this
    exact this
theorem ver_sign (E N : List UInt8) (x : UInt8) (hx : x.toNat = E.length) (he : 1 ≤ E.length) (hn : N.length = 64) (hg : rsaGood (x :: (E ++ N)) = true) (text t : List UInt8) (ht : t.length = 64) :
    verifyB (x :: (E ++ N)) text t = okB (be t) (be E) (be N) (be (blockL text 64)) := by
  obtain ⟨h1, h2, h3⟩ := pub_good E N x hx he hn hg
  obtain ⟨g1, _⟩ := rsa_good hg
  rw [h1] at g1
  simp only [] at g1
  unfold verifyB okB
  rw [hg, h1, h2, decide_eq_true ht]
  simp only [Bool.true_and]
  have hpw : be t ^ be E % be N < be N := Nat.mod_lt _ (by omega)
  rw [show decide (wideL (be t ^ be E % be N) 64 = blockL text 64) = decide (be t ^ be E % be N = be (blockL text 64)) from decide_eq_decide.2 (pow_wide _ _ (by omega))]
  generalize be (blockL text 64) = b at *
  generalize be t ^ be E % be N = m at *
  by_cases hb : m = b
  · subst hb
    rw [decide_eq_true rfl, decide_eq_true hpw]; simp
  · rw [decide_eq_false hb]; simp
theorem ver_own (E N : List UInt8) (x : UInt8) (hx : x.toNat = E.length) (he : 1 ≤ E.length) (hn : N.length = 64) (hg : rsaGood (x :: (E ++ N)) = true) (text : List UInt8) (s : Nat) (hs : s < be N) :
    verifyB (x :: (E ++ N)) text (wideL s 64) = okB s (be E) (be N) (be (blockL text 64)) := by
  have h3 := (pub_good E N x hx he hn hg).2.2
  rw [ver_sign E N x hx he hn hg text _ (wideL_len _ _), be_wide s 64 (by omega)]
theorem ver_short (E N : List UInt8) (x : UInt8) (hx : x.toNat = E.length) (he : 1 ≤ E.length) (hn : N.length = 64) (hg : rsaGood (x :: (E ++ N)) = true) (text t : List UInt8) (ht : t.length = 63) :
    verifyB (x :: (E ++ N)) text t = false := by
  refine ver_len ?_
  rw [(pub_good E N x hx he hn hg).2.1]
  omega
theorem sign_fit {s n : Nat} (h : s < n) (hn : n < 256 ^ 64) : (bitsL (nd s) + 7) / 8 ≤ 64 := by
  obtain ⟨b, b1, b2, b3⟩ := bits_nd s
  rw [b1]
  by_cases h0 : s = 0
  · subst h0
    rw [nd_zero] at b1
    simp [bitsL] at b1
    omega
  · have hq : ∀ k : Nat, 256 ^ k = 2 ^ (8 * k) := fun k => by rw [show (256 : Nat) = 2 ^ 8 from rfl, ← Nat.pow_mul]
    rw [hq] at hn
    have k2 : b - 1 < 8 * 64 := (Nat.pow_lt_pow_iff_right (by omega : 1 < 2)).mp (Nat.lt_of_le_of_lt (b3 h0).2 (Nat.lt_trans h hn))
    clear hn b2 b3 hq
    omega
theorem sign_len {s n : Nat} (h : s < n) (hn : n < 256 ^ 64) : (nd s).length ≤ 64 := by
  refine nd_len_le _ _ (Nat.lt_of_lt_of_le (Nat.lt_trans h hn) ?_)
  rw [show (4294967296 : Nat) = 256 ^ 4 by rfl, ← Nat.pow_mul]
  exact Nat.pow_le_pow_right (by omega) (by omega)
end Go.Proofs.YtdmfbcfhfopipaaGreatDoor

/- KeysSigns' own block: what is signed, of 64 bytes. -/
namespace Go.Proofs.YtdmfbcfhfopipaaGreatDoor
open Go.RowKit

theorem sign_digest (d : ByteArray) (h : keyRight d = true) : keysDigest 2 ⟨#[0]⟩ d = (bs (sum256 (0 :: d.data.toList)), 0) := by
  rw [keysDigest, if_neg (by omega), if_neg (by rw [show nameRight ⟨#[0]⟩ = true by decide]; simp), if_neg (by simp [h]), if_neg (by omega)]
  rw [show lowS ⟨#[0]⟩ = ⟨#[0]⟩ by decide +kernel]
  simp
set_option maxRecDepth 100000 in
set_option maxHeartbeats 1000000 in
theorem sign_block (d : ByteArray) (w : World) (hd : keyRight d = true) :
    Calls Tryz.prog 26 #[.string d] w fun e w' => e = .returned (.string (bs (blockL (0 :: d.data.toList) 64))) ∧ Below w.heap.size w w' := by
  have hs := fun w => keys_digest 2 ⟨#[0]⟩ d w
  rw [sign_digest d hd] at hs
  have hc := tail_cat (0 :: d.data.toList)
  have hT : (bs (sigTail (0 :: d.data.toList))).size = 52 := by rw [bs_size, sigTail_len]
  have hZ : (bs (sum256 (0 :: d.data.toList))).size = 32 := by rw [bs_size, sum256_len]
  have hfin : bs ([0, 1] ++ List.replicate 10 255) ++ bs (sigTail (0 :: d.data.toList)) = bs (blockL (0 :: d.data.toList) 64) := bs_append _ _
  generalize bs (blockL (0 :: d.data.toList) 64) = R at hfin ⊢
  generalize bs (sigTail (0 :: d.data.toList)) = T at hc hT hfin
  generalize bs (sum256 (0 :: d.data.toList)) = S0 at hs hc hZ
  have hcz : ∀ X : ByteArray, (X ++ (⟨#[0, 48, 49, 48, 13, 6, 9, 96, 134, 72, 1, 101, 3, 4, 2, 1, 5, 0, 4, 32]⟩ : ByteArray)) ++ S0 = X ++ T := fun X => by rw [ByteArray.append_assoc, hc]
  have HS := Lib.hid hs; have HFIN := Lib.hid hfin; have HC := Lib.hid hcz
  clear hs hfin hc hcz
  go_enter Tryz.func26, Tryz.ntmps26
  go_wp2_with fail
  go_loopw [3] (fun v wr => ∃ (k : Nat) (S : ByteArray), k ≤ 10 ∧ v = .string S ∧ Hid (S = bs ([0, 1] ++ List.replicate k 255)) ∧ wr = w) (fun v _ => 10 - ((match v with | .string S => S.size | _ => 0) - 2))
  case atStart => exact ⟨0, _, Nat.zero_le _, rfl, Lib.hid rfl, rfl⟩
  case round =>
    obtain ⟨k, S, hk, rfl, hS, rfl⟩ := hrel
    have hsz : S.size = k + 2 := by rw [hS.out, bs_size]; simp
    by_cases hlt : k < 10
    · have hnx := ff_cat k
      rw [← hS.out] at hnx
      have t1 : (k : Int) + 2 < 12 := by omega
      have hsz2 : (bs ([0, 1] ++ List.replicate (k + 1) 255)).size = k + 3 := by rw [bs_size]; simp
      generalize hS2 : bs ([0, 1] ++ List.replicate (k + 1) 255) = S2 at hnx hsz2
      have HS2 := Lib.hid hS2.symm; have HLT := Lib.hid hlt; have HZ := Lib.hid (And.intro hsz hsz2)
      clear hS2 hlt hS hsz2
      repeat (first | (fail) | go_values | go_skip | go_guarded | go_step | go_upon | go_back)
      go_roundw
      case rel => exact ⟨k + 1, S2, HLT.out, rfl, HS2, by trivial⟩
      case measure => have := HLT.out; have := HZ.out.1; have := HZ.out.2; simp only []; omega
    · obtain rfl : k = 10 := by omega
      have hf := HC.out S
      rw [hS.out, HFIN.out, ← hS.out] at hf
      have hsz' : S.size = 12 := hsz
      clear hsz hS hlt
      repeat (first | (go_at_call 12; refine (Hid.out (p := _) ?_)) | go_values | go_skip | go_guarded | go_step | go_upon | go_back)
      refine Lib.hid ?_
      refine (HS.out _).mono ?_
      rintro e w1 ⟨rfl, hb⟩
      have HB := Lib.hid hb
      clear hb HS
      simp only []
      repeat (first | (fail) | go_values | go_skip | go_guarded | go_step | go_upon | go_back)
      go_ret
      exact ⟨rfl, HB.out⟩
end Go.Proofs.YtdmfbcfhfopipaaGreatDoor

/- A row of bytes, as a walk sees it. -/
namespace Go.Proofs.YtdmfbcfhfopipaaGreatDoor
open Go.RowKit

/-- A row that holds these bytes, none of them frozen. -/
def BytesAt (w : World) (b : Nat) (t : ByteArray) : Prop := ∀ j, j < t.size → w.cell? ⟨b, j, none⟩ = some (.int .u8 ((byt t j).toNat : Int)) ∧ w.frozen? ⟨b, j, none⟩ = false
theorem BytesAt.set {w : World} {b : Nat} {t : ByteArray} (h : BytesAt w b t) (k : Nat) (x : UInt8) (hk : k < t.size) : BytesAt (w.setCell ⟨b, k, none⟩ (.int .u8 (x.toNat : Int))) b (bset t k x) := by
  intro j hj
  rw [size_bset] at hj
  rw [byt_bset t k j x hk]
  refine ⟨?_, by rw [World.frozen?_setCell]; exact (h j hj).2⟩
  by_cases e : k = j
  · subst e
    rw [if_pos rfl]
    exact World.cell?_setCell_same _ _ _ (h k hk).1
  · rw [if_neg e, World.cell?_setCell_other _ _ _ _ (by intro h; cases h; exact e rfl)]
    exact (h j hj).1
theorem BytesAt.below {w w' : World} {b : Nat} {t : ByteArray} (h : BytesAt w b t) (hb : Below w.heap.size w w') (hlt : b < w.heap.size) : BytesAt w' b t := fun j hj =>
  ⟨by rw [hb.cell (p := ⟨b, j, none⟩) hlt]; exact (h j hj).1, by rw [hb.frozen (p := ⟨b, j, none⟩) hlt]; exact (h j hj).2⟩
theorem BytesAt.new (w : World) (t : ByteArray) : BytesAt (Lib.bytesWorld w 5 t) w.heap.size t := by
  intro j hj
  refine ⟨Lib.bytesWorld_cell w 5 t j hj, ?_⟩
  have hs : (Lib.bytesCells w 5 t).size = t.size + (grownCap w t.size 0 5 - t.size) := by simp only [Lib.bytesCells, Array.size_append, Array.size_map, Array.size_replicate]; rfl
  simp only [World.frozen?, Lib.bytesWorld_at_new, hs]
  simp; omega
theorem BytesAt.string {w : World} {g : Nat} {t : ByteArray} (h : BytesAt w g t) (n c : Nat) (hn : n = t.size) : (convert 41 9 (.slice (some ⟨g, 0, none⟩) n c)).run Tryz.prog w = .ok (.string t) w := by
  have := run_convert_bytes_arg (P := Tryz.prog) w 41 5 Tryz.underlying41 Tryz.underlying5 g 0 n c (t.data.toList.map fun b => (b.toNat : Int)) (by simp [hn]) (by
    intro i hi
    have hi' : i < t.data.size := by rw [hn] at hi; exact hi
    rw [Nat.zero_add, (h i hi').1]
    simp only [byt, List.getD, List.getElem?_map, Array.getElem?_toList, Array.getElem?_eq_getElem hi', Option.map_some, Option.getD_some]) 9 Tryz.underlying9
  have e : strOfNums (t.data.toList.map fun b => (b.toNat : Int)) = t := by
    cases t with
    | mk d =>
      show (⟨((d.toList.map fun b => (b.toNat : Int)).map fun n => UInt8.ofNat n.toNat).toArray⟩ : ByteArray) = ⟨d⟩
      rw [List.map_map]
      have e : ((fun n : Int => UInt8.ofNat n.toNat) ∘ fun b : UInt8 => (b.toNat : Int)) = id := by
        funext b
        simp
      rw [e, List.map_id]
  rw [this, e]

end Go.Proofs.YtdmfbcfhfopipaaGreatDoor

/- KeysSigns, walked: true. -/
namespace Go.Proofs.YtdmfbcfhfopipaaGreatDoor
open Go.RowKit

/-- A number's variable. -/
def NatBlk (W : World) (g : Nat) (A : Option Addr) (c : Nat) (l : List W32) : Prop := Blk W g #[.slice A l.length c] 45 ∧ NatV 0 W (.agg #[.slice A l.length c]) l
theorem NatBlk.new {lo : Nat} {w : World} {A : Option Addr} {c : Nat} {l : List W32} (h : l.length ≤ c ∧ c ≤ 9223372036854775807 ∧ DigsAt lo w A l) : NatBlk (w.alloc (.cells #[.slice A l.length c] 45)) w.heap.size A c l :=
  ⟨Blk.new w _ _, A, c, rfl, h.1, h.2.1, (h.2.2.below ((Below.refl _ w).alloc (Nat.le_refl _) _)).mono (Nat.zero_le _)⟩
theorem NatBlk.next {W W' : World} {g : Nat} {A : Option Addr} {c : Nat} {l : List W32} (h : NatBlk W g A c l) (hb : Below W.heap.size W W') : NatBlk W' g A c l :=
  ⟨h.1.below hb h.1.lt, by obtain ⟨B, d, e, x, y, z⟩ := h.2; exact ⟨B, d, e, x, y, z.below hb⟩⟩
theorem NatBlk.two {w w2 : World} {A B : Option Addr} {c d : Nat} {l m : List W32} {lo lo' : Nat} (h : l.length ≤ c ∧ c ≤ 9223372036854775807 ∧ DigsAt lo w A l) (k : m.length ≤ d ∧ d ≤ 9223372036854775807 ∧ DigsAt lo' w B m)
    (e : w2 = (w.alloc (.cells #[.slice A l.length c] 45)).alloc (.cells #[.slice B m.length d] 45)) : NatBlk w2 w.heap.size A c l ∧ NatBlk w2 (w.heap.size + 1) B d m ∧ Below w.heap.size w w2 := by
  have b1 := (Below.refl w.heap.size w).alloc (Nat.le_refl _) (.cells #[.slice A l.length c] 45)
  have b2 := b1.alloc b1.size (.cells #[.slice B m.length d] 45)
  have k2 := NatBlk.new (w := w.alloc (.cells #[.slice A l.length c] 45)) ⟨k.1, k.2.1, k.2.2.below b1⟩
  subst e
  refine ⟨(NatBlk.new h).next ((Below.refl _ _).alloc (Nat.le_refl _) _), ?_, b2⟩
  simpa using k2
theorem sign_one (W : World) (x : UInt8) (n : Nat) (hn : (n : Int) = (x.toNat : Int)) : (convert 41 9 (.slice (some ⟨W.heap.size, 0, none⟩) 1 1)).run Tryz.prog (W.alloc (.cells #[.int .u8 (n : Int)] 5)) = .ok (.string (bs [x])) (W.alloc (.cells #[.int .u8 (n : Int)] 5)) := by
  refine BytesAt.string (t := bs [x]) (fun j hj => ?_) 1 1 (by simp [bs_size])
  have hj0 : j = 0 := by rw [bs_size] at hj; simpa using hj
  subst hj0
  have hb := Blk.new W #[.int .u8 (n : Int)] 5
  refine ⟨(hb.cell 0).trans ?_, hb.free 0⟩
  rw [hn]
  rfl
set_option maxRecDepth 100000 in
set_option maxHeartbeats 1000000 in
theorem keyssigns_few (E N D d : ByteArray) (i j : Int) (w : World) (h : ¬ (1 ≤ E.size ∧ E.size ≤ 8 ∧ N.size = 64 ∧ D.size ≤ 64)) :
    Calls Tryz.prog 8 #[.agg #[.string E, .string N, .string D], .string d, .int .i64 i, .int .i64 j] w fun e w' => e = .returned (.bool true) ∧ Below w.heap.size w w' := by
  by_cases h1 : E.size < 1
  · have t1 : decide ((E.size : Int) < 1) = true := decide_eq_true (by omega)
    clear h h1
    have HX := Lib.hid examples_any
    go_enter Tryz.func8, Tryz.ntmps8
    repeat (first | (go_at_call 9; refine (Hid.out (p := _) ?_)) | go_values | go_skip | go_guarded | go_step | go_upon | go_back)
    refine Lib.hid ?_
    refine (HX.out _).mono ?_
    rintro e w1 ⟨rfl, hb⟩
    have hk := (Blk.new w #[.string E, .string N, .string D] 55).below hb (by simp)
    have k0 := hk.cell 0
    have k1 := hk.cell 1
    have k2 := hk.cell 2
    have HB := Lib.hid hb
    clear hb hk HX
    simp only [] at k0 k1 k2 ⊢
    repeat (first | (fail) | go_values | go_skip | go_guarded | go_step | go_upon | go_back)
    go_ret
    exact ⟨rfl, bl1 (Below.refl _ w) HB.out⟩
  · have t1 : decide ((E.size : Int) < 1) = false := decide_eq_false (by omega)
    by_cases h2 : 8 < E.size
    · have t2 : decide ((8 : Int) < (E.size : Int)) = true := decide_eq_true (by omega)
      clear h h1 h2
      have HX := Lib.hid examples_any
      go_enter Tryz.func8, Tryz.ntmps8
      repeat (first | (go_at_call 9; refine (Hid.out (p := _) ?_)) | go_values | go_skip | go_guarded | go_step | go_upon | go_back)
      refine Lib.hid ?_
      refine (HX.out _).mono ?_
      rintro e w1 ⟨rfl, hb⟩
      have hk := (Blk.new w #[.string E, .string N, .string D] 55).below hb (by simp)
      have k0 := hk.cell 0
      have k1 := hk.cell 1
      have k2 := hk.cell 2
      have HB := Lib.hid hb
      clear hb hk HX
      simp only [] at k0 k1 k2 ⊢
      repeat (first | (fail) | go_values | go_skip | go_guarded | go_step | go_upon | go_back)
      go_ret
      exact ⟨rfl, bl1 (Below.refl _ w) HB.out⟩
    · have t2 : decide ((8 : Int) < (E.size : Int)) = false := decide_eq_false (by omega)
      by_cases h3 : N.size = 64
      · have t3 : ((N.size : Int) != 64) = false := by rw [bne_eq_false_iff_eq]; omega
        have t4 : decide ((64 : Int) < (D.size : Int)) = true := decide_eq_true (by omega)
        clear h h1 h2 h3
        have HX := Lib.hid examples_any
        go_enter Tryz.func8, Tryz.ntmps8
        repeat (first | (go_at_call 9; refine (Hid.out (p := _) ?_)) | go_values | go_skip | go_guarded | go_step | go_upon | go_back)
        refine Lib.hid ?_
        refine (HX.out _).mono ?_
        rintro e w1 ⟨rfl, hb⟩
        have hk := (Blk.new w #[.string E, .string N, .string D] 55).below hb (by simp)
        have k0 := hk.cell 0
        have k1 := hk.cell 1
        have k2 := hk.cell 2
        have HB := Lib.hid hb
        clear hb hk HX
        simp only [] at k0 k1 k2 ⊢
        repeat (first | (fail) | go_values | go_skip | go_guarded | go_step | go_upon | go_back)
        go_ret
        exact ⟨rfl, bl1 (Below.refl _ w) HB.out⟩
      · have t3 : ((N.size : Int) != 64) = true := by rw [bne_iff_ne]; omega
        clear h h1 h2 h3
        have HX := Lib.hid examples_any
        go_enter Tryz.func8, Tryz.ntmps8
        repeat (first | (go_at_call 9; refine (Hid.out (p := _) ?_)) | go_values | go_skip | go_guarded | go_step | go_upon | go_back)
        refine Lib.hid ?_
        refine (HX.out _).mono ?_
        rintro e w1 ⟨rfl, hb⟩
        have hk := (Blk.new w #[.string E, .string N, .string D] 55).below hb (by simp)
        have k0 := hk.cell 0
        have k1 := hk.cell 1
        have k2 := hk.cell 2
        have HB := Lib.hid hb
        clear hb hk HX
        simp only [] at k0 k1 k2 ⊢
        repeat (first | (fail) | go_values | go_skip | go_guarded | go_step | go_upon | go_back)
        go_ret
        exact ⟨rfl, bl1 (Below.refl _ w) HB.out⟩
theorem xor_byte (b : UInt8) (j : Int) : ∃ z : UInt8, bits .xor .u8 (b.toNat : Int) (j % 256) = (z.toNat : Int) := by
  obtain ⟨n, hn, hl⟩ : ∃ n : Nat, bits .xor .u8 (b.toNat : Int) (j % 256) = (n : Int) ∧ n < 256 := by
    show ∃ n : Nat, IntKind.u8.wrap ((BitVec.ofInt 8 (b.toNat : Int) ^^^ BitVec.ofInt 8 (j % 256)).toNat : Int) = (n : Int) ∧ n < 256
    rw [IntKind.wrap_u8']
    exact ⟨(((BitVec.ofInt 8 (b.toNat : Int) ^^^ BitVec.ofInt 8 (j % 256)).toNat : Int) % 256).toNat, by omega, by omega⟩
  exact ⟨UInt8.ofNat n, by rw [hn, UInt8.toNat_ofNat', Nat.mod_eq_of_lt hl]⟩
theorem bset_len (s : ByteArray) (m : Nat) (z : UInt8) : (bset s m z).data.toList.length = s.size := by
  have := size_bset s m z
  simpa using this
set_option maxRecDepth 100000 in
set_option maxHeartbeats 4000000 in
theorem keyssigns_main (E N D d : ByteArray) (i j : Int) (w : World) (h1 : 1 ≤ E.size) (h2 : E.size ≤ 8) (h3 : N.size = 64) (h4 : D.size ≤ 64) (wi : -9223372036854775808 ≤ i ∧ i ≤ 9223372036854775807) (wj : -9223372036854775808 ≤ j ∧ j ≤ 9223372036854775807) :
    Calls Tryz.prog 8 #[.agg #[.string E, .string N, .string D], .string d, .int .i64 i, .int .i64 j] w fun e w' => e = .returned (.bool true) ∧ Below w.heap.size w w' := by
  obtain ⟨x, hx⟩ : ∃ x : UInt8, Hid ((E.size : Int) = (x.toNat : Int)) := ⟨UInt8.ofNat E.size, Lib.hid (by rw [UInt8.toNat_ofNat']; omega)⟩
  obtain ⟨P, hP⟩ : ∃ P, (bs [x] ++ E) ++ N = P := ⟨_, rfl⟩
  have hPl : P.data.toList = x :: (E.data.toList ++ N.data.toList) := by rw [← hP]; simp [bs]
  have hr := fun w => rsa_all P w (by rw [← hP]; simp only [ByteArray.size_append, bs_size, List.length_cons, List.length_nil]; omega)
  rw [rsaE_nd, rsaN_nd, hPl] at hr
  have hlE : E.data.toList.length = E.size := by simp
  have hlN : N.data.toList.length = N.size := by simp
  have hver := fun text sign w a b c => keys_verify P text sign w a b c
  rw [hPl] at hver
  have hxl : x.toNat = E.data.toList.length := by have := hx.out; omega
  have HPZ := Lib.hid (show P.size ≤ 100 by rw [← hP]; simp only [ByteArray.size_append, bs_size, List.length_cons, List.length_nil]; omega)
  have HP := Lib.hid hP
  clear hP hPl
  obtain ⟨wi1, wi2⟩ := wi
  obtain ⟨wj1, wj2⟩ := wj
  cases hg : rsaGood (x :: (E.data.toList ++ N.data.toList)) with
  | false =>
    rw [hg] at hr
    simp only [Bool.false_eq_true, if_false] at hr
    generalize (rsaNum (x :: (E.data.toList ++ N.data.toList))).1 = e0 at *
    generalize (rsaNum (x :: (E.data.toList ++ N.data.toList))).2 = n0 at *
    have HR := Lib.hid hr
    clear hr hver hlE hlN hxl hg
    have t1 : decide ((E.size : Int) < 1) = false := decide_eq_false (by omega)
    have t2 : decide ((8 : Int) < (E.size : Int)) = false := decide_eq_false (by omega)
    have t3 : ((N.size : Int) != 64) = false := by rw [bne_eq_false_iff_eq]; omega
    have t4 : decide ((64 : Int) < (D.size : Int)) = false := decide_eq_false (by omega)
    have hN64 : (N.size : Int) ≤ 64 := by omega
    have HX := Lib.hid examples_any
    clear h3
    go_enter Tryz.func8, Tryz.ntmps8
    repeat (first | (go_at_call 9; refine (Hid.out (p := _) ?_)) | go_values | go_skip | go_guarded | go_step | go_upon | go_back)
    refine Lib.hid ?_
    refine (HX.out _).mono ?_
    rintro e w1 ⟨rfl, hb⟩
    have hk := (Blk.new w #[.string E, .string N, .string D] 55).below hb (by simp)
    have k0 := hk.cell 0
    have k1 := hk.cell 1
    have k2 := hk.cell 2
    have hcv := sign_one w1 x E.size hx.out
    have hk' := hk.alloc (.cells #[.int .u8 (E.size : Int)] 5)
    have k3 := hk'.cell 0
    have k4 := hk'.cell 1
    clear hk'
    have hp := HP.out
    have hz1 : (bs [x] ++ E).size = 1 + E.size := by rw [ByteArray.size_append, bs_size]; rfl
    have hz0 : (bs [x]).size = 1 := by rw [bs_size]; rfl
    have HB := Lib.hid (bl1 (Below.refl _ w) hb)
    have HK := Lib.hid hk
    clear hb hk HX
    simp only [] at k0 k1 k2 ⊢
    repeat (first | (go_at_call 18; refine (Hid.out (p := _) ?_)) | go_values | go_skip | go_guarded | go_step | go_upon | go_back)
    refine Lib.hid ?_
    clear hcv hp k0 k1 k2 k3 k4 hz0 hz1
    refine (HR.out _).mono ?_
    rintro e w2 ⟨hb, v, u, rfl, hv, hu⟩
    obtain ⟨A, c, rfl, hv⟩ := hv
    obtain ⟨B, f, rfl, hu⟩ := hu
    have hb2 : Below w1.heap.size w1 w2 := ((Below.refl _ w1).alloc (Nat.le_refl _) _).trans (hb.mono (by simp))
    obtain ⟨W3, hW3⟩ : ∃ W3, W3 = (w2.alloc (.cells #[.slice A (nd e0).length c] 45)).alloc (.cells #[.slice B (nd n0).length f] 45) := ⟨_, rfl⟩
    obtain ⟨xe, xn, hq⟩ := NatBlk.two hv hu hW3
    have B3 := Lib.hid (HB.out.trans ((hb2.trans (hq.mono hb2.size)).mono HB.out.size))
    have K3 := Lib.hid ((HK.out.below (hb2.trans (hq.mono hb2.size)) HK.out.lt))
    have XE := Lib.hid xe; have XN := Lib.hid xn; have HW3 := Lib.hid hW3
    clear hb hv hu hb2 hW3 xe xn hq HR HB HK
    simp only []
    repeat (first | (fail) | go_values | go_skip | go_guarded | go_step | go_upon | go_back)
    go_ret
    rw [← HW3.out]
    exact ⟨rfl, B3.out⟩
  | true =>
    rw [hg] at hr
    simp only [if_true] at hr
    have hpg := pub_good E.data.toList N.data.toList x hxl (by omega) (by omega) hg
    have hgo := rsa_good hg
    have hvs := ver_sign E.data.toList N.data.toList x hxl (by omega) (by omega) hg
    have hvo := ver_own E.data.toList N.data.toList x hxl (by omega) (by omega) hg
    have hvt := ver_short E.data.toList N.data.toList x hxl (by omega) (by omega) hg
    rw [hpg.1] at hr hgo
    have hn64 := hpg.2.2
    have hne := hgo.1
    have hle := hgo.2.1
    have hln := hgo.2.2.1
    simp only [] at hr hne hle hln
    clear hgo hpg hg
    generalize be E.data.toList = e0 at *
    generalize be N.data.toList = n0 at *
    generalize x :: (E.data.toList ++ N.data.toList) = pl at hver hvs hvo hvt
    have HR := Lib.hid hr
    have HRT := Lib.hid fun w => right_key d w
    have HV := Lib.hid hver; have HVS := Lib.hid hvs; have HVO := Lib.hid hvo; have HVT := Lib.hid hvt; have HN := Lib.hid (And.intro hne (And.intro hle (And.intro hln hn64)))
    clear hr hver hvs hvo hvt hne hle hln hn64 hlE hlN hxl
    cases hk : keyRight d with
    | false =>
      rw [hk] at HRT
      clear HV HVS HVO HVT HN hk
      have t1 : decide ((E.size : Int) < 1) = false := decide_eq_false (by omega)
      have t2 : decide ((8 : Int) < (E.size : Int)) = false := decide_eq_false (by omega)
      have t3 : ((N.size : Int) != 64) = false := by rw [bne_eq_false_iff_eq]; omega
      have t4 : decide ((64 : Int) < (D.size : Int)) = false := decide_eq_false (by omega)
      have hN64 : (N.size : Int) ≤ 64 := by omega
      have HX := Lib.hid examples_any
      clear h3
      go_enter Tryz.func8, Tryz.ntmps8
      repeat (first | (go_at_call 9; refine (Hid.out (p := _) ?_)) | go_values | go_skip | go_guarded | go_step | go_upon | go_back)
      refine Lib.hid ?_
      refine (HX.out _).mono ?_
      rintro e w1 ⟨rfl, hb⟩
      have hk := (Blk.new w #[.string E, .string N, .string D] 55).below hb (by simp)
      have k0 := hk.cell 0
      have k1 := hk.cell 1
      have k2 := hk.cell 2
      have hcv := sign_one w1 x E.size hx.out
      have hk' := hk.alloc (.cells #[.int .u8 (E.size : Int)] 5)
      have k3 := hk'.cell 0
      have k4 := hk'.cell 1
      clear hk'
      have hp := HP.out
      have hz1 : (bs [x] ++ E).size = 1 + E.size := by rw [ByteArray.size_append, bs_size]; rfl
      have hz0 : (bs [x]).size = 1 := by rw [bs_size]; rfl
      have HB := Lib.hid (bl1 (Below.refl _ w) hb)
      have HK := Lib.hid hk
      clear hb hk HX
      simp only [] at k0 k1 k2 ⊢
      repeat (first | (go_at_call 18; refine (Hid.out (p := _) ?_)) | go_values | go_skip | go_guarded | go_step | go_upon | go_back)
      refine Lib.hid ?_
      clear hcv hp k0 k1 k2 k3 k4 hz0 hz1
      refine (HR.out _).mono ?_
      rintro e w2 ⟨hb, v, u, rfl, hv, hu⟩
      obtain ⟨A, c, rfl, hv⟩ := hv
      obtain ⟨B, f, rfl, hu⟩ := hu
      have hb2 : Below w1.heap.size w1 w2 := ((Below.refl _ w1).alloc (Nat.le_refl _) _).trans (hb.mono (by simp))
      obtain ⟨W3, hW3⟩ : ∃ W3, W3 = (w2.alloc (.cells #[.slice A (nd e0).length c] 45)).alloc (.cells #[.slice B (nd n0).length f] 45) := ⟨_, rfl⟩
      obtain ⟨xe, xn, hq⟩ := NatBlk.two hv hu hW3
      have B3 := Lib.hid (HB.out.trans ((hb2.trans (hq.mono hb2.size)).mono HB.out.size))
      have K3 := Lib.hid ((HK.out.below (hb2.trans (hq.mono hb2.size)) HK.out.lt))
      have XE := Lib.hid xe; have XN := Lib.hid xn; have HW3 := Lib.hid hW3
      clear hb hv hu hb2 hW3 xe xn hq HR HB HK
      simp only []
      repeat (first | (go_at_call 24; refine (Hid.out (p := _) ?_)) | go_values | go_skip | go_guarded | go_step | go_upon | go_back)
      refine Lib.hid ?_
      rw [← HW3.out]
      refine (HRT.out _).mono ?_
      rintro e w4 ⟨rfl, hb⟩
      have B4 := Lib.hid (bl0 B3.out hb)
      clear hb HRT HW3
      simp only []
      repeat (first | (fail) | go_values | go_skip | go_guarded | go_step | go_upon | go_back)
      go_ret
      exact ⟨rfl, B4.out⟩
    | true =>
      rw [hk] at HRT
      have HK := Lib.hid hk
      have hdz := keyRight_size hk
      clear hk
      have t1 : decide ((E.size : Int) < 1) = false := decide_eq_false (by omega)
      have t2 : decide ((8 : Int) < (E.size : Int)) = false := decide_eq_false (by omega)
      have t3 : ((N.size : Int) != 64) = false := by rw [bne_eq_false_iff_eq]; omega
      have t4 : decide ((64 : Int) < (D.size : Int)) = false := decide_eq_false (by omega)
      have hN64 : (N.size : Int) ≤ 64 := by omega
      have HX := Lib.hid examples_any
      clear h3
      go_enter Tryz.func8, Tryz.ntmps8
      repeat (first | (go_at_call 9; refine (Hid.out (p := _) ?_)) | go_values | go_skip | go_guarded | go_step | go_upon | go_back)
      refine Lib.hid ?_
      refine (HX.out _).mono ?_
      rintro e w1 ⟨rfl, hb⟩
      have hk := (Blk.new w #[.string E, .string N, .string D] 55).below hb (by simp)
      have k0 := hk.cell 0
      have k1 := hk.cell 1
      have k2 := hk.cell 2
      have hcv := sign_one w1 x E.size hx.out
      have hk' := hk.alloc (.cells #[.int .u8 (E.size : Int)] 5)
      have k3 := hk'.cell 0
      have k4 := hk'.cell 1
      clear hk'
      have hp := HP.out
      have hz1 : (bs [x] ++ E).size = 1 + E.size := by rw [ByteArray.size_append, bs_size]; rfl
      have hz0 : (bs [x]).size = 1 := by rw [bs_size]; rfl
      have HB := Lib.hid (bl1 (Below.refl _ w) hb)
      have HK := Lib.hid hk
      clear hb hk HX
      simp only [] at k0 k1 k2 ⊢
      repeat (first | (go_at_call 18; refine (Hid.out (p := _) ?_)) | go_values | go_skip | go_guarded | go_step | go_upon | go_back)
      refine Lib.hid ?_
      clear hcv hp k0 k1 k2 k3 k4 hz0 hz1
      refine (HR.out _).mono ?_
      rintro e w2 ⟨hb, v, u, rfl, hv, hu⟩
      obtain ⟨A, c, rfl, hv⟩ := hv
      obtain ⟨B, f, rfl, hu⟩ := hu
      have hb2 : Below w1.heap.size w1 w2 := ((Below.refl _ w1).alloc (Nat.le_refl _) _).trans (hb.mono (by simp))
      obtain ⟨W3, hW3⟩ : ∃ W3, W3 = (w2.alloc (.cells #[.slice A (nd e0).length c] 45)).alloc (.cells #[.slice B (nd n0).length f] 45) := ⟨_, rfl⟩
      obtain ⟨xe, xn, hq⟩ := NatBlk.two hv hu hW3
      have B3 := Lib.hid (HB.out.trans ((hb2.trans (hq.mono hb2.size)).mono HB.out.size))
      have K3 := Lib.hid ((HK.out.below (hb2.trans (hq.mono hb2.size)) HK.out.lt))
      have XE := Lib.hid xe; have XN := Lib.hid xn; have HW3 := Lib.hid hW3
      clear hb hv hu hb2 hW3 xe xn hq HR HB HK
      simp only []
      repeat (first | (go_at_call 24; refine (Hid.out (p := _) ?_)) | go_values | go_skip | go_guarded | go_step | go_upon | go_back)
      refine Lib.hid ?_
      rw [← HW3.out]
      refine (HRT.out _).mono ?_
      rintro e w4 ⟨rfl, hb⟩
      have B4 := Lib.hid (bl0 B3.out hb)
      have k2 := (K3.out.below hb K3.out.lt).cell 2
      have XE4 := Lib.hid (XE.out.next hb); have XN4 := Lib.hid (XN.out.next hb)
      clear hb HRT HW3 K3 XE XN B3
      simp only [] at k2 ⊢
      repeat (first | (go_at_call 25; refine (Hid.out (p := _) ?_)) | go_values | go_skip | go_guarded | go_step | go_upon | go_back)
      refine Lib.hid ?_
      clear k2
      have ho := of_bytes D.data.toList w4 (by simp; omega)
      rw [bs_toList, num_be] at ho
      have hxl := be_len D.data.toList (by simp; omega)
      generalize be D.data.toList = x0 at ho hxl
      refine ho.mono ?_
      clear ho
      rintro e w5 ⟨v, rfl, hv, hb⟩
      obtain ⟨A5, c5, rfl, hv⟩ := hv
      obtain ⟨W6, hW⟩ : ∃ W6, W6 = w5.alloc (.cells #[.slice A5 (nd x0).length c5] 45) := ⟨_, rfl⟩
      have hq : Below w4.heap.size w4 W6 := by rw [hW]; exact hb.alloc hb.size _
      have XX6 : Hid (NatBlk W6 w5.heap.size A5 c5 (nd x0)) := Lib.hid (by rw [hW]; exact NatBlk.new hv)
      have B6 := Lib.hid (bl0 B4.out hq)
      have XE6 := Lib.hid (XE4.out.next hq); have XN6 := Lib.hid (XN4.out.next hq)
      have HW := Lib.hid hW; have HXL := Lib.hid hxl
      clear hb hv hq hW hxl B4 XE4 XN4
      simp only []
      repeat (first | (go_at_call 26; refine (Hid.out (p := _) ?_)) | go_values | go_skip | go_guarded | go_step | go_upon | go_back)
      refine Lib.hid ?_
      rw [← HW.out]
      clear HW
      refine (sign_block d W6 HK.out).mono ?_
      rintro e w7 ⟨rfl, hb⟩
      have ho := of_bytes (blockL (0 :: d.data.toList) 64) w7 (by rw [block_len]; omega)
      rw [num_be] at ho
      have hxl := be_len (blockL (0 :: d.data.toList) 64) (by rw [block_len]; omega)
      obtain ⟨b0, hb0⟩ : ∃ b0, Hid (b0 = be (blockL (0 :: d.data.toList) 64)) := ⟨_, Lib.hid rfl⟩
      rw [← hb0.out] at ho hxl
      have B7 := Lib.hid (bl0 B6.out hb)
      have XE7 := Lib.hid (XE6.out.next hb); have XN7 := Lib.hid (XN6.out.next hb); have XX7 := Lib.hid (XX6.out.next hb)
      have HO := Lib.hid ho; have HBL := Lib.hid hxl
      clear hb ho hxl B6 XE6 XN6 XX6
      simp only []
      repeat (first | (go_at_call 25; refine (Hid.out (p := _) ?_)) | go_values | go_skip | go_guarded | go_step | go_upon | go_back)
      refine Lib.hid ?_
      refine HO.out.mono ?_
      clear HO
      rintro e w8 ⟨v, rfl, hv, hb⟩
      obtain ⟨A8, c8, rfl, hv⟩ := hv
      obtain ⟨W9, hW⟩ : ∃ W9, W9 = w8.alloc (.cells #[.slice A8 (nd b0).length c8] 45) := ⟨_, rfl⟩
      have hq : Below w7.heap.size w7 W9 := by rw [hW]; exact hb.alloc hb.size _
      have xb : NatBlk W9 w8.heap.size A8 c8 (nd b0) := by rw [hW]; exact NatBlk.new hv
      have B9 := Lib.hid (bl0 B7.out hq)
      have xe := XE7.out.next hq; have xn := XN7.out.next hq; have xx := XX7.out.next hq
      have hpw := nat_pow _ _ _ b0 x0 n0 HN.out.1 W9 (by have := HBL.out; omega) (by have := HXL.out; omega) HN.out.2.2.1 0 0 0 xb.2 xx.2 xn.2
      have k1 := xb.1.cell 0; have k2 := xx.1.cell 0; have k3 := xn.1.cell 0
      rw [hW] at k1 k2 k3
      have XE9 := Lib.hid xe; have XN9 := Lib.hid xn; have XB9 := Lib.hid xb; have XX9 := Lib.hid xx; have HPW := Lib.hid hpw
      have HW := Lib.hid hW
      clear hb hv hq hW hpw xe xn xx xb B7 XE7 XN7 XX7
      simp only [] at k1 k2 k3 ⊢
      repeat (first | (go_at_call 27; refine (Hid.out (p := _) ?_)) | go_values | go_skip | go_guarded | go_step | go_upon | go_back)
      refine Lib.hid ?_
      clear k1 k2 k3
      rw [← HW.out]
      clear HW
      refine HPW.out.mono ?_
      clear HPW
      rintro e w10 ⟨hb, r, rfl, A10, c10, rfl, hv⟩
      have hsl : b0 ^ x0 % n0 < n0 := Nat.mod_lt _ (Nat.pos_of_ne_zero HN.out.1)
      generalize b0 ^ x0 % n0 = s0 at hv hsl ⊢
      obtain ⟨W11, hW⟩ : ∃ W11, W11 = w10.alloc (.cells #[.slice A10 (nd s0).length c10] 45) := ⟨_, rfl⟩
      have hq : Below W9.heap.size W9 W11 := by rw [hW]; exact hb.alloc hb.size _
      have xs : NatBlk W11 w10.heap.size A10 c10 (nd s0) := by rw [hW]; exact NatBlk.new hv
      have hwd := nat_wide _ (nd s0) 64 W11 0 xs.2 (by have := sign_len hsl HN.out.2.2.2; omega) (by omega) (by exact sign_fit hsl HN.out.2.2.2)
      rw [wideS_nd, show ((64 : Nat) : Int) = 64 from rfl] at hwd
      have k1 := xs.1.cell 0
      rw [hW] at k1
      have B11 := Lib.hid (bl0 B9.out hq)
      have XE11 := Lib.hid (XE9.out.next hq); have XN11 := Lib.hid (XN9.out.next hq); have XB11 := Lib.hid (XB9.out.next hq); have XS11 := Lib.hid xs
      have HWD := Lib.hid hwd; have HW := Lib.hid hW; have HSL := Lib.hid hsl; have HSN := Lib.hid (sign_len hsl HN.out.2.2.2)
      clear hb hv hq hW hwd xs hsl B9 XE9 XN9 XB9 XX9 HXL
      simp only [] at k1 ⊢
      repeat (first | (go_at_call 28; refine (Hid.out (p := _) ?_)) | go_values | go_skip | go_guarded | go_step | go_upon | go_back)
      refine Lib.hid ?_
      clear k1
      rw [← HW.out]
      clear HW
      refine HWD.out.mono ?_
      clear HWD
      rintro e w12 ⟨rfl, hb⟩
      have B12 := Lib.hid (bl0 B11.out hb)
      have xe := XE11.out.next hb; have xn := XN11.out.next hb; have xs := XS11.out.next hb
      have hpw := nat_pow _ _ _ s0 e0 n0 HN.out.1 w12 (by have := HSN.out; omega) (by have := HN.out.2.1; omega) HN.out.2.2.1 0 0 0 xs.2 xe.2 xn.2
      have k1 := xs.1.cell 0; have k2 := xe.1.cell 0; have k3 := xn.1.cell 0
      have XE12 := Lib.hid xe; have XN12 := Lib.hid xn; have XS12 := Lib.hid xs; have XB12 := Lib.hid (XB11.out.next hb)
      have HPW := Lib.hid hpw
      clear hb hpw xe xn xs B11 XE11 XN11 XS11 XB11
      obtain ⟨sg, hsg⟩ : ∃ sg, bs (wideL s0 64) = sg := ⟨_, rfl⟩
      rw [hsg]
      have HSG := Lib.hid hsg
      clear hsg
      simp only [] at k1 k2 k3 ⊢
      repeat (first | (go_at_call 27; refine (Hid.out (p := _) ?_)) | go_values | go_skip | go_guarded | go_step | go_upon | go_back)
      refine Lib.hid ?_
      clear k1 k2 k3
      refine HPW.out.mono ?_
      clear HPW
      rintro e w13 ⟨hb, r, rfl, A13, c13, rfl, hv⟩
      obtain ⟨W14, hW⟩ : ∃ W14, W14 = w13.alloc (.cells #[.slice A13 (nd (s0 ^ e0 % n0)).length c13] 45) := ⟨_, rfl⟩
      have hq : Below w12.heap.size w12 W14 := by rw [hW]; exact hb.alloc hb.size _
      have hbk : s0 ^ e0 % n0 < n0 := Nat.mod_lt _ (Nat.pos_of_ne_zero HN.out.1)
      have hok : okB s0 e0 n0 b0 = (decide (s0 ^ e0 % n0 = b0) && decide (b0 < n0)) := by unfold okB; rw [decide_eq_true HSL.out]; simp
      generalize s0 ^ e0 % n0 = p0 at hv hbk hok hW ⊢
      have xp : NatBlk W14 w13.heap.size A13 c13 (nd p0) := by rw [hW]; exact NatBlk.new hv
      have xb := XB12.out.next hq; have xn := XN12.out.next hq
      have k1 := xp.1.cell 0; have k2 := xb.1.cell 0; have k3 := xn.1.cell 0
      have hc1 := nat_cmp _ _ p0 b0 W14 (by have := sign_len hbk HN.out.2.2.2; omega) (by have := HBL.out; omega) 0 0 xp.2 xb.2
      have B14 := Lib.hid (bl0 B12.out hq)
      have XE14 := Lib.hid (XE12.out.next hq); have XN14 := Lib.hid xn; have XB14 := Lib.hid xb; have XP14 := Lib.hid xp
      have HC1 := Lib.hid hc1; have HW := Lib.hid hW; have HOK := Lib.hid hok
      clear hb hv hq hW hbk hok xp xb xn hc1 B12 XE12 XN12 XS12 XB12
      simp only [] at k1 k2 k3 ⊢
      go_upto_region 13 with (fail)
      rw [← HW.out]
      clear HW
      go_cut [24] (fun s24 wx => s24 = .bool (okB s0 e0 n0 b0) ∧ Hid (Below W14.heap.size W14 wx))
      case first =>
        by_cases hpb : p0 = b0
        · subst hpb
          have hc1 := HC1.out
          rw [cmpI_eq] at hc1
          have HC := Lib.hid hc1
          have hok := HOK.out
          rw [decide_eq_true rfl, Bool.true_and] at hok
          clear hc1 HC1 HOK
          repeat (first | (go_at_call 29; refine (Hid.out (p := _) ?_)) | go_values | go_skip | go_guarded | go_step | go_upon | go_back)
          refine Lib.hid ?_
          clear k1 k2 k3
          refine HC.out.mono ?_
          clear HC
          rintro e w15 ⟨rfl, hb⟩
          have xb := XB14.out.next hb; have xn := XN14.out.next hb
          have k1 := xb.1.cell 0; have k2 := xn.1.cell 0
          have hc := nat_cmp _ _ p0 n0 w15 (by have := HBL.out; omega) (by have := HN.out.2.2.1; omega) 0 0 xb.2 xn.2
          have HB15 := Lib.hid hb
          clear hb xb xn
          by_cases hpn : p0 < n0
          · rw [cmpI_lt hpn] at hc
            rw [decide_eq_true hpn] at hok
            have HC := Lib.hid hc; have HOK := Lib.hid hok
            clear hc hok hpn
            simp only [] at k1 k2 ⊢
            repeat (first | (go_at_call 29; refine (Hid.out (p := _) ?_)) | go_values | go_skip | go_guarded | go_step | go_upon | go_back)
            refine Lib.hid ?_
            refine HC.out.mono ?_
            rintro e w16 ⟨rfl, hb⟩
            have HB16 := Lib.hid (bl0 HB15.out hb)
            clear hb HC k1 k2
            simp only []
            go_wp2_with fail
            go_meet
            exact ⟨by rw [HOK.out], HB16⟩
          · rw [decide_eq_false hpn] at hok
            have t5 : decide (cmpI p0 n0 < 0) = false := by
              unfold cmpI
              rw [if_neg hpn]
              split <;> decide
            generalize cmpI p0 n0 = z at hc t5
            have HC := Lib.hid hc; have HOK := Lib.hid hok
            clear hc hok hpn
            simp only [] at k1 k2 ⊢
            repeat (first | (go_at_call 29; refine (Hid.out (p := _) ?_)) | go_values | go_skip | go_guarded | go_step | go_upon | go_back)
            refine Lib.hid ?_
            refine HC.out.mono ?_
            rintro e w16 ⟨rfl, hb⟩
            have HB16 := Lib.hid (bl0 HB15.out hb)
            clear hb HC k1 k2
            simp only []
            go_wp2_with fail
            go_meet
            exact ⟨by rw [HOK.out], HB16⟩
        · have hok := HOK.out
          rw [decide_eq_false hpb, Bool.false_and] at hok
          have t5 : (cmpI p0 b0 == 0) = false := by rw [beq_eq_false_iff_ne]; intro h; exact hpb (cmpI_zero.1 h)
          have hc1 := HC1.out
          generalize cmpI p0 b0 = z at hc1 t5
          have HC := Lib.hid hc1
          have HOK' := Lib.hid hok
          clear hok hc1 HC1 HOK hpb
          repeat (first | (go_at_call 29; refine (Hid.out (p := _) ?_)) | go_values | go_skip | go_guarded | go_step | go_upon | go_back)
          refine Lib.hid ?_
          clear k1 k2 k3
          refine HC.out.mono ?_
          rintro e w16 ⟨rfl, hb⟩
          have HB16 := Lib.hid hb
          clear hb HC
          simp only []
          go_wp2_with fail
          go_meet
          exact ⟨by rw [HOK'.out], HB16⟩
      case rest =>
        obtain ⟨rfl, HB15⟩ := hcut
        obtain ⟨T, hT⟩ : ∃ T, (⟨#[0]⟩ : ByteArray) ++ d = T := ⟨_, rfl⟩
        have hTl : T.data.toList = 0 :: d.data.toList := by rw [← hT]; simp
        have hTz : T.size ≤ 2001 := by rw [← hT, ByteArray.size_append, show (⟨#[0]⟩ : ByteArray).size = 1 from rfl]; omega
        have hsgl : sg.data.toList = wideL s0 64 := by rw [← HSG.out]; simp [bs]
        have hsgz : sg.size = 64 := by rw [← HSG.out, bs_size, wideL_len]
        have hdi : (d.size : Int) ≤ 2000 := by omega
        have hv1 := HV.out T sg wc (by have := HPZ.out; omega) (by omega) (by omega)
        rw [hTl, hsgl, HVO.out _ _ HSL.out, ← hb0.out] at hv1
        generalize okB s0 e0 n0 b0 = okv at hv1 ⊢
        have HV1 := Lib.hid hv1; have HTL := Lib.hid hTl; have HTZ := Lib.hid hTz; have HSGZ := Lib.hid (And.intro hsgl hsgz)
        clear hv1 hTl hTz hsgl hsgz HOK HC1 HSN XP14
        repeat (first | (go_at_call 23; refine (Hid.out (p := _) ?_)) | go_values | go_skip | go_guarded | go_step | go_upon | go_back)
        refine Lib.hid ?_
        refine HV1.out.mono ?_
        clear HV1
        rintro e w17 ⟨rfl, hb⟩
        have hb' := bl0 HB15.out hb
        have B17 := Lib.hid (bl0 B14.out hb')
        have XE17 := Lib.hid (XE14.out.next hb'); have XN17 := Lib.hid (XN14.out.next hb'); have XB17 := Lib.hid (XB14.out.next hb')
        have HT := Lib.hid hT
        clear hb hb' HB15 B14 XE14 XN14 XB14 hT k1 k2 k3
        simp only []
        go_upto_if 132 with (fail)
        go_cut [2] (fun s2 wx => ∃ i' : Int, s2 = .int .i64 i' ∧ 0 ≤ i' ∧ i' ≤ 9223372036854775807 ∧ w17 = wx)
        case first =>
          by_cases hi : i < 0
          · go_wp2_with fail
            go_meet
            exact ⟨_, rfl, by omega, by omega, rfl⟩
          · go_wp2_with fail
            go_meet
            exact ⟨_, rfl, by omega, by omega, rfl⟩
        case rest =>
        obtain ⟨i', rfl, wi3, wi4, rfl⟩ := hcut
        go_upto_if 138 with (fail)
        go_cut [3] (fun s3 wx => ∃ j' : Int, s3 = .int .i64 j' ∧ -9223372036854775808 ≤ j' ∧ j' ≤ 9223372036854775807 ∧ w17 = wx)
        case first =>
          by_cases hj : j.tmod 256 = 0
          · have t5 : (j.tmod 256 == 0) = true := by rw [hj]; rfl
            go_wp2_with fail
            go_meet
            exact ⟨_, rfl, by omega, by omega, rfl⟩
          · have t5 : (j.tmod 256 == 0) = false := by simpa using hj
            go_wp2_with fail
            go_meet
            exact ⟨_, rfl, by omega, by omega, rfl⟩
        case rest =>
        obtain ⟨j', rfl, wj3, wj4, rfl⟩ := hcut
        clear wi1 wi2 wj1 wj2
        have hcv := conv_string_bytes w17 sg
        have hA0 := BytesAt.new w17 sg
        have hbw := below_bytesWorld w17 5 sg
        have hbz := Lib.bytesWorld_size w17 5 sg
        generalize grownCap w17 sg.size 0 5 = cap at hcv
        generalize Lib.bytesWorld w17 5 sg = W0 at hcv hA0 hbw hbz
        rw [HSGZ.out.2] at hcv
        obtain ⟨m, hm, hm64⟩ : ∃ m : Nat, i' % 64 = (m : Int) ∧ m < 64 := ⟨(i' % 64).toNat, by omega, by omega⟩
        obtain ⟨z, hz⟩ := xor_byte (byt sg m) j'
        have hA3 := hA0.set m z (by rw [HSGZ.out.2]; exact hm64)
        have hUl := bset_len sg m z
        rw [HSGZ.out.2] at hUl
        have c0 := hA0 m (by rw [HSGZ.out.2]; exact hm64)
        obtain ⟨c0, f0⟩ := c0
        have hmi : (m : Int) < 64 := by omega
        generalize bset sg m z = U at hA3 hUl
        have hUz : U.size = 64 := by rw [← hUl]; simp
        have hcs := hA3.string 64 cap hUz.symm
        have hq : Below w17.heap.size w17 (W0.setCell ⟨w17.heap.size, m, none⟩ (.int .u8 (z.toNat : Int))) := hbw.setCell (p := ⟨w17.heap.size, m, none⟩) (Nat.le_refl _) _
        have hlt : w17.heap.size < (W0.setCell ⟨w17.heap.size, m, none⟩ (.int .u8 (z.toNat : Int))).heap.size := by simp; omega
        obtain ⟨W18, hW⟩ : ∃ W18, W0.setCell ⟨w17.heap.size, m, none⟩ (.int .u8 (z.toNat : Int)) = W18 := ⟨_, rfl⟩
        rw [hW] at hA3 hq hlt
        have B18 := Lib.hid (bl0 B17.out hq)
        have XE18 := Lib.hid (XE17.out.next hq); have XN18 := Lib.hid (XN17.out.next hq); have XB18 := Lib.hid (XB17.out.next hq)
        have HU := Lib.hid (And.intro hA3 hlt); have HW := Lib.hid hW; have HUZ := Lib.hid (And.intro hUl hUz)
        clear hA3 hA0 hbw hbz hm64 hq hlt hW hUl hUz B17 XE17 XN17 XB17
        repeat (first | (go_at_call 25; refine (Hid.out (p := _) ?_)) | go_values | go_skip | go_guarded | go_step | go_upon | go_back)
        refine Lib.hid ?_
        clear hcv hcs c0 f0 hz hm hmi
        rw [HW.out]
        have ho := of_bytes U.data.toList W18 (by rw [HUZ.out.1]; omega)
        rw [bs_toList, num_be] at ho
        have hyl := be_len U.data.toList (by rw [HUZ.out.1]; omega)
        have hvu := HVS.out T.data.toList U.data.toList HUZ.out.1
        rw [HTL.out, ← hb0.out] at hvu
        generalize be U.data.toList = y0 at ho hyl hvu
        refine ho.mono ?_
        clear ho
        rintro e w20 ⟨v, rfl, hv, hb⟩
        obtain ⟨A20, c20, rfl, hv⟩ := hv
        obtain ⟨W21, hW⟩ : ∃ W21, W21 = w20.alloc (.cells #[.slice A20 (nd y0).length c20] 45) := ⟨_, rfl⟩
        have hq : Below W18.heap.size W18 W21 := by rw [hW]; exact hb.alloc hb.size _
        have xy : NatBlk W21 w20.heap.size A20 c20 (nd y0) := by rw [hW]; exact NatBlk.new hv
        have xe := XE18.out.next hq; have xn := XN18.out.next hq
        have hpw := nat_pow _ _ _ y0 e0 n0 HN.out.1 W21 (by omega) (by have := HN.out.2.1; omega) HN.out.2.2.1 0 0 0 xy.2 xe.2 xn.2
        have k1 := xy.1.cell 0; have k2 := xe.1.cell 0; have k3 := xn.1.cell 0
        rw [hW] at k1 k2 k3
        have B21 := Lib.hid (bl0 B18.out hq)
        have XY21 := Lib.hid xy; have XN21 := Lib.hid xn; have XB21 := Lib.hid (XB18.out.next hq)
        have HU21 := Lib.hid (And.intro (HU.out.1.below hq HU.out.2) (Nat.lt_of_lt_of_le HU.out.2 hq.size))
        have HPW := Lib.hid hpw; have HW21 := Lib.hid hW; have HYL := Lib.hid hyl; have HVU := Lib.hid hvu
        clear hb hv hq hW hpw xy xe xn hyl hvu HU XE18 XN18 XB18 HW B18 HVS HVO
        simp only [] at k1 k2 k3 ⊢
        repeat (first | (go_at_call 27; refine (Hid.out (p := _) ?_)) | go_values | go_skip | go_guarded | go_step | go_upon | go_back)
        refine Lib.hid ?_
        clear k1 k2 k3
        rw [← HW21.out]
        clear HW21
        refine HPW.out.mono ?_
        clear HPW
        rintro e w22 ⟨hb, r, rfl, A22, c22, rfl, hv⟩
        obtain ⟨W23, hW⟩ : ∃ W23, W23 = w22.alloc (.cells #[.slice A22 (nd (y0 ^ e0 % n0)).length c22] 45) := ⟨_, rfl⟩
        have hq : Below W21.heap.size W21 W23 := by rw [hW]; exact hb.alloc hb.size _
        have hbk : y0 ^ e0 % n0 < n0 := Nat.mod_lt _ (Nat.pos_of_ne_zero HN.out.1)
        have hok : okB y0 e0 n0 b0 = (decide (y0 ^ e0 % n0 = b0) && decide (y0 < n0) && decide (b0 < n0)) := rfl
        generalize y0 ^ e0 % n0 = p1 at hv hbk hok hW ⊢
        have xp : NatBlk W23 w22.heap.size A22 c22 (nd p1) := by rw [hW]; exact NatBlk.new hv
        have xb := XB21.out.next hq; have xn := XN21.out.next hq; have xy := XY21.out.next hq
        have k1 := xp.1.cell 0; have k2 := xb.1.cell 0; have k3 := xn.1.cell 0; have k4 := xy.1.cell 0
        have hc1 := nat_cmp _ _ p1 b0 W23 (by have := sign_len hbk HN.out.2.2.2; omega) (by have := HBL.out; omega) 0 0 xp.2 xb.2
        have B23 := Lib.hid (bl0 B21.out hq)
        have XN23 := Lib.hid xn; have XB23 := Lib.hid xb; have XY23 := Lib.hid xy
        have HU23 := Lib.hid (And.intro (HU21.out.1.below hq HU21.out.2) (Nat.lt_of_lt_of_le HU21.out.2 hq.size))
        have HC1 := Lib.hid hc1; have HW := Lib.hid hW; have HOK := Lib.hid hok; have HBK := Lib.hid hbk
        clear hb hv hq hW hbk hok xp xb xn xy hc1 B21 XN21 XB21 XY21 HU21
        simp only [] at k1 k2 k3 k4 ⊢
        go_upto_region 25 with (fail)
        rw [← HW.out]
        clear HW
        go_cut [31] (fun s31 wx => s31 = .bool (okB y0 e0 n0 b0) ∧ Hid (Below W23.heap.size W23 wx))
        case first =>
          by_cases hpb : p1 = b0
          · subst hpb
            have hc1 := HC1.out
            rw [cmpI_eq] at hc1
            have HC := Lib.hid hc1
            have hok := HOK.out
            rw [decide_eq_true rfl, Bool.true_and, decide_eq_true HBK.out, Bool.and_true] at hok
            have HOK' := Lib.hid hok
            clear hc1 HC1 HOK hok
            repeat (first | (go_at_call 29; refine (Hid.out (p := _) ?_)) | go_values | go_skip | go_guarded | go_step | go_upon | go_back)
            refine Lib.hid ?_
            clear k1 k2 k3 k4
            refine HC.out.mono ?_
            clear HC
            rintro e w24 ⟨rfl, hb⟩
            have xy := XY23.out.next hb; have xn := XN23.out.next hb
            have k1 := xy.1.cell 0; have k2 := xn.1.cell 0
            have hc := nat_cmp _ _ y0 n0 w24 (by have := HYL.out; omega) (by have := HN.out.2.2.1; omega) 0 0 xy.2 xn.2
            have HB24 := Lib.hid hb
            clear hb xy xn
            by_cases hpn : y0 < n0
            · rw [cmpI_lt hpn] at hc
              have HC := Lib.hid hc
              have hok := HOK'.out
              rw [decide_eq_true hpn] at hok
              have HOK := Lib.hid hok
              clear hc hok hpn
              simp only [] at k1 k2 ⊢
              repeat (first | (go_at_call 29; refine (Hid.out (p := _) ?_)) | go_values | go_skip | go_guarded | go_step | go_upon | go_back)
              refine Lib.hid ?_
              clear k1 k2
              refine HC.out.mono ?_
              clear HC
              rintro e w25 ⟨rfl, hb⟩
              have hb' := bl0 HB24.out hb
              have xb := XB23.out.next hb'; have xn := XN23.out.next hb'
              have k1 := xb.1.cell 0; have k2 := xn.1.cell 0
              have hc := nat_cmp _ _ p1 n0 w25 (by have := HBL.out; omega) (by have := HN.out.2.2.1; omega) 0 0 xb.2 xn.2
              rw [cmpI_lt HBK.out] at hc
              have HB25 := Lib.hid hb'; have HC := Lib.hid hc
              clear hb hb' xb xn hc
              simp only [] at k1 k2 ⊢
              repeat (first | (go_at_call 29; refine (Hid.out (p := _) ?_)) | go_values | go_skip | go_guarded | go_step | go_upon | go_back)
              refine Lib.hid ?_
              clear k1 k2
              refine HC.out.mono ?_
              rintro e w26 ⟨rfl, hb⟩
              have HB26 := Lib.hid (bl0 HB25.out hb)
              clear hb HC
              simp only []
              go_wp2_with fail
              go_meet
              exact ⟨by rw [HOK.out], HB26⟩
            · have hok := HOK'.out
              rw [decide_eq_false hpn] at hok
              have t5 : decide (cmpI y0 n0 < 0) = false := by
                unfold cmpI
                rw [if_neg hpn]
                split <;> decide
              generalize cmpI y0 n0 = z at hc t5
              have HC := Lib.hid hc; have HOK := Lib.hid hok
              clear hc hok hpn
              simp only [] at k1 k2 ⊢
              repeat (first | (go_at_call 29; refine (Hid.out (p := _) ?_)) | go_values | go_skip | go_guarded | go_step | go_upon | go_back)
              refine Lib.hid ?_
              clear k1 k2
              refine HC.out.mono ?_
              rintro e w25 ⟨rfl, hb⟩
              have HB25 := Lib.hid (bl0 HB24.out hb)
              clear hb HC
              simp only []
              go_wp2_with fail
              go_meet
              exact ⟨by rw [HOK.out], HB25⟩
          · have hok := HOK.out
            rw [decide_eq_false hpb, Bool.false_and, Bool.false_and] at hok
            have t5 : (cmpI p1 b0 == 0) = false := by rw [beq_eq_false_iff_ne]; intro h; exact hpb (cmpI_zero.1 h)
            have hc1 := HC1.out
            generalize cmpI p1 b0 = z at hc1 t5
            have HC := Lib.hid hc1
            have HOK' := Lib.hid hok
            clear hok hc1 HC1 HOK hpb
            repeat (first | (go_at_call 29; refine (Hid.out (p := _) ?_)) | go_values | go_skip | go_guarded | go_step | go_upon | go_back)
            refine Lib.hid ?_
            clear k1 k2 k3 k4
            refine HC.out.mono ?_
            rintro e w24 ⟨rfl, hb⟩
            have HB24 := Lib.hid hb
            clear hb HC
            simp only []
            go_wp2_with fail
            go_meet
            exact ⟨by rw [HOK'.out], HB24⟩
        case rest =>
        obtain ⟨rfl, HB24⟩ := hcut
        have hcs := (HU23.out.1.below HB24.out HU23.out.2).string 64 cap HUZ.out.2.symm
        have hv1 := HV.out T U wc (by have := HPZ.out; omega) (by have := HTZ.out; omega) (by have := HUZ.out.2; omega)
        rw [HTL.out, HVU.out] at hv1
        generalize okB y0 e0 n0 b0 = ok2 at hv1 ⊢
        have HV1 := Lib.hid hv1
        have hsz := HSGZ.out.2
        have hS1 : Hid ((sg.extract 1 64).data.toList.length = 63) := Lib.hid (by simp; have : sg.data.size = 64 := hsz; omega)
        generalize hse : sg.extract 1 64 = S1 at hS1
        clear hv1 HC1 HOK HBK HYL HVU HN k1 k2 k3 k4
        repeat (first | (go_at_call 23; refine (Hid.out (p := _) ?_)) | go_values | go_skip | go_guarded | go_step | go_upon | go_back)
        refine Lib.hid ?_
        refine HV1.out.mono ?_
        clear HV1 hcs
        rintro e w28 ⟨rfl, hb⟩
        have hb' := bl0 HB24.out hb
        have B28 := Lib.hid (bl0 B23.out hb')
        have hv2 := HV.out T S1 w28 (by have := HPZ.out; omega) (by have := HTZ.out; omega) (by have := hS1.out; simp at this; omega)
        rw [HVT.out _ _ hS1.out] at hv2
        have HV2 := Lib.hid hv2
        clear hb hb' hv2
        simp only []
        repeat (first | (go_at_call 23; refine (Hid.out (p := _) ?_)) | go_values | go_skip | go_guarded | go_step | go_upon | go_back)
        refine Lib.hid ?_
        refine HV2.out.mono ?_
        clear HV2
        rintro e w29 ⟨rfl, hb⟩
        have B29 := Lib.hid (bl0 B28.out hb)
        clear hb
        simp only []
        repeat (first | (fail) | go_values | go_skip | go_guarded | go_step | go_upon | go_back)
        go_ret
        exact ⟨rfl, B29.out⟩
theorem keyssigns_any (E N D d : ByteArray) (i j : Int) (w : World) (wi : -9223372036854775808 ≤ i ∧ i ≤ 9223372036854775807) (wj : -9223372036854775808 ≤ j ∧ j ≤ 9223372036854775807) :
    Calls Tryz.prog 8 #[.agg #[.string E, .string N, .string D], .string d, .int .i64 i, .int .i64 j] w fun e w' => e = .returned (.bool true) ∧ Below w.heap.size w w' := by
  by_cases h : 1 ≤ E.size ∧ E.size ≤ 8 ∧ N.size = 64 ∧ D.size ≤ 64
  · exact keyssigns_main E N D d i j w h.1 h.2.1 h.2.2.1 h.2.2.2 wi wj
  · exact keyssigns_few E N D d i j w h
end Go.Proofs.YtdmfbcfhfopipaaGreatDoor

/- KeysSigns: whoever has the secret exponent makes a right sign, and a turned one is right only if its power is. Proved for every secret, text, place and byte: the row and its tied card. -/
namespace Go.Proofs.YtdmfbcfhfopipaaGreatDoor
open Go.ChangeShapes Go.WideShapes Go.ChangeAt Go.RowKit

theorem bd64G {n : Int} (h : (Lit.int .i64 n).wf = true) : -9223372036854775808 ≤ n ∧ n ≤ 9223372036854775807 := by
  simp only [Lit.wf, Bool.and_eq_true, decide_eq_true_eq] at h
  have e1 : IntKind.i64.min = -9223372036854775808 := by decide
  have e2 : IntKind.i64.max = 9223372036854775807 := by decide
  omega
theorem ownS8 : ownKnob Tryz.prog.godebug = none := by kernel_rfl

set_option maxRecDepth 100000 in
theorem liftedS8 (os : Os) (started : os.Started) (H : Type) (enc : TypeId × Value → H) :
    ReturnsInHanded {} Tryz.checked os 8 .any (fun w args => (Rows.keysSignsSpec.pre enc Tryz.prog Tryz.f8 [] false w args ∧ laidMetH Tryz.prog Rows.keysSignsRow.laid w) ∧ sizedMet enc Tryz.prog Tryz.f8 (OpenSpec.ofChange Rows.keysSignsSpec) false w args)
      (Rows.keysSignsSpec.post enc Tryz.prog Tryz.f8 false true false false) := by
  refine returnsInHanded_of_change_and (C := Tryz.checked) (X := fun w _ => laidMetH Tryz.prog Rows.keysSignsRow.laid w) (fun _ _ _ hh h => h.of_heap hh) ownS8 started (by kernel_rfl) Tryz.func8
    (ChangeSpec.witness_shaped (enc := enc) (C := Tryz.checked) (os := os) (X := fun w _ => laidMetH Tryz.prog Rows.keysSignsRow.laid w) false (World.laidAll Tryz.prog os Rows.keysSignsRow.laid) #[.agg #[.string ⟨#[]⟩, .string ⟨#[]⟩, .string ⟨#[]⟩], .string ⟨#[]⟩, .int .i64 0, .int .i64 0] 8 (World.laidAll_os _ _ _)
      (World.shaped_of_ZipB (by kernel_rfl) (by kernel_rfl)) (by kernel_rfl) (by kernel_rfl) (by kernel_rfl)
      (by rw [MakeChecks.laidMetH_plain _ _ _ (by kernel_rfl)]; exact laidMet_laidAll _ (by kernel_rfl) (by kernel_rfl))) ?_
  intro W base args ds gs before hval0 hW _ _ _ _
  have hval : ∀ (j : Nat) t v, Tryz.f8.params[j]? = some t → args[j]? = some v → Value.okWide Tryz.prog W .any base t v := hval0
  have hW' := hW
  obtain ⟨p, q, hA0, hV, rfl, _, _⟩ := hW
  have hA : DataW.TrodAll enc Tryz.prog W 0 (fun _ => true) true Tryz.f8.params.toList args.toList ds p := hA0
  rw [Tryz.params8] at hA hval
  obtain ⟨args⟩ := args
  obtain ⟨v0, r0, d0, ds0, p0, q0, ha0, hd0, hp0, h0, hA⟩ := trodAll_cons hA
  obtain ⟨v1, r1, d1, ds1, p1, q1, ha1, hd1, hp1, h1, hA⟩ := trodAll_cons hA
  obtain ⟨v2, r2, d2, ds2, p2, q2, ha2, hd2, hp2, h2, hA⟩ := trodAll_cons hA
  obtain ⟨v3, r3, d3, ds3, p3, q3, ha3, hd3, hp3, h3, hA⟩ := trodAll_cons hA
  obtain ⟨rfl, rfl, rfl⟩ := trodAll_nil hA
  obtain ⟨rfl, rfl⟩ := trodVars_none hV
  simp only [] at ha0
  subst ha3 ha2 ha1 ha0 hd3 hd2 hd1 hd0 hp3 hp2 hp1 hp0
  obtain ⟨u0, u1, u2, y0, y1, y2, nn, rfl, rfl, rfl, t0, t1, t2⟩ := Go.Joins.open_agg3 Tryz.underlying55 (by kernel_rfl) (by kernel_rfl) (hval 0 55 v0 rfl rfl) h0
  obtain ⟨a0, g0, rfl, wa0⟩ := DataW.trod_string Tryz.underlying9 t0
  obtain ⟨a1, g1, rfl, wa1⟩ := DataW.trod_string Tryz.underlying9 t1
  obtain ⟨a2, g2, rfl, wa2⟩ := DataW.trod_string Tryz.underlying9 t2
  simp only [List.cons.injEq, and_true] at g0 g1 g2
  subst g0 g1 g2
  obtain ⟨s1, rfl, rfl, rfl, ws1⟩ := Go.ChangeMaps.open_string Tryz.underlying9 (hval 1 9 v1 rfl rfl) h1
  obtain ⟨k2, rfl, rfl, rfl, wk2⟩ := open_int Tryz.underlying3 (hval 2 3 v2 rfl rfl) h2
  obtain ⟨k3, rfl, rfl, rfl, wk3⟩ := open_int Tryz.underlying3 (hval 3 3 v3 rfl rfl) h3
  simp only [List.append_nil] at hW'
  refine (keyssigns_any a0 a1 a2 s1 k2 k3 W (bd64G wk2) (bd64G wk3)).mono fun e W' ⟨he, hB⟩ => ?_
  subst he
  refine ⟨_, rfl, _, _, _, [], [], [], hW', trodAll_mk1 (shut_bool Tryz.underlying4 _),
    trodAll_mk4 (Go.Joins.shut_agg3 Tryz.underlying55 (by kernel_rfl) (by kernel_rfl) (Go.Deep.shut_string_cell Tryz.underlying9 wa0) (Go.Deep.shut_string_cell Tryz.underlying9 wa1) (Go.Deep.shut_string_cell Tryz.underlying9 wa2))
      (Go.ChangeMaps.shut_string Tryz.underlying9 ws1) (shut_int Tryz.underlying3 wk2) (shut_int Tryz.underlying3 wk3), rfl, hB.frame _, fun h => by cases h⟩

theorem keysSigns_holds : Rows.KeysSignsSaid :=
  OpenClaim.holds_of_wide 8 Tryz.f8 rfl rfl rfl rfl rfl rfl rfl ⟨rfl, rfl, rfl, rfl, rfl⟩ rfl rfl rfl rfl rfl (by kernel_rfl) Tryz.func8 (by kernel_rfl)
    (of_decide_eq_true (by kernel_rfl)) (by unfold Func.isWrapper; first | (rw [if_pos (by decide +kernel)]; kernel_rfl) | (rw [if_neg (by decide +kernel)]; exact ⟨rfl, rfl⟩))
    (fun os started H enc _ => liftedS8 os started H enc)
theorem keysSigns_card_holds : Rows.KeysSignsCardSaid :=
  Claim7.holds_tied_plain_at .later [] [.data, .data, .data, .data, .sentinel, .sentinel, .pinned] true (true, "a09616d6173a328a831be6e0f51517a46bcfbfbb6630f15630fba411aacb9533") true keysSigns_holds (fun _ h => by cases h) (by kernel_rfl) (fun _ h => by cases h) keysSigns_row_tie rfl ⟨rfl, rfl⟩ (by kernel_rfl) rfl
    (fun f fn hf hfn => by
      obtain rfl : f = 8 := Option.some.inj ((show Tryz.prog.funcNamed "guidepost/guidepostlaw06.KeysSigns" = some 8 by kernel_rfl).symm.trans hf) |>.symm
      obtain rfl : fn = Tryz.f8 := (Option.some.inj (Tryz.func8.symm.trans hfn)).symm
      exact ⟨by kernel_rfl, fun j t ht => by
        rw [Tryz.params8] at ht
        have hm : t ∈ [55, 9, 3, 3] := by simpa using Array.mem_of_getElem? ht
        have hall : ([55, 9, 3, 3].all fun u => !Tryz.prog.wantsStandIn u) = true := by kernel_rfl
        exact (show Tryz.prog.wantsStandIn t = false by simpa using List.all_eq_true.1 hall t hm)⟩)
    (by kernel_rfl)
#print axioms keysSigns_holds
#print axioms keysSigns_card_holds
end Go.Proofs.YtdmfbcfhfopipaaGreatDoor

