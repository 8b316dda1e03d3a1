import Derived.Test.YtkhpcagoggglcaaGreatDoorVe11
import Derived.Deep.DeepCutAuto
import Derived.Deep.CutRange
import Derived.Test.YtkhpcagoggglcaaGreatDoorVe10
/- rrcache's Put, walked. -/
namespace Go.Proofs.YtkhpcagoggglcaaGreatDoor
open Go.RowKit

/-- The block of a set, in a world grown out of W0. -/
structure SbSt (W0 : World) (sb : Nat) (cs : Array Value) (W : World) : Prop where
  s : Blk W sb cs 30
  below : Below W0.heap.size W0 W
def SbS (W0 : World) (sb : Nat) (v0 v1 v2 v3 v4 v5 : Value) (W : World) : Prop :=
  W.cell? ⟨sb, 0, none⟩ = some v0 ∧ W.cell? ⟨sb, 1, none⟩ = some v1 ∧ SbSt W0 sb #[v0, v1, v2, v3, v4, v5] W
theorem SbSt.open {W0 : World} {sb : Nat} {v0 v1 v2 v3 v4 v5 : Value} {W : World} (h : SbSt W0 sb #[v0, v1, v2, v3, v4, v5] W) : SbS W0 sb v0 v1 v2 v3 v4 v5 W := ⟨h.s.cell 0, h.s.cell 1, h⟩
theorem SbSt.next {W0 : World} {sb : Nat} {cs : Array Value} {W W' : World} (h : SbSt W0 sb cs W) (hb : Below W.heap.size W W') : SbSt W0 sb cs W' := ⟨h.s.below hb h.s.lt, h.below.trans (hb.mono h.below.size)⟩
theorem SbSt.keep {W0 : World} {sb : Nat} {v0 v1 v2 v3 v4 v5 : Value} {W W' : World} (h : SbSt W0 sb #[v0, v1, v2, v3, v4, v5] W) (hb : Below W.heap.size W W') : SbS W0 sb v0 v1 v2 v3 v4 v5 W' := (h.next hb).open
theorem SbSt.alloc {W0 : World} {sb : Nat} {cs : Array Value} {W : World} (h : SbSt W0 sb cs W) (o : Obj) : SbSt W0 sb cs (W.alloc o) := h.next ((Below.refl _ _).alloc (Nat.le_refl _) o)
theorem SbSt.keepA {W0 : World} {sb : Nat} {v0 v1 v2 v3 v4 v5 : Value} {W : World} (h : SbSt W0 sb #[v0, v1, v2, v3, v4, v5] W) (o : Obj) : SbS W0 sb v0 v1 v2 v3 v4 v5 (W.alloc o) := (h.alloc o).open
theorem right_keyOk {s : SetD} (h : rightS s = true) : KeyOk Tryz.prog 51 (nameLower s.name) s.kind := by
  simp only [rightS, btw, Bool.and_eq_true, decide_eq_true_eq] at h
  have hn := h.1.1.1.1.1.1.1.1.1.1
  have hk := h.1.1.1.1.1.1.1.1.1.2
  have hs : s.name.size ≤ 255 := by simp only [nameRight, Bool.and_eq_true, decide_eq_true_eq] at hn; omega
  refine rkeyOk _ _ (by rw [size_nameLower]; simp only [maxLen]; omega) ?_
  simp only [Lit.wf, Bool.and_eq_true, decide_eq_true_eq]
  have e1 : IntKind.i64.min = -9223372036854775808 := by decide
  have e2 : IntKind.i64.max = 9223372036854775807 := by decide
  omega
theorem below_of_drew {B : Nat} {w w' : World} (h : Below B w.drew w') : Below B w w' := ⟨h.os, h.tape, h.output, h.size, h.block⟩
theorem sb_kind2 {w1 W3 : World} {ws : Nat} {cs : Array Value} {n : ByteArray} {k : Int} (t3 : SbSt w1.drew ws cs W3) (ak : Blk W3 w1.heap.size #[.string ⟨#[]⟩, .int .i64 0] 51) (xl : ws < w1.heap.size) :
    ws < w1.heap.size ∧ Blk ((W3.setCell ⟨w1.heap.size, 0, none⟩ (.string n)).setCell ⟨w1.heap.size, 1, none⟩ (.int .i64 k)) w1.heap.size #[.string n, .int .i64 k] 51 ∧ SbSt w1.drew ws cs ((W3.setCell ⟨w1.heap.size, 0, none⟩ (.string n)).setCell ⟨w1.heap.size, 1, none⟩ (.int .i64 k)) := by
  refine ⟨xl, by simpa using (ak.set 0 (.string n)).set 1 (.int .i64 k), ?_, ?_⟩
  · exact (t3.s.other (by show ws ≠ w1.heap.size; omega) _).other (by show ws ≠ w1.heap.size; omega) _
  · exact (t3.below.setCell (p := ⟨w1.heap.size, 0, none⟩) (Nat.le_refl _) _).setCell (p := ⟨w1.heap.size, 1, none⟩) (Nat.le_refl _) _
def findPut (m : List Kv) (n : ByteArray) (k : Int) (now rank : Int) : Bool := match m.find? (isK n k) with | some o => decide (now < o.2.til) && decide (rank < o.2.rank) | none => false
def samePut (m : List Kv) (n : ByteArray) (k : Int) (s : SetD) : Option Ent := match m.find? (isK n k) with | some o => if (sameS o.2.set s && decide (o.2.set.sigs = s.sigs)) = true then some o.2 else none | none => none
def putE (m : List Kv) (s : SetD) (rank sec now last : Int) : Kv :=
  ((nameLower s.name, s.kind), ⟨s, rank, sec, match samePut m (nameLower s.name) s.kind s with | some o => o.ver | none => last + 1, now + min s.ttl 604800⟩)
def putL (m : List Kv) (s : SetD) (last : Int) : Int := match samePut m (nameLower s.name) s.kind s with | some _ => last | none => last + 1
def putM (most : Int) (m : List Kv) (n : ByteArray) (k : Int) (e : Kv) : List Kv :=
  match m.find? (isK n k) with
  | some _ => e :: m.eraseP (isK n k)
  | none => if (m.length + 1 : Int) ≤ most then e :: m else e :: m.dropLast
def putStay (m : List Kv) (s : SetD) (rank now : Int) : Bool := decide (min s.ttl 604800 = 0) || findPut m (nameLower s.name) s.kind now rank
/-- What Put makes of a cache: what is known, the last version, whether it was kept, and the error. -/
def putR (most last : Int) (m : List Kv) (s : SetD) (rank sec now : Int) : List Kv × Int × Bool × Int :=
  if putOk s rank sec now = false then (m, last, false, 1)
  else if putStay m s rank now = true then (m, last, false, 0)
  else (putM most m (nameLower s.name) s.kind (putE m s rank sec now last), putL m s last, true, 0)
/-- An old entry's block and a new set's, in a world grown out of W0. -/
structure EqSt (W0 : World) (xb sb : Nat) (cx cs : Array Value) (W : World) : Prop where
  a : Blk W xb cx 37
  b : Blk W sb cs 30
  below : Below W0.heap.size W0 W
theorem EqSt.next {W0 : World} {xb sb : Nat} {cx cs : Array Value} {W W' : World} (h : EqSt W0 xb sb cx cs W) (hb : Below W.heap.size W W') : EqSt W0 xb sb cx cs W' :=
  ⟨h.a.below hb h.a.lt, h.b.below hb h.b.lt, h.below.trans (hb.mono h.below.size)⟩
theorem set_load_at {w : World} {g : Nat} {x0 x1 x2 x3 x4 x5 x6 x7 x8 x9 : Value} {t : TypeId} (h : Blk w g #[x0, x1, x2, x3, x4, x5, x6, x7, x8, x9] t) : (loadVar 30 ⟨g, 0, none⟩).run Tryz.prog w = .ok (.agg #[x0, x1, x2, x3, x4, x5]) w := by
  have hl : (loadCells ⟨g, 0, none⟩ 6).run Tryz.prog w = .ok #[x0, x1, x2, x3, x4, x5] w :=
    run_loadCells_list (P := Tryz.prog) w ⟨g, 0, none⟩ [x0, x1, x2, x3, x4, x5] (fun j v hv => by
      have hadd : (⟨g, 0, none⟩ : Addr).add j = ⟨g, j, none⟩ := by unfold Addr.add; split <;> simp_all
      rw [hadd, h.cell]
      match j, hv with
      | 0, hv => exact hv
      | 1, hv => exact hv
      | 2, hv => exact hv
      | 3, hv => exact hv
      | 4, hv => exact hv
      | 5, hv => exact hv)
  obtain ⟨i, hi, hs⟩ := Option.map_eq_some_iff.1 info_Set
  have hagg : (isAgg 30).run Tryz.prog w = .ok true w := by
    unfold isAgg
    rw [Sem.run_bind, run_underlying Tryz.underlying30 w]
    rfl
  simp [loadVar, Sem.run_bind, hagg, sizeOf, typeInfo, hi, hs, hl]
set_option maxRecDepth 100000 in
set_option maxHeartbeats 8000000 in
theorem rc_put_ok (c : Nat) (O X : Nat → Prop) (most last : Int) (m : List Kv) (s : SetD) (dv sv : Value) (rank sec now : Int) (w : World) (h : CacheIX c O X most last m w) (hd : StrsAt dv s.data w) (hs : StrsAt sv s.sigs w) (hnow : (Lit.int .i64 now).wf = true) (hok : putOk s rank sec now = true) (hl : m.length ≤ 100000 ∧ (m.length : Int) ≤ most ∧ 1 ≤ most) (hla : 0 ≤ last ∧ last ≤ 1000000000) :
    Calls Tryz.prog 8 #[.pointer (some ⟨c, 0, none⟩), s.v dv sv, .int .i64 rank, .int .i64 sec, .int .i64 now] w (PutX c O X most (putR most last m s rank sec now) w) := by
  have hput : putR most last m s rank sec now = if putStay m s rank now = true then (m, last, false, 0) else (putM most m (nameLower s.name) s.kind (putE m s rank sec now last), putL m s last, true, 0) := by rw [putR, if_neg (by rw [hok]; simp)]
  generalize putR most last m s rank sec now = R at hput ⊢
  have HRR := Lib.hid hput
  clear hput
  have hmix : Tryz.prog.follows .mixedOrders = true := by kernel_rfl
  obtain ⟨A, c1, rfl, _⟩ := id hd
  obtain ⟨B, c2, rfl, _⟩ := id hs
  have HR := Lib.hid (fun W (hW : Below w.heap.size w W) => rrset_right s (.slice A s.data.length c1) (.slice B s.sigs.length c2) W (hd.below hW) (hs.below hW))
  have HI := Lib.hid (fun W => isTime_any now W (wf_bd hnow))
  simp only [SetD.v, SetD.cells] at *
  simp only [putOk, Bool.and_eq_true, decide_eq_true_eq] at hok
  obtain ⟨⟨⟨⟨⟨⟨g0, g1⟩, g2⟩, g3⟩, g4⟩, g5⟩, g6⟩ := hok
  rw [g0] at HR
  rw [g6] at HI
  have q1 : (s.cls != 1) = false := by rw [g1]; rfl
  have q2 : decide (rank < 1) = false := decide_eq_false (by omega)
  have q3 : decide ((4 : Int) < rank) = false := decide_eq_false (by omega)
  have q4 : decide (sec < 0) = false := decide_eq_false (by omega)
  have q5 : decide ((3 : Int) < sec) = false := decide_eq_false (by omega)
  have HLE := Lib.hid hl; have HLA := Lib.hid hla; have HH := Lib.hid h; have HD := Lib.hid (And.intro hd hs); have HG := Lib.hid (And.intro g0 (And.intro g1 (And.intro g2 (And.intro g3 (And.intro g4 (And.intro g5 g6))))))
  clear hl hla h hd hs hnow g0 g1 g2 g3 g4 g5 g6
  have HL := Lib.hid (fun W => name_lower s.name W)
  go_enter Tryz.func8, Tryz.ntmps8
  go_wp2_with (first
    | (go_at_call 15; refine (HR.out _ ((Below.refl _ _).alloc (Nat.le_refl _) _)).mono ?_; rintro e w1 ⟨rfl, hb1⟩; have hk := (Blk.new w #[.string s.name, .int .i64 s.kind, .int .i64 s.cls, .int .i64 s.ttl, .slice A s.data.length c1, .slice B s.sigs.length c2] 30).below hb1 (by simp); have d2 := hk.cell 2; have dl := hk.lt; have HB1 := Lib.hid (And.intro hk (((Below.refl _ w).alloc (Nat.le_refl _) _).trans (hb1.mono (by simp)))); clear hb1 hk)
    | (go_at_call 16; refine (HI.out _).mono ?_; rintro e w2 ⟨rfl, rfl⟩))
  have hT : SbSt w1.drew w.heap.size #[.string s.name, .int .i64 s.kind, .int .i64 s.cls, .int .i64 s.ttl, .slice A s.data.length c1, .slice B s.sigs.length c2] w1.drew := ⟨HB1.out.1, Below.refl _ _⟩
  clear d2 dl
  obtain ⟨x0, x1, _⟩ := hT.open
  have HT := Lib.hid hT
  clear hT
  go_cut [12] (fun s12 wx => ∃ kb : Nat, s12 = .pointer (some ⟨kb, 0, none⟩) ∧ Hid (w.heap.size < kb ∧ Blk wx kb #[.string (nameLower s.name), .int .i64 s.kind] 51 ∧ SbSt w1.drew w.heap.size #[.string s.name, .int .i64 s.kind, .int .i64 s.cls, .int .i64 s.ttl, .slice A s.data.length c1, .slice B s.sigs.length c2] wx))
  case first =>
    have xl : w.heap.size < w1.heap.size := HT.out.s.lt
    have x0' : w1.cell? ⟨w.heap.size, 0, none⟩ = some (.string s.name) := x0
    have x1' : w1.cell? ⟨w.heap.size, 1, none⟩ = some (.int .i64 s.kind) := x1
    go_region_with (go_at_call 17; ((with_reducible refine (HL.out _).mono ?_); rintro e W3 ⟨rfl, hb3⟩; (first | (have t3 := HT.out.next hb3; have ak := (True.intro : True)) | (have t3 := (HT.out.alloc (.cells #[.string ⟨#[]⟩, .int .i64 0] 51)).next hb3; have ak := (Blk.new w1 #[.string ⟨#[]⟩, .int .i64 0] 51).drew.below hb3 (by simp); have ak0 := ak.cell 0; have ak1 := ak.cell 1; have akf := fun j => ak.free j; have akl := ak.lt)); obtain ⟨y0, y1, _⟩ := t3.open; have yl := t3.s.lt))
    all_goals
      go_wp2_with fail
      go_meet
      first
        | exact ⟨W3.heap.size, rfl, Lib.hid ⟨t3.s.lt, Blk.new W3 _ _, t3.alloc _⟩⟩
        | exact ⟨w1.heap.size, rfl, Lib.hid (sb_kind2 t3 ak xl)⟩
  case rest =>
    obtain ⟨kb, rfl, HK⟩ := hcut
    obtain ⟨tb, mb, l, rfl, hc⟩ := HH.out
    have hbc := HB1.out.2.trans ((below_of_drew HK.out.2.2.below).mono HB1.out.2.size)
    have HC := Lib.hid hc; have HBC := Lib.hid hbc
    clear hbc hc HT HB1 HR HI HL
    obtain ⟨A9, hA9⟩ : ∃ A9, A9 = min s.ttl 604800 := ⟨_, rfl⟩
    have k3 : wc.cell? ⟨w.heap.size, 3, none⟩ = some (.int .i64 s.ttl) := HK.out.2.2.s.cell 3
    cases hf : (l.map CE.kv).find? (isK (nameLower s.name) s.kind) with
    | none =>
      have HF := Lib.hid hf
      have hko := right_keyOk HG.out.1
      have LOOKS := fun W (hW : Below w.heap.size w W) => rtab_look_out tb mb most (l.map CE.nd) (l.map CE.nd) (nameLower s.name) s.kind W (HC.out.below hW).tab.body hko (fun x hx he => by
        obtain ⟨y, hy, rfl⟩ := List.mem_map.1 hx
        exact find_no HF.out y hy (KeyOk.inj rkey_keyed (HC.out.tab.keys _ hx) hko he))
      have HKO := Lib.hid hko
      clear hf hko
      have hT2 : CkSt wc.drew c kb tb last (nameLower s.name) s.kind wc.drew := ⟨HC.out.cells.below HBC.out.drew HC.out.cells.lt, HK.out.2.1, Below.refl _ _⟩
      have HLK := Lib.hid (show ∀ W, Below wc.drew.heap.size wc.drew W → Calls Tryz.prog 18 #[.pointer (some ⟨tb, 0, none⟩), keyV (nameLower s.name) s.kind] W fun e w' => e = .returned (.tuple #[.pointer none, .bool false]) ∧ Below W.heap.size W w' from fun W hW => LOOKS W (HBC.out.drew.trans (hW.mono HBC.out.drew.size)))
      unfold keyV at HLK
      clear LOOKS
      go_wp2_with fail
      obtain ⟨x0, x1, x2, x3, _⟩ := hT2.s
      go_region_held3 (fun W => W.cell? ⟨c, 0, none⟩ = some (.pointer (some ⟨tb, 0, none⟩)) ∧ W.cell? ⟨c, 1, none⟩ = some (.int .i64 last) ∧ W.cell? ⟨kb, 0, none⟩ = some (.string (nameLower s.name)) ∧ W.cell? ⟨kb, 1, none⟩ = some (.int .i64 s.kind) ∧ CkSt wc.drew c kb tb last (nameLower s.name) s.kind W)
        (first | exact CkSt.keep (by assumption) (by assumption) | exact CkSt.s (by assumption) | go_keep)
        (first
          | (go_at_call 18; ((with_reducible refine (HLK.out _ hT2.below).mono ?_); rintro e W4 ⟨rfl, hb4⟩; have t4 := hT2.next hb4)))
      have HNB := Lib.hid (show (0 ≤ now ∧ now < 4294967296) ∧ 0 ≤ s.ttl from by
        have h1 := HG.out.2.2.2.2.2.2
        have h2 := HG.out.1
        simp only [isTimeR, rightS, btw, Bool.and_eq_true, decide_eq_true_eq] at h1 h2
        exact ⟨h1, h2.1.1.1.1.1.1.1.2.1⟩)
      have HGD := Lib.hid (show 0 ≤ now + min s.ttl 604800 ∧ now + min s.ttl 604800 ≤ 5000000000 from by have := HNB.out; omega)
      have HB4 := Lib.hid (HBC.out.drew.trans (t4.below.mono HBC.out.drew.size))
      have HS4 := Lib.hid (HK.out.2.2.s.drew.below t4.below HK.out.2.2.s.drew.lt)
      have HT4 := Lib.hid t4
      have lc4 := t4.cc.lt
      have ls4 := HS4.out.lt
      clear x0 x1 x2 x3 hT2 hb4 t4 HLK k3
      by_cases z : min s.ttl 604800 = 0
      · have q6 : (min s.ttl 604800 == 0) = true := by rw [z]; rfl
        have hR : R = (l.map CE.kv, last, false, 0) := by rw [HRR.out, if_pos]; rw [putStay, decide_eq_true z]; rfl
        have HR := Lib.hid hR
        clear z hR
        go_wp2_with fail
        go_ret2
        rw [HR.out]
        exact ⟨rfl, O, ⟨tb, mb, l, rfl, HC.out.below HB4.out⟩, fun b hb => .inl hb, Bes.of_below HB4.out⟩
      · have q6 : (min s.ttl 604800 == 0) = false := by rw [beq_eq_false_iff_ne]; exact z
        have HZ := Lib.hid z
        clear z
        have HKB0 := Lib.hid (show kb < W4.heap.size from HT4.out.kk.lt)
        have htw := twin_any s (.slice A s.data.length c1) (.slice B s.sigs.length c2) W4 (HD.out.1.below HB4.out) (HD.out.2.below HB4.out) (by have := rightS_len HG.out.1; omega) (by have := rightS_len HG.out.1; omega)
        simp only [SetD.v, SetD.cells] at htw
        have HTW := Lib.hid htw
        clear htw
        have k0 := HS4.out.cell 0; have k1 := HS4.out.cell 1; have k2 := HS4.out.cell 2; have k3 := HS4.out.cell 3; have k4 := HS4.out.cell 4; have k5 := HS4.out.cell 5
        have r1 : IntKind.i64.wrap (now + min s.ttl 604800) = now + min s.ttl 604800 := IntWalk.i64_in _ (by have := HNB.out; omega)
        go_wp2_with (go_at_call 19; refine (Hid.out (p := _) ?_))
        refine Lib.hid ?_
        refine HTW.out.mono ?_
        rintro e W5 ⟨A5, e5, B5, d5, rfl, hA5, hB5, hb5⟩
        have HTW5 := Lib.hid (And.intro hA5 (And.intro hB5 hb5))
        have HS5 := Lib.hid (HS4.out.below hb5 ls4)
        have HT5 := Lib.hid (HT4.out.next hb5)
        clear k0 k1 k2 k3 k4 k5 hA5 hB5 hb5 HTW ls4 lc4
        simp only [SetD.v, SetD.cells]
        go_upto_region 9 with (fail)
        have heb := Blk.new W5 #[.string s.name, .int .i64 s.kind, .int .i64 s.cls, .int .i64 s.ttl, .slice A5 s.data.length e5, .slice B5 s.sigs.length d5, .int .i64 rank, .int .i64 sec, .int .i64 0, .int .i64 (now + min s.ttl 604800)] 37
        have h6 := (Below.refl W5.heap.size W5).alloc (Nat.le_refl _) (.cells #[.string s.name, .int .i64 s.kind, .int .i64 s.cls, .int .i64 s.ttl, .slice A5 s.data.length e5, .slice B5 s.sigs.length d5, .int .i64 rank, .int .i64 sec, .int .i64 0, .int .i64 (now + min s.ttl 604800)] 37)
        generalize hebn : W5.heap.size = eb at heb h6 ⊢
        generalize (W5.alloc (.cells #[.string s.name, .int .i64 s.kind, .int .i64 s.cls, .int .i64 s.ttl, .slice A5 s.data.length e5, .slice B5 s.sigs.length d5, .int .i64 rank, .int .i64 sec, .int .i64 0, .int .i64 (now + min s.ttl 604800)] 37)) = W6 at heb h6 ⊢
        have HEB := Lib.hid (And.intro heb (And.intro h6 hebn))
        have HS6 := Lib.hid (HS5.out.below (h6.mono (by omega)) HS5.out.lt)
        have HT6 := Lib.hid (HT5.out.next (h6.mono (by omega)))
        clear heb h6 hebn HS5 HT5 r1
        have HKB := Lib.hid (show kb < W5.heap.size by have := HKB0.out; have := HTW5.out.2.2.size; omega)
        go_quiet (fail)
        have HBE := (Below.refl W6.heap.size W6)
        replace HBE := below_drewN HBE nq
        generalize W6.drewN nq = W7 at HBE ⊢
        have hcn : ∀ b, b = c → b < w.heap.size := fun b e => by rw [e]; exact HC.out.cells.lt
        have hwe : w.heap.size ≤ W5.heap.size := by have h1 := HB4.out.size; have h2 := HTW5.out.2.2.size; omega
        have hebn : W5.heap.size = eb := HEB.out.2.2
        have H7 := Lib.hid (show Blk W7 eb #[.string s.name, .int .i64 s.kind, .int .i64 s.cls, .int .i64 s.ttl, .slice A5 s.data.length e5, .slice B5 s.sigs.length d5, .int .i64 rank, .int .i64 sec, .int .i64 0, .int .i64 (now + min s.ttl 604800)] 37 ∧ CkSt wc.drew c kb tb last (nameLower s.name) s.kind W7 ∧ Bes (fun b => b = c) w W7 ∧ StrsN (fun g => w.heap.size ≤ g ∧ g ≠ eb) (.slice A5 s.data.length e5) s.data W7 ∧ StrsN (fun g => w.heap.size ≤ g ∧ g ≠ eb) (.slice B5 s.sigs.length d5) s.sigs W7 ∧ w.heap.size ≤ eb ∧ kb < eb from by
          have hbe : Below W6.heap.size W6 W7 := HBE
          have hle := HB4.out.size
          refine ⟨HEB.out.1.below hbe HEB.out.1.lt, HT6.out.next hbe, Bes.of_below ((HB4.out.trans (HTW5.out.2.2.mono HB4.out.size)).trans (((HEB.out.2.1.mono (by omega) : Below w.heap.size W5 W6)).trans (hbe.mono (by have := HEB.out.2.1.size; omega)))), ?_, ?_, by omega, by rw [← hebn]; exact HKB.out⟩
          · exact (((HTW5.out.1.mono (T := fun g => w.heap.size ≤ g ∧ g ≠ eb) fun g hg h => ⟨by have h' : W4.heap.size ≤ g := h; omega, by omega⟩).below (by rw [hebn]; rw [hebn] at *; exact HEB.out.2.1)).below hbe)
          · exact (((HTW5.out.2.1.mono (T := fun g => w.heap.size ≤ g ∧ g ≠ eb) fun g hg h => ⟨by have h' : W4.heap.size ≤ g := h; omega, by omega⟩).below (by rw [hebn]; rw [hebn] at *; exact HEB.out.2.1)).below hbe))
        have HCN := Lib.hid hcn
        clear hcn hwe hebn HTW5 HEB HT6 HS6
        have n0 := H7.out.2.1.cc.cell 0
        have n1 : W7.cell? ⟨c, 1, none⟩ = some (.int .i64 last) := H7.out.2.1.cc.cell 1
        have nf := fun j => H7.out.2.1.cc.free j
        have nl := H7.out.2.1.cc.lt
        have hce : c ≠ eb := by have := HCN.out c rfl; have := H7.out.2.2.2.2.2.1; omega
        have n8 : (W7.setCell ⟨c, 1, none⟩ (.int .i64 (last + 1))).cell? ⟨eb, 8, none⟩ = some (.int .i64 0) := by rw [sc_other (ne_blk hce)]; exact H7.out.1.cell 8
        have n9 : (W7.setCell ⟨c, 1, none⟩ (.int .i64 (last + 1))).cell? ⟨c, 1, none⟩ = some (.int .i64 (last + 1)) := sc_same n1
        have mf := fun j => H7.out.1.free j
        have ml := H7.out.1.lt
        have r2 : IntKind.i64.wrap (last + 1) = last + 1 := IntWalk.i64_in _ (by have := HLA.out; omega)
        go_upto_region 13 with (fail)
        have H8 := Lib.hid (show Blk ((W7.setCell ⟨c, 1, none⟩ (.int .i64 (last + 1))).setCell ⟨eb, 8, none⟩ (.int .i64 (last + 1))) eb #[.string s.name, .int .i64 s.kind, .int .i64 s.cls, .int .i64 s.ttl, .slice A5 s.data.length e5, .slice B5 s.sigs.length d5, .int .i64 rank, .int .i64 sec, .int .i64 (last + 1), .int .i64 (now + min s.ttl 604800)] 37 ∧ Blk ((W7.setCell ⟨c, 1, none⟩ (.int .i64 (last + 1))).setCell ⟨eb, 8, none⟩ (.int .i64 (last + 1))) c #[.pointer (some ⟨tb, 0, none⟩), .int .i64 (last + 1)] 54 ∧ Blk ((W7.setCell ⟨c, 1, none⟩ (.int .i64 (last + 1))).setCell ⟨eb, 8, none⟩ (.int .i64 (last + 1))) kb #[.string (nameLower s.name), .int .i64 s.kind] 51 ∧ Bes (fun b => b = c) w ((W7.setCell ⟨c, 1, none⟩ (.int .i64 (last + 1))).setCell ⟨eb, 8, none⟩ (.int .i64 (last + 1))) ∧ StrsN (fun g => w.heap.size ≤ g ∧ g ≠ eb) (.slice A5 s.data.length e5) s.data ((W7.setCell ⟨c, 1, none⟩ (.int .i64 (last + 1))).setCell ⟨eb, 8, none⟩ (.int .i64 (last + 1))) ∧ StrsN (fun g => w.heap.size ≤ g ∧ g ≠ eb) (.slice B5 s.sigs.length d5) s.sigs ((W7.setCell ⟨c, 1, none⟩ (.int .i64 (last + 1))).setCell ⟨eb, 8, none⟩ (.int .i64 (last + 1))) ∧ w.heap.size ≤ eb from by
          have hcw := HCN.out c rfl
          have hkk := H7.out.2.2.2.2.2.2
          have hkw := HK.out.1
          have hs := ((Bes.refl (fun b => b = c ∨ b = eb) W7).setCell (p := ⟨c, 1, none⟩) (.inl rfl) (.int .i64 (last + 1))).setCell (p := ⟨eb, 8, none⟩) (.inr rfl) (.int .i64 (last + 1))
          refine ⟨by simpa using (H7.out.1.other (p := ⟨c, 1, none⟩) hce.symm (.int .i64 (last + 1))).set 8 (.int .i64 (last + 1)), by simpa using (H7.out.2.1.cc.set 1 (.int .i64 (last + 1))).other (p := ⟨eb, 8, none⟩) hce (.int .i64 (last + 1)), ?_, H7.out.2.2.1.trans hs (fun b h => by rcases h with h | h; exact .inl h; exact .inr (by have := H7.out.2.2.2.2.2.1; omega)), ?_, ?_, H7.out.2.2.2.2.2.1⟩
          · unfold Blk; rw [hs.block _ H7.out.2.1.kk.lt (by omega)]; exact H7.out.2.1.kk
          · exact H7.out.2.2.2.1.keep (fun g hg h => hs.block g hg (by have := h.1; have := h.2; omega)) hs.size
          · exact H7.out.2.2.2.2.1.keep (fun g hg h => hs.block g hg (by have := h.1; have := h.2; omega)) hs.size)
        generalize ((W7.setCell ⟨c, 1, none⟩ (.int .i64 (last + 1))).setCell ⟨eb, 8, none⟩ (.int .i64 (last + 1))) = W8 at H8 ⊢
        clear n0 n1 nf nl n8 n9 mf ml r2 H7
        have p0 : W8.cell? ⟨c, 0, none⟩ = some (.pointer (some ⟨tb, 0, none⟩)) := H8.out.2.1.cell 0
        have pk0 : W8.cell? ⟨kb, 0, none⟩ = some (.string (nameLower s.name)) := H8.out.2.2.1.cell 0
        have pk1 : W8.cell? ⟨kb, 1, none⟩ = some (.int .i64 s.kind) := H8.out.2.2.1.cell 1
        have pl := H8.out.2.1.lt
        have pkl := H8.out.2.2.1.lt
        have HR8 := Lib.hid (show RT tb mb most ((l).map CE.nd) W8.drew from (HC.out.tab.keep (fun b hi => H8.out.2.2.2.1.block b (HC.out.tab.lt hi) (fun e => HC.out.apart (e ▸ hi))) H8.out.2.2.2.1.size).keep (fun _ _ => rfl) (Nat.le_refl _))
        go_still_tail 6, (by kernel_rfl)
        change wpList _ _ _ _ _ W8.drew
        go_wp2_with (go_at_call 21; refine (Hid.out (p := _) ?_))
        refine Lib.hid ?_
        clear p0 pk0 pk1 pl pkl
        have hx : ∀ x ∈ l.map CE.nd, x.lit Tryz.prog 51 ≠ keyLit Tryz.prog 51 (nameLower s.name) s.kind := fun x hx he => by
          obtain ⟨y, hy, rfl⟩ := List.mem_map.1 hx
          exact find_no HF.out y hy (KeyOk.inj rkey_keyed (HC.out.tab.keys _ hx) HKO.out he)
        have hsm : samePut (l.map CE.kv) (nameLower s.name) s.kind s = none := by rw [samePut, HF.out]
        have hst : putStay (l.map CE.kv) s rank now = false := by rw [putStay, decide_eq_false HZ.out, findPut, HF.out]; rfl
        by_cases hroom : (l.length + 1 : Int) ≤ most
        · have HRX := Lib.hid (show R = ((((nameLower s.name, s.kind), ⟨s, rank, sec, last + 1, now + min s.ttl 604800⟩) : Kv) :: l.map CE.kv, last + 1, true, 0) by
            rw [HRR.out, if_neg (by rw [hst]; simp), putM, HF.out, putE, putL, hsm]
            simp only [List.length_map]
            rw [if_pos hroom])
          have hpt := rtab_put_new tb mb most (l.map CE.nd) (nameLower s.name) s.kind (some ⟨eb, 0, none⟩) W8.drew HR8.out HKO.out hx (by rw [List.length_map]; have := HLE.out; rw [List.length_map] at this; exact ⟨by omega, hroom⟩)
          unfold keyV at hpt
          refine hpt.mono ?_
          rintro e W9 ⟨⟨v9, rfl⟩, nb, hnb, t9, b9⟩
          have HBK : InTab tb mb (l.map CE.nd) nb ∨ W8.drew.heap.size ≤ nb := .inr hnb
          clear hpt hx hsm hst hroom hnb
          have HP := Lib.hid (put_behind (W8 := W8.drew) (l0 := l) (y := ⟨nameLower s.name, s.kind, ⟨s, rank, sec, (last + 1), now + min s.ttl 604800⟩, nb, eb, .slice A5 s.data.length e5, .slice B5 s.sigs.length d5⟩) HC.out (fun _ h => h) H8.out.1 H8.out.2.1 H8.out.2.2.2.1.drew H8.out.2.2.2.2.1 H8.out.2.2.2.2.2.1 H8.out.2.2.2.2.2.2 ⟨HG.out.1, HGD.out.1, HGD.out.2⟩ t9 b9 HBK)
          clear b9 t9 HBK
          simp only []
          go_wp2_with fail
          go_ret2
          rw [HRX.out]
          exact ⟨rfl, _, HP.out⟩
        · have hlen := HLE.out
          rw [List.length_map] at hlen
          obtain ⟨l', z, hlz⟩ : ∃ l' z, l = l' ++ [z] := ⟨l.dropLast, l.getLast (by intro e; rw [e] at hlen hroom; simp at hlen hroom; omega), (List.dropLast_concat_getLast _).symm⟩
          have HRX := Lib.hid (show R = ((((nameLower s.name, s.kind), ⟨s, rank, sec, last + 1, now + min s.ttl 604800⟩) : Kv) :: l'.map CE.kv, last + 1, true, 0) by
            rw [HRR.out, if_neg (by rw [hst]; simp), putM, HF.out, putE, putL, hsm]
            simp only [List.length_map]
            rw [if_neg hroom, hlz, List.map_append, List.map_cons, List.map_nil, List.dropLast_concat])
          have hsp : l.map CE.nd = l'.map CE.nd ++ [z.nd] := by rw [hlz, List.map_append]; rfl
          have hpt := rtab_put_evict tb mb most (l'.map CE.nd) z.nd (nameLower s.name) s.kind (some ⟨eb, 0, none⟩) W8.drew (by rw [← hsp]; exact HR8.out) HKO.out (by rw [← hsp]; exact hx) (by rw [← hsp, List.length_map]; exact ⟨by omega, by omega⟩)
          rw [← hsp] at hpt
          unfold keyV at hpt
          refine hpt.mono ?_
          rintro e W9 ⟨⟨v9, rfl⟩, nb, hnb, t9, b9⟩
          have HBK : InTab tb mb (l.map CE.nd) nb ∨ W8.drew.heap.size ≤ nb := .inr hnb
          have hsub : ∀ x ∈ l', x ∈ l := fun x hx => by rw [hlz]; simp [hx]
          have HSUB := Lib.hid hsub
          clear hpt hx hsm hst hroom hnb hlen hsp hsub hlz
          have HP := Lib.hid (put_behind (W8 := W8.drew) (l0 := l') (y := ⟨nameLower s.name, s.kind, ⟨s, rank, sec, (last + 1), now + min s.ttl 604800⟩, nb, eb, .slice A5 s.data.length e5, .slice B5 s.sigs.length d5⟩) HC.out HSUB.out H8.out.1 H8.out.2.1 H8.out.2.2.2.1.drew H8.out.2.2.2.2.1 H8.out.2.2.2.2.2.1 H8.out.2.2.2.2.2.2 ⟨HG.out.1, HGD.out.1, HGD.out.2⟩ t9 b9 HBK)
          clear b9 t9 HBK
          simp only []
          go_wp2_with fail
          go_ret2
          rw [HRX.out]
          exact ⟨rfl, _, HP.out⟩
    | some e =>
      obtain ⟨l1, x, l2, rfl, hxn, hxk, hxe, hE⟩ := find_split hf
      have HF := Lib.hid hf; have HE := Lib.hid hE; have HXE := Lib.hid hxe; have HXN := Lib.hid (And.intro hxn hxk)
      have LOOKS := fun W (hW : Below w.heap.size w W) => rtab_look_in tb mb most ((l1 ++ x :: l2).map CE.nd) ((l1 ++ x :: l2).map CE.nd) x.nd (.pointer (some ⟨x.eb, 0, none⟩)) W (HC.out.below hW).tab.body (List.mem_map.2 ⟨x, mid_mem, rfl⟩) rfl (HC.out.tab.keys _ (List.mem_map.2 ⟨x, mid_mem, rfl⟩))
      rw [show x.nd.name = nameLower s.name from hxn, show x.nd.kind = s.kind from hxk] at LOOKS
      have HNB := Lib.hid (show (0 ≤ now ∧ now < 4294967296) ∧ 0 ≤ s.ttl from by
        have h1 := HG.out.2.2.2.2.2.2
        have h2 := HG.out.1
        simp only [isTimeR, rightS, btw, Bool.and_eq_true, decide_eq_true_eq] at h1 h2
        exact ⟨h1, h2.1.1.1.1.1.1.1.2.1⟩)
      have HGD := Lib.hid (show 0 ≤ now + min s.ttl 604800 ∧ now + min s.ttl 604800 ≤ 5000000000 from by have := HNB.out; omega)
      have hfp : putStay ((l1 ++ x :: l2).map CE.kv) s rank now = (decide (min s.ttl 604800 = 0) || (decide (now < x.ent.til) && decide (rank < x.ent.rank))) := by rw [putStay, findPut, hf, ← hxe]; rfl
      have HFP := Lib.hid hfp
      clear hf hE hxe hxn hxk hfp
      have hT2 : CkSt wc.drew c kb tb last (nameLower s.name) s.kind wc.drew := ⟨HC.out.cells.below HBC.out.drew HC.out.cells.lt, HK.out.2.1, Below.refl _ _⟩
      have HLK := Lib.hid (show ∀ W, Below wc.drew.heap.size wc.drew W → Calls Tryz.prog 18 #[.pointer (some ⟨tb, 0, none⟩), keyV (nameLower s.name) s.kind] W fun e w' => e = .returned (.tuple #[.pointer (some ⟨x.eb, 0, none⟩), .bool true]) ∧ Below W.heap.size W w' from fun W hW => LOOKS W (HBC.out.drew.trans (hW.mono HBC.out.drew.size)))
      unfold keyV at HLK
      clear LOOKS
      go_wp2_with fail
      obtain ⟨x0, x1, x2, x3, _⟩ := hT2.s
      go_region_held3 (fun W => W.cell? ⟨c, 0, none⟩ = some (.pointer (some ⟨tb, 0, none⟩)) ∧ W.cell? ⟨c, 1, none⟩ = some (.int .i64 last) ∧ W.cell? ⟨kb, 0, none⟩ = some (.string (nameLower s.name)) ∧ W.cell? ⟨kb, 1, none⟩ = some (.int .i64 s.kind) ∧ CkSt wc.drew c kb tb last (nameLower s.name) s.kind W)
        (first | exact CkSt.keep (by assumption) (by assumption) | exact CkSt.s (by assumption) | go_keep)
        (first
          | (go_at_call 18; ((with_reducible refine (HLK.out _ hT2.below).mono ?_); rintro e W4 ⟨rfl, hb4⟩; have t4 := hT2.next hb4)))
      have HB4 := Lib.hid (HBC.out.drew.trans (t4.below.mono HBC.out.drew.size))
      have HS4 := Lib.hid (HK.out.2.2.s.drew.below t4.below HK.out.2.2.s.drew.lt)
      have HT4 := Lib.hid t4
      have lc4 := t4.cc.lt
      have ls4 := HS4.out.lt
      clear x0 x1 x2 x3 hT2 hb4 t4 HLK k3
      have hx4 := (HC.out.below HB4.out).ents x mid_mem
      have e6 : W4.cell? ⟨x.eb, 6, none⟩ = some (.int .i64 x.ent.rank) := hx4.cells.cell 6
      have e9 : W4.cell? ⟨x.eb, 9, none⟩ = some (.int .i64 x.ent.til) := hx4.cells.cell 9
      have ltx := hx4.cells.lt
      clear hx4
      by_cases z : min s.ttl 604800 = 0
      · have q6 : (min s.ttl 604800 == 0) = true := by rw [z]; rfl
        have hR : R = ((l1 ++ x :: l2).map CE.kv, last, false, 0) := by rw [HRR.out, if_pos]; rw [HFP.out, decide_eq_true z]; rfl
        have HR := Lib.hid hR
        clear z hR
        go_wp2_with fail
        go_ret2
        rw [HR.out]
        exact ⟨rfl, O, ⟨tb, mb, _, rfl, HC.out.below HB4.out⟩, fun b hb => .inl hb, Bes.of_below HB4.out⟩
      have q6 : (min s.ttl 604800 == 0) = false := by rw [beq_eq_false_iff_ne]; exact z
      by_cases z2 : now < x.ent.til ∧ rank < x.ent.rank
      · have q7 : decide (now < x.ent.til) = true := decide_eq_true z2.1
        have q8 : decide (rank < x.ent.rank) = true := decide_eq_true z2.2
        have hR : R = ((l1 ++ x :: l2).map CE.kv, last, false, 0) := by rw [HRR.out, if_pos]; rw [HFP.out, q7, q8]; simp
        have HR := Lib.hid hR
        clear z z2 hR
        go_wp2_with fail
        go_ret2
        rw [HR.out]
        exact ⟨rfl, O, ⟨tb, mb, _, rfl, HC.out.below HB4.out⟩, fun b hb => .inl hb, Bes.of_below HB4.out⟩
      have hst : putStay ((l1 ++ x :: l2).map CE.kv) s rank now = false := by
        rw [HFP.out, decide_eq_false z, Bool.false_or, Bool.and_eq_false_iff, decide_eq_false_iff_not, decide_eq_false_iff_not]
        by_cases h : now < x.ent.til
        · exact .inr fun h2 => z2 ⟨h, h2⟩
        · exact .inl h
      have HST := Lib.hid hst
      have HZ2 := Lib.hid z2
      clear z z2 hst
      have q7 : ∃ b7, decide (now < x.ent.til) = b7 := ⟨_, rfl⟩
      obtain ⟨b7, q7⟩ := q7
      have q8 : b7 = true → decide (rank < x.ent.rank) = false := fun h => decide_eq_false fun h2 => HZ2.out ⟨of_decide_eq_true (q7.trans h), h2⟩
      cases b7
      all_goals
        first
          | (have q9 := q8 rfl)
          | skip
        clear q8
        have HKB0 := Lib.hid (show kb < W4.heap.size from HT4.out.kk.lt)
        have htw := twin_any s (.slice A s.data.length c1) (.slice B s.sigs.length c2) W4 (HD.out.1.below HB4.out) (HD.out.2.below HB4.out) (by have := rightS_len HG.out.1; omega) (by have := rightS_len HG.out.1; omega)
        simp only [SetD.v, SetD.cells] at htw
        have HTW := Lib.hid htw
        clear htw
        have k0 := HS4.out.cell 0; have k1 := HS4.out.cell 1; have k2 := HS4.out.cell 2; have k3 := HS4.out.cell 3; have k4 := HS4.out.cell 4; have k5 := HS4.out.cell 5
        have r1 : IntKind.i64.wrap (now + min s.ttl 604800) = now + min s.ttl 604800 := IntWalk.i64_in _ (by have := HNB.out; omega)
        go_wp2_with (go_at_call 19; refine (Hid.out (p := _) ?_))
        refine Lib.hid ?_
        refine HTW.out.mono ?_
        rintro e W5 ⟨A5, e5, B5, d5, rfl, hA5, hB5, hb5⟩
        have HTW5 := Lib.hid (And.intro hA5 (And.intro hB5 hb5))
        have HS5 := Lib.hid (HS4.out.below hb5 ls4)
        have HT5 := Lib.hid (HT4.out.next hb5)
        clear k0 k1 k2 k3 k4 k5 hA5 hB5 hb5 HTW ls4 lc4
        simp only [SetD.v, SetD.cells]
        go_upto_region 9 with (fail)
        have heb := Blk.new W5 #[.string s.name, .int .i64 s.kind, .int .i64 s.cls, .int .i64 s.ttl, .slice A5 s.data.length e5, .slice B5 s.sigs.length d5, .int .i64 rank, .int .i64 sec, .int .i64 0, .int .i64 (now + min s.ttl 604800)] 37
        have h6 := (Below.refl W5.heap.size W5).alloc (Nat.le_refl _) (.cells #[.string s.name, .int .i64 s.kind, .int .i64 s.cls, .int .i64 s.ttl, .slice A5 s.data.length e5, .slice B5 s.sigs.length d5, .int .i64 rank, .int .i64 sec, .int .i64 0, .int .i64 (now + min s.ttl 604800)] 37)
        generalize hebn : W5.heap.size = eb at heb h6 ⊢
        generalize (W5.alloc (.cells #[.string s.name, .int .i64 s.kind, .int .i64 s.cls, .int .i64 s.ttl, .slice A5 s.data.length e5, .slice B5 s.sigs.length d5, .int .i64 rank, .int .i64 sec, .int .i64 0, .int .i64 (now + min s.ttl 604800)] 37)) = W6 at heb h6 ⊢
        have HEB := Lib.hid (And.intro heb (And.intro h6 hebn))
        have HS6 := Lib.hid (HS5.out.below (h6.mono (by omega)) HS5.out.lt)
        have HT6 := Lib.hid (HT5.out.next (h6.mono (by omega)))
        clear heb h6 hebn HS5 HT5 r1
        have HKB := Lib.hid (show kb < W5.heap.size by have := HKB0.out; have := HTW5.out.2.2.size; omega)
        have hle4 := HB4.out.size
        have hle5 := HTW5.out.2.2.size
        have HB6 := Lib.hid ((HB4.out.trans (HTW5.out.2.2.mono HB4.out.size)).trans (HEB.out.2.1.mono (by have := HEB.out.2.2; omega) : Below w.heap.size W5 W6))
        have hx6 := (HC.out.below HB6.out).ents x mid_mem
        obtain ⟨DA, dc, hdv, _⟩ := id hx6.data
        obtain ⟨SA, sc, hsv, _⟩ := id hx6.sigs
        have hb6 := hx6.cells
        have hd6 := hx6.data.at
        have hs6 := hx6.sigs.at
        rw [Ent.cells, hdv, hsv] at hb6
        rw [hdv] at hd6
        rw [hsv] at hs6
        have HX6 := Lib.hid (And.intro hb6 (And.intro hd6 hs6))
        have HQ0 := Lib.hid (show EqSt W6 x.eb w.heap.size #[.string x.ent.set.name, .int .i64 x.ent.set.kind, .int .i64 x.ent.set.cls, .int .i64 x.ent.set.ttl, .slice DA x.ent.set.data.length dc, .slice SA x.ent.set.sigs.length sc, .int .i64 x.ent.rank, .int .i64 x.ent.sec, .int .i64 x.ent.ver, .int .i64 x.ent.til] #[.string s.name, .int .i64 s.kind, .int .i64 s.cls, .int .i64 s.ttl, .slice A s.data.length c1, .slice B s.sigs.length c2] W6.drew from ⟨hb6, HS6.out, (Below.refl _ _).drew⟩)
        clear hx6 hdv hsv hb6 hd6 hs6 e6 e9 ltx hle4 hle5
        obtain ⟨sb, hsb⟩ : ∃ sb, sameS x.ent.set s = sb := ⟨_, rfl⟩
        have HSB := Lib.hid hsb
        cases sb
        · have HSP := Lib.hid (show samePut ((l1 ++ x :: l2).map CE.kv) (nameLower s.name) s.kind s = none by
            rw [samePut, HF.out]; simp only []; rw [show e.2.set = x.ent.set by rw [← HXE.out]; rfl, hsb]; rfl)
          clear hsb
          have HSM := Lib.hid (fun W (hW : Below W6.heap.size W6 W) => same_any x.ent.set s (.slice DA x.ent.set.data.length dc) (.slice SA x.ent.set.sigs.length sc) (.slice A s.data.length c1) (.slice B s.sigs.length c2) W (HX6.out.2.1.below hW) (HX6.out.2.2.below hW) ((HD.out.1.below HB6.out).below hW) ((HD.out.2.below HB6.out).below hW))
          rw [HSB.out] at HSM
          simp only [SetD.v, SetD.cells] at HSM
          refine wp_region_quiet (C := EqSt W6 x.eb w.heap.size #[.string x.ent.set.name, .int .i64 x.ent.set.kind, .int .i64 x.ent.set.cls, .int .i64 x.ent.set.ttl, .slice DA x.ent.set.data.length dc, .slice SA x.ent.set.sigs.length sc, .int .i64 x.ent.rank, .int .i64 x.ent.sec, .int .i64 x.ent.ver, .int .i64 x.ent.til] #[.string s.name, .int .i64 s.kind, .int .i64 s.cls, .int .i64 s.ttl, .slice A s.data.length c1, .slice B s.sigs.length c2]) hmix (by kernel_rfl) HQ0.out ?_
          simp only []
          go_big_quiet_want
          refine qs_run (.bool true) (fun W hW => ?run) ?_
          case run => simp [go_sem, Act.eval]
          simp (maxSteps := 1000000) only [Act.put, List.setIfInBounds_toArray, List.set_cons_succ, List.set_cons_zero]
          go_big_quiet_on
          go_big_quiet_want
          refine qs_run (.bool true) (fun W hW => ?run) ?_
          case run => simp [go_sem, Act.eval]
          simp (maxSteps := 1000000) only [Act.put, List.setIfInBounds_toArray, List.set_cons_succ, List.set_cons_zero]
          go_big_quiet_on
          go_big_quiet_want
          refine qs_run (.pointer (some ⟨x.eb, 0, none⟩)) (fun W hW => ?run) ?_
          case run => simp [go_sem, Act.eval]
          simp (maxSteps := 1000000) only [Act.put, List.setIfInBounds_toArray, List.set_cons_succ, List.set_cons_zero]
          go_big_quiet_on
          go_big_quiet_want
          refine qs_run (.pointer (some ⟨x.eb, 0, none⟩)) (fun W hW => ?run) ?_
          case run => simp [go_sem, Act.eval]
          simp (maxSteps := 1000000) only [Act.put, List.setIfInBounds_toArray, List.set_cons_succ, List.set_cons_zero]
          go_big_quiet_on
          go_big_quiet_want
          refine qs_run (.pointer (some ⟨x.eb, 0, none⟩)) (fun W hW => ?run) ?_
          case run => simp [go_sem, Act.eval]
          simp (maxSteps := 1000000) only [Act.put, List.setIfInBounds_toArray, List.set_cons_succ, List.set_cons_zero]
          go_big_quiet_on
          go_big_quiet_want
          refine qs_load _ _ rfl ⟨x.eb, 0, none⟩ _ rfl (fun W hW => set_load_at hW.a) ?_
          simp (maxSteps := 1000000) only [Act.put, List.setIfInBounds_toArray, List.set_cons_succ, List.set_cons_zero]
          go_big_quiet_on
          go_big_quiet_want
          refine qs_load _ _ rfl ⟨w.heap.size, 0, none⟩ _ rfl (fun W hW => set_load hW.b) ?_
          simp (maxSteps := 1000000) only [Act.put, List.setIfInBounds_toArray, List.set_cons_succ, List.set_cons_zero]
          go_big_quiet_on
          go_big_quiet_want
          refine qs_call 11 _ _ (fun W hW => ?run) (fun W hW => (HSM.out W hW.below).mono fun e w' h => ⟨h.1, hW.next h.2⟩) ?_
          case run => simp [go_sem, Act.eval]
          simp (maxSteps := 1000000) only [Act.put, List.setIfInBounds_toArray, List.set_cons_succ, List.set_cons_zero]
          go_big_quiet_on
          go_big_quiet_want
          refine qs_run (.bool false) (fun W hW => ?run) ?_
          case run => simp [go_sem, Act.eval]
          simp (maxSteps := 1000000) only [Act.put, List.setIfInBounds_toArray, List.set_cons_succ, List.set_cons_zero]
          go_big_quiet_on
          go_big_quiet_want
          refine qs_run (.bool false) (fun W hW => ?run) ?_
          case run => simp [go_sem, Act.eval]
          simp (maxSteps := 1000000) only [Act.put, List.setIfInBounds_toArray, List.set_cons_succ, List.set_cons_zero]
          go_big_quiet_on
          iterate 8 go_big_quiet_skip
          go_big_quiet_want
          refine qs_run (.bool false) (fun W hW => ?run) ?_
          case run => simp [go_sem, Act.eval]
          simp (maxSteps := 1000000) only [Act.put, List.setIfInBounds_toArray, List.set_cons_succ, List.set_cons_zero]
          go_big_quiet_on
          refine wpQuiet_nil ?_
          intro W7 hW7
          have HBE : Below W6.heap.size W6 W7 := hW7.below
          have HXW := Lib.hid hW7.a
          clear hW7 HQ0 HSM
          have hcn : ∀ b, b = c → b < w.heap.size := fun b e => by rw [e]; exact HC.out.cells.lt
          have hwe : w.heap.size ≤ W5.heap.size := by have h1 := HB4.out.size; have h2 := HTW5.out.2.2.size; omega
          have hebn : W5.heap.size = eb := HEB.out.2.2
          have H7 := Lib.hid (show Blk W7 eb #[.string s.name, .int .i64 s.kind, .int .i64 s.cls, .int .i64 s.ttl, .slice A5 s.data.length e5, .slice B5 s.sigs.length d5, .int .i64 rank, .int .i64 sec, .int .i64 0, .int .i64 (now + min s.ttl 604800)] 37 ∧ CkSt wc.drew c kb tb last (nameLower s.name) s.kind W7 ∧ Bes (fun b => b = c) w W7 ∧ StrsN (fun g => w.heap.size ≤ g ∧ g ≠ eb) (.slice A5 s.data.length e5) s.data W7 ∧ StrsN (fun g => w.heap.size ≤ g ∧ g ≠ eb) (.slice B5 s.sigs.length d5) s.sigs W7 ∧ w.heap.size ≤ eb ∧ kb < eb from by
            have hbe : Below W6.heap.size W6 W7 := HBE
            have hle := HB4.out.size
            refine ⟨HEB.out.1.below hbe HEB.out.1.lt, HT6.out.next hbe, Bes.of_below ((HB4.out.trans (HTW5.out.2.2.mono HB4.out.size)).trans (((HEB.out.2.1.mono (by omega) : Below w.heap.size W5 W6)).trans (hbe.mono (by have := HEB.out.2.1.size; omega)))), ?_, ?_, by omega, by rw [← hebn]; exact HKB.out⟩
            · exact (((HTW5.out.1.mono (T := fun g => w.heap.size ≤ g ∧ g ≠ eb) fun g hg h => ⟨by have h' : W4.heap.size ≤ g := h; omega, by omega⟩).below (by rw [hebn]; rw [hebn] at *; exact HEB.out.2.1)).below hbe)
            · exact (((HTW5.out.2.1.mono (T := fun g => w.heap.size ≤ g ∧ g ≠ eb) fun g hg h => ⟨by have h' : W4.heap.size ≤ g := h; omega, by omega⟩).below (by rw [hebn]; rw [hebn] at *; exact HEB.out.2.1)).below hbe))
          have HCN := Lib.hid hcn
          clear hcn hwe hebn HTW5 HEB HT6 HS6
          have n0 := H7.out.2.1.cc.cell 0
          have n1 : W7.cell? ⟨c, 1, none⟩ = some (.int .i64 last) := H7.out.2.1.cc.cell 1
          have nf := fun j => H7.out.2.1.cc.free j
          have nl := H7.out.2.1.cc.lt
          have hce : c ≠ eb := by have := HCN.out c rfl; have := H7.out.2.2.2.2.2.1; omega
          have n8 : (W7.setCell ⟨c, 1, none⟩ (.int .i64 (last + 1))).cell? ⟨eb, 8, none⟩ = some (.int .i64 0) := by rw [sc_other (ne_blk hce)]; exact H7.out.1.cell 8
          have n9 : (W7.setCell ⟨c, 1, none⟩ (.int .i64 (last + 1))).cell? ⟨c, 1, none⟩ = some (.int .i64 (last + 1)) := sc_same n1
          have mf := fun j => H7.out.1.free j
          have ml := H7.out.1.lt
          have r2 : IntKind.i64.wrap (last + 1) = last + 1 := IntWalk.i64_in _ (by have := HLA.out; omega)
          go_upto_region 13 with (fail)
          have H8 := Lib.hid (show Blk ((W7.setCell ⟨c, 1, none⟩ (.int .i64 (last + 1))).setCell ⟨eb, 8, none⟩ (.int .i64 (last + 1))) eb #[.string s.name, .int .i64 s.kind, .int .i64 s.cls, .int .i64 s.ttl, .slice A5 s.data.length e5, .slice B5 s.sigs.length d5, .int .i64 rank, .int .i64 sec, .int .i64 (last + 1), .int .i64 (now + min s.ttl 604800)] 37 ∧ Blk ((W7.setCell ⟨c, 1, none⟩ (.int .i64 (last + 1))).setCell ⟨eb, 8, none⟩ (.int .i64 (last + 1))) c #[.pointer (some ⟨tb, 0, none⟩), .int .i64 (last + 1)] 54 ∧ Blk ((W7.setCell ⟨c, 1, none⟩ (.int .i64 (last + 1))).setCell ⟨eb, 8, none⟩ (.int .i64 (last + 1))) kb #[.string (nameLower s.name), .int .i64 s.kind] 51 ∧ Bes (fun b => b = c) w ((W7.setCell ⟨c, 1, none⟩ (.int .i64 (last + 1))).setCell ⟨eb, 8, none⟩ (.int .i64 (last + 1))) ∧ StrsN (fun g => w.heap.size ≤ g ∧ g ≠ eb) (.slice A5 s.data.length e5) s.data ((W7.setCell ⟨c, 1, none⟩ (.int .i64 (last + 1))).setCell ⟨eb, 8, none⟩ (.int .i64 (last + 1))) ∧ StrsN (fun g => w.heap.size ≤ g ∧ g ≠ eb) (.slice B5 s.sigs.length d5) s.sigs ((W7.setCell ⟨c, 1, none⟩ (.int .i64 (last + 1))).setCell ⟨eb, 8, none⟩ (.int .i64 (last + 1))) ∧ w.heap.size ≤ eb from by
            have hcw := HCN.out c rfl
            have hkk := H7.out.2.2.2.2.2.2
            have hkw := HK.out.1
            have hs := ((Bes.refl (fun b => b = c ∨ b = eb) W7).setCell (p := ⟨c, 1, none⟩) (.inl rfl) (.int .i64 (last + 1))).setCell (p := ⟨eb, 8, none⟩) (.inr rfl) (.int .i64 (last + 1))
            refine ⟨by simpa using (H7.out.1.other (p := ⟨c, 1, none⟩) hce.symm (.int .i64 (last + 1))).set 8 (.int .i64 (last + 1)), by simpa using (H7.out.2.1.cc.set 1 (.int .i64 (last + 1))).other (p := ⟨eb, 8, none⟩) hce (.int .i64 (last + 1)), ?_, H7.out.2.2.1.trans hs (fun b h => by rcases h with h | h; exact .inl h; exact .inr (by have := H7.out.2.2.2.2.2.1; omega)), ?_, ?_, H7.out.2.2.2.2.2.1⟩
            · unfold Blk; rw [hs.block _ H7.out.2.1.kk.lt (by omega)]; exact H7.out.2.1.kk
            · exact H7.out.2.2.2.1.keep (fun g hg h => hs.block g hg (by have := h.1; have := h.2; omega)) hs.size
            · exact H7.out.2.2.2.2.1.keep (fun g hg h => hs.block g hg (by have := h.1; have := h.2; omega)) hs.size)
          generalize ((W7.setCell ⟨c, 1, none⟩ (.int .i64 (last + 1))).setCell ⟨eb, 8, none⟩ (.int .i64 (last + 1))) = W8 at H8 ⊢
          clear n0 n1 nf nl n8 n9 mf ml r2 H7
          have p0 : W8.cell? ⟨c, 0, none⟩ = some (.pointer (some ⟨tb, 0, none⟩)) := H8.out.2.1.cell 0
          have pk0 : W8.cell? ⟨kb, 0, none⟩ = some (.string (nameLower s.name)) := H8.out.2.2.1.cell 0
          have pk1 : W8.cell? ⟨kb, 1, none⟩ = some (.int .i64 s.kind) := H8.out.2.2.1.cell 1
          have pl := H8.out.2.1.lt
          have pkl := H8.out.2.2.1.lt
          have HR8 := Lib.hid (show RT tb mb most ((l1 ++ x :: l2).map CE.nd) W8.drew from (HC.out.tab.keep (fun b hi => H8.out.2.2.2.1.block b (HC.out.tab.lt hi) (fun e => HC.out.apart (e ▸ hi))) H8.out.2.2.2.1.size).keep (fun _ _ => rfl) (Nat.le_refl _))
          go_still_tail 6, (by kernel_rfl)
          change wpList _ _ _ _ _ W8.drew
          go_wp2_with (go_at_call 21; refine (Hid.out (p := _) ?_))
          refine Lib.hid ?_
          clear p0 pk0 pk1 pl pkl
          have HRX := Lib.hid (show R = ((((nameLower s.name, s.kind), ⟨s, rank, sec, (last + 1), now + min s.ttl 604800⟩) : Kv) :: (l1 ++ l2).map CE.kv, last + 1, true, 0) by
            rw [HRR.out, if_neg (by rw [HST.out]; simp), putM, HF.out, HE.out, putE, putL, HSP.out])
          have hpt := rtab_put_in tb mb most (l1.map CE.nd) (l2.map CE.nd) x.nd (some ⟨eb, 0, none⟩) W8.drew (by have := HR8.out; rwa [List.map_append, List.map_cons] at this) (by have := HLE.out.2.1; simp only [List.length_map, List.length_append, List.length_cons] at this ⊢; exact this)
          rw [show x.nd.name = nameLower s.name from HXN.out.1, show x.nd.kind = s.kind from HXN.out.2] at hpt
          unfold keyV at hpt
          refine hpt.mono ?_
          rintro e W9 ⟨⟨v9, rfl⟩, t9, b9⟩
          have HBK : InTab tb mb ((l1 ++ x :: l2).map CE.nd) x.blk ∨ W8.drew.heap.size ≤ x.blk := .inl (.inr (.inr ⟨x.nd, List.mem_map.2 ⟨x, mid_mem, rfl⟩, rfl⟩))
          rw [show l1.map CE.nd ++ x.nd :: l2.map CE.nd = (l1 ++ x :: l2).map CE.nd by rw [List.map_append, List.map_cons]] at b9
          rw [← List.map_append] at t9
          have hsub : ∀ y ∈ l1 ++ l2, y ∈ l1 ++ x :: l2 := fun y hy => by rcases List.mem_append.1 hy with h | h <;> simp [h]
          have HSUB := Lib.hid hsub
          clear hpt hsub
          have HP := Lib.hid (put_behind (W8 := W8.drew) (l0 := l1 ++ l2) (y := ⟨nameLower s.name, s.kind, ⟨s, rank, sec, (last + 1), now + min s.ttl 604800⟩, x.blk, eb, .slice A5 s.data.length e5, .slice B5 s.sigs.length d5⟩) HC.out HSUB.out H8.out.1 H8.out.2.1 H8.out.2.2.2.1.drew H8.out.2.2.2.2.1 H8.out.2.2.2.2.2.1 H8.out.2.2.2.2.2.2 ⟨HG.out.1, HGD.out.1, HGD.out.2⟩ t9 b9 HBK)
          clear b9 t9 HBK
          simp only []
          go_wp2_with fail
          go_ret2
          rw [HRX.out]
          exact ⟨rfl, _, HP.out⟩
        · obtain ⟨gb, hgb⟩ : ∃ gb, decide (x.ent.set.sigs = s.sigs) = gb := ⟨_, rfl⟩
          have HGB := Lib.hid hgb
          have HEQ := Lib.hid (fun W (hW : Below W6.heap.size W6 W) => strs_equal (.slice SA x.ent.set.sigs.length sc) (.slice B s.sigs.length c2) x.ent.set.sigs s.sigs W (HX6.out.2.2.below hW) ((HD.out.2.below HB6.out).below hW) (by have := rightS_len (HC.out.ents x mid_mem).good.1; omega) (by have := rightS_len HG.out.1; omega))
          rw [hgb] at HEQ
          cases gb
          · have HSP := Lib.hid (show samePut ((l1 ++ x :: l2).map CE.kv) (nameLower s.name) s.kind s = none by
              rw [samePut, HF.out]; simp only []; rw [show e.2.set = x.ent.set by rw [← HXE.out]; rfl, hsb, hgb]; rfl)
            clear hsb hgb
            have HSM := Lib.hid (fun W (hW : Below W6.heap.size W6 W) => same_any x.ent.set s (.slice DA x.ent.set.data.length dc) (.slice SA x.ent.set.sigs.length sc) (.slice A s.data.length c1) (.slice B s.sigs.length c2) W (HX6.out.2.1.below hW) (HX6.out.2.2.below hW) ((HD.out.1.below HB6.out).below hW) ((HD.out.2.below HB6.out).below hW))
            rw [HSB.out] at HSM
            simp only [SetD.v, SetD.cells] at HSM
            refine wp_region_quiet (C := EqSt W6 x.eb w.heap.size #[.string x.ent.set.name, .int .i64 x.ent.set.kind, .int .i64 x.ent.set.cls, .int .i64 x.ent.set.ttl, .slice DA x.ent.set.data.length dc, .slice SA x.ent.set.sigs.length sc, .int .i64 x.ent.rank, .int .i64 x.ent.sec, .int .i64 x.ent.ver, .int .i64 x.ent.til] #[.string s.name, .int .i64 s.kind, .int .i64 s.cls, .int .i64 s.ttl, .slice A s.data.length c1, .slice B s.sigs.length c2]) hmix (by kernel_rfl) HQ0.out ?_
            simp only []
            go_big_quiet_want
            refine qs_run (.bool true) (fun W hW => ?run) ?_
            case run => simp [go_sem, Act.eval]
            simp (maxSteps := 1000000) only [Act.put, List.setIfInBounds_toArray, List.set_cons_succ, List.set_cons_zero]
            go_big_quiet_on
            go_big_quiet_want
            refine qs_run (.bool true) (fun W hW => ?run) ?_
            case run => simp [go_sem, Act.eval]
            simp (maxSteps := 1000000) only [Act.put, List.setIfInBounds_toArray, List.set_cons_succ, List.set_cons_zero]
            go_big_quiet_on
            go_big_quiet_want
            refine qs_run (.pointer (some ⟨x.eb, 0, none⟩)) (fun W hW => ?run) ?_
            case run => simp [go_sem, Act.eval]
            simp (maxSteps := 1000000) only [Act.put, List.setIfInBounds_toArray, List.set_cons_succ, List.set_cons_zero]
            go_big_quiet_on
            go_big_quiet_want
            refine qs_run (.pointer (some ⟨x.eb, 0, none⟩)) (fun W hW => ?run) ?_
            case run => simp [go_sem, Act.eval]
            simp (maxSteps := 1000000) only [Act.put, List.setIfInBounds_toArray, List.set_cons_succ, List.set_cons_zero]
            go_big_quiet_on
            go_big_quiet_want
            refine qs_run (.pointer (some ⟨x.eb, 0, none⟩)) (fun W hW => ?run) ?_
            case run => simp [go_sem, Act.eval]
            simp (maxSteps := 1000000) only [Act.put, List.setIfInBounds_toArray, List.set_cons_succ, List.set_cons_zero]
            go_big_quiet_on
            go_big_quiet_want
            refine qs_load _ _ rfl ⟨x.eb, 0, none⟩ _ rfl (fun W hW => set_load_at hW.a) ?_
            simp (maxSteps := 1000000) only [Act.put, List.setIfInBounds_toArray, List.set_cons_succ, List.set_cons_zero]
            go_big_quiet_on
            go_big_quiet_want
            refine qs_load _ _ rfl ⟨w.heap.size, 0, none⟩ _ rfl (fun W hW => set_load hW.b) ?_
            simp (maxSteps := 1000000) only [Act.put, List.setIfInBounds_toArray, List.set_cons_succ, List.set_cons_zero]
            go_big_quiet_on
            go_big_quiet_want
            refine qs_call 11 _ _ (fun W hW => ?run) (fun W hW => (HSM.out W hW.below).mono fun e w' h => ⟨h.1, hW.next h.2⟩) ?_
            case run => simp [go_sem, Act.eval]
            simp (maxSteps := 1000000) only [Act.put, List.setIfInBounds_toArray, List.set_cons_succ, List.set_cons_zero]
            go_big_quiet_on
            go_big_quiet_want
            refine qs_run (.bool true) (fun W hW => ?run) ?_
            case run => simp [go_sem, Act.eval]
            simp (maxSteps := 1000000) only [Act.put, List.setIfInBounds_toArray, List.set_cons_succ, List.set_cons_zero]
            go_big_quiet_on
            go_big_quiet_want
            refine qs_run (.bool true) (fun W hW => ?run) ?_
            case run => simp [go_sem, Act.eval]
            simp (maxSteps := 1000000) only [Act.put, List.setIfInBounds_toArray, List.set_cons_succ, List.set_cons_zero]
            go_big_quiet_on
            go_big_quiet_want
            refine qs_run (.pointer (some ⟨x.eb, 0, none⟩)) (fun W hW => ?run) ?_
            case run => simp [go_sem, Act.eval]
            simp (maxSteps := 1000000) only [Act.put, List.setIfInBounds_toArray, List.set_cons_succ, List.set_cons_zero]
            go_big_quiet_on
            go_big_quiet_want
            refine qs_run (.pointer (some ⟨x.eb, 0, none⟩)) (fun W hW => ?run) ?_
            case run => simp [go_sem, Act.eval]
            simp (maxSteps := 1000000) only [Act.put, List.setIfInBounds_toArray, List.set_cons_succ, List.set_cons_zero]
            go_big_quiet_on
            go_big_quiet_want
            refine qs_run (.pointer (some ⟨x.eb, 0, none⟩)) (fun W hW => ?run) ?_
            case run => simp [go_sem, Act.eval]
            simp (maxSteps := 1000000) only [Act.put, List.setIfInBounds_toArray, List.set_cons_succ, List.set_cons_zero]
            go_big_quiet_on
            go_big_quiet_want
            refine qs_run (.pointer (some ⟨x.eb, 5, none⟩)) (fun W hW => ?run) ?_
            case run => simp [go_sem, Act.eval]
            simp (maxSteps := 1000000) only [Act.put, List.setIfInBounds_toArray, List.set_cons_succ, List.set_cons_zero]
            go_big_quiet_on
            go_big_quiet_want
            refine qs_run (.slice SA x.ent.set.sigs.length sc) (fun W hW => ?run) ?_
            case run =>
              have c := hW.a.cell 5
              simp at c
              simp [go_sem, Act.eval, c]
            simp (maxSteps := 1000000) only [Act.put, List.setIfInBounds_toArray, List.set_cons_succ, List.set_cons_zero]
            go_big_quiet_on
            go_big_quiet_want
            refine qs_run (.pointer (some ⟨w.heap.size, 5, none⟩)) (fun W hW => ?run) ?_
            case run => simp [go_sem, Act.eval]
            simp (maxSteps := 1000000) only [Act.put, List.setIfInBounds_toArray, List.set_cons_succ, List.set_cons_zero]
            go_big_quiet_on
            go_big_quiet_want
            refine qs_run (.slice B s.sigs.length c2) (fun W hW => ?run) ?_
            case run =>
              have c := hW.b.cell 5
              simp at c
              simp [go_sem, Act.eval, c]
            simp (maxSteps := 1000000) only [Act.put, List.setIfInBounds_toArray, List.set_cons_succ, List.set_cons_zero]
            go_big_quiet_on
            go_big_quiet_want
            refine qs_call 20 _ _ (fun W hW => ?run) (fun W hW => (HEQ.out W hW.below).mono fun e w' h => ⟨h.1, hW.next h.2⟩) ?_
            case run => simp [go_sem, Act.eval]
            simp (maxSteps := 1000000) only [Act.put, List.setIfInBounds_toArray, List.set_cons_succ, List.set_cons_zero]
            go_big_quiet_on
            go_big_quiet_want
            refine qs_run (.bool false) (fun W hW => ?run) ?_
            case run => simp [go_sem, Act.eval]
            simp (maxSteps := 1000000) only [Act.put, List.setIfInBounds_toArray, List.set_cons_succ, List.set_cons_zero]
            go_big_quiet_on
            refine wpQuiet_nil ?_
            intro W7 hW7
            have HBE : Below W6.heap.size W6 W7 := hW7.below
            have HXW := Lib.hid hW7.a
            clear hW7 HQ0 HSM
            have hcn : ∀ b, b = c → b < w.heap.size := fun b e => by rw [e]; exact HC.out.cells.lt
            have hwe : w.heap.size ≤ W5.heap.size := by have h1 := HB4.out.size; have h2 := HTW5.out.2.2.size; omega
            have hebn : W5.heap.size = eb := HEB.out.2.2
            have H7 := Lib.hid (show Blk W7 eb #[.string s.name, .int .i64 s.kind, .int .i64 s.cls, .int .i64 s.ttl, .slice A5 s.data.length e5, .slice B5 s.sigs.length d5, .int .i64 rank, .int .i64 sec, .int .i64 0, .int .i64 (now + min s.ttl 604800)] 37 ∧ CkSt wc.drew c kb tb last (nameLower s.name) s.kind W7 ∧ Bes (fun b => b = c) w W7 ∧ StrsN (fun g => w.heap.size ≤ g ∧ g ≠ eb) (.slice A5 s.data.length e5) s.data W7 ∧ StrsN (fun g => w.heap.size ≤ g ∧ g ≠ eb) (.slice B5 s.sigs.length d5) s.sigs W7 ∧ w.heap.size ≤ eb ∧ kb < eb from by
              have hbe : Below W6.heap.size W6 W7 := HBE
              have hle := HB4.out.size
              refine ⟨HEB.out.1.below hbe HEB.out.1.lt, HT6.out.next hbe, Bes.of_below ((HB4.out.trans (HTW5.out.2.2.mono HB4.out.size)).trans (((HEB.out.2.1.mono (by omega) : Below w.heap.size W5 W6)).trans (hbe.mono (by have := HEB.out.2.1.size; omega)))), ?_, ?_, by omega, by rw [← hebn]; exact HKB.out⟩
              · exact (((HTW5.out.1.mono (T := fun g => w.heap.size ≤ g ∧ g ≠ eb) fun g hg h => ⟨by have h' : W4.heap.size ≤ g := h; omega, by omega⟩).below (by rw [hebn]; rw [hebn] at *; exact HEB.out.2.1)).below hbe)
              · exact (((HTW5.out.2.1.mono (T := fun g => w.heap.size ≤ g ∧ g ≠ eb) fun g hg h => ⟨by have h' : W4.heap.size ≤ g := h; omega, by omega⟩).below (by rw [hebn]; rw [hebn] at *; exact HEB.out.2.1)).below hbe))
            have HCN := Lib.hid hcn
            clear hcn hwe hebn HTW5 HEB HT6 HS6
            clear HEQ
            have n0 := H7.out.2.1.cc.cell 0
            have n1 : W7.cell? ⟨c, 1, none⟩ = some (.int .i64 last) := H7.out.2.1.cc.cell 1
            have nf := fun j => H7.out.2.1.cc.free j
            have nl := H7.out.2.1.cc.lt
            have hce : c ≠ eb := by have := HCN.out c rfl; have := H7.out.2.2.2.2.2.1; omega
            have n8 : (W7.setCell ⟨c, 1, none⟩ (.int .i64 (last + 1))).cell? ⟨eb, 8, none⟩ = some (.int .i64 0) := by rw [sc_other (ne_blk hce)]; exact H7.out.1.cell 8
            have n9 : (W7.setCell ⟨c, 1, none⟩ (.int .i64 (last + 1))).cell? ⟨c, 1, none⟩ = some (.int .i64 (last + 1)) := sc_same n1
            have mf := fun j => H7.out.1.free j
            have ml := H7.out.1.lt
            have r2 : IntKind.i64.wrap (last + 1) = last + 1 := IntWalk.i64_in _ (by have := HLA.out; omega)
            go_upto_region 13 with (fail)
            have H8 := Lib.hid (show Blk ((W7.setCell ⟨c, 1, none⟩ (.int .i64 (last + 1))).setCell ⟨eb, 8, none⟩ (.int .i64 (last + 1))) eb #[.string s.name, .int .i64 s.kind, .int .i64 s.cls, .int .i64 s.ttl, .slice A5 s.data.length e5, .slice B5 s.sigs.length d5, .int .i64 rank, .int .i64 sec, .int .i64 (last + 1), .int .i64 (now + min s.ttl 604800)] 37 ∧ Blk ((W7.setCell ⟨c, 1, none⟩ (.int .i64 (last + 1))).setCell ⟨eb, 8, none⟩ (.int .i64 (last + 1))) c #[.pointer (some ⟨tb, 0, none⟩), .int .i64 (last + 1)] 54 ∧ Blk ((W7.setCell ⟨c, 1, none⟩ (.int .i64 (last + 1))).setCell ⟨eb, 8, none⟩ (.int .i64 (last + 1))) kb #[.string (nameLower s.name), .int .i64 s.kind] 51 ∧ Bes (fun b => b = c) w ((W7.setCell ⟨c, 1, none⟩ (.int .i64 (last + 1))).setCell ⟨eb, 8, none⟩ (.int .i64 (last + 1))) ∧ StrsN (fun g => w.heap.size ≤ g ∧ g ≠ eb) (.slice A5 s.data.length e5) s.data ((W7.setCell ⟨c, 1, none⟩ (.int .i64 (last + 1))).setCell ⟨eb, 8, none⟩ (.int .i64 (last + 1))) ∧ StrsN (fun g => w.heap.size ≤ g ∧ g ≠ eb) (.slice B5 s.sigs.length d5) s.sigs ((W7.setCell ⟨c, 1, none⟩ (.int .i64 (last + 1))).setCell ⟨eb, 8, none⟩ (.int .i64 (last + 1))) ∧ w.heap.size ≤ eb from by
              have hcw := HCN.out c rfl
              have hkk := H7.out.2.2.2.2.2.2
              have hkw := HK.out.1
              have hs := ((Bes.refl (fun b => b = c ∨ b = eb) W7).setCell (p := ⟨c, 1, none⟩) (.inl rfl) (.int .i64 (last + 1))).setCell (p := ⟨eb, 8, none⟩) (.inr rfl) (.int .i64 (last + 1))
              refine ⟨by simpa using (H7.out.1.other (p := ⟨c, 1, none⟩) hce.symm (.int .i64 (last + 1))).set 8 (.int .i64 (last + 1)), by simpa using (H7.out.2.1.cc.set 1 (.int .i64 (last + 1))).other (p := ⟨eb, 8, none⟩) hce (.int .i64 (last + 1)), ?_, H7.out.2.2.1.trans hs (fun b h => by rcases h with h | h; exact .inl h; exact .inr (by have := H7.out.2.2.2.2.2.1; omega)), ?_, ?_, H7.out.2.2.2.2.2.1⟩
              · unfold Blk; rw [hs.block _ H7.out.2.1.kk.lt (by omega)]; exact H7.out.2.1.kk
              · exact H7.out.2.2.2.1.keep (fun g hg h => hs.block g hg (by have := h.1; have := h.2; omega)) hs.size
              · exact H7.out.2.2.2.2.1.keep (fun g hg h => hs.block g hg (by have := h.1; have := h.2; omega)) hs.size)
            generalize ((W7.setCell ⟨c, 1, none⟩ (.int .i64 (last + 1))).setCell ⟨eb, 8, none⟩ (.int .i64 (last + 1))) = W8 at H8 ⊢
            clear n0 n1 nf nl n8 n9 mf ml r2 H7
            have p0 : W8.cell? ⟨c, 0, none⟩ = some (.pointer (some ⟨tb, 0, none⟩)) := H8.out.2.1.cell 0
            have pk0 : W8.cell? ⟨kb, 0, none⟩ = some (.string (nameLower s.name)) := H8.out.2.2.1.cell 0
            have pk1 : W8.cell? ⟨kb, 1, none⟩ = some (.int .i64 s.kind) := H8.out.2.2.1.cell 1
            have pl := H8.out.2.1.lt
            have pkl := H8.out.2.2.1.lt
            have HR8 := Lib.hid (show RT tb mb most ((l1 ++ x :: l2).map CE.nd) W8.drew from (HC.out.tab.keep (fun b hi => H8.out.2.2.2.1.block b (HC.out.tab.lt hi) (fun e => HC.out.apart (e ▸ hi))) H8.out.2.2.2.1.size).keep (fun _ _ => rfl) (Nat.le_refl _))
            go_still_tail 6, (by kernel_rfl)
            change wpList _ _ _ _ _ W8.drew
            go_wp2_with (go_at_call 21; refine (Hid.out (p := _) ?_))
            refine Lib.hid ?_
            clear p0 pk0 pk1 pl pkl
            have HRX := Lib.hid (show R = ((((nameLower s.name, s.kind), ⟨s, rank, sec, (last + 1), now + min s.ttl 604800⟩) : Kv) :: (l1 ++ l2).map CE.kv, last + 1, true, 0) by
              rw [HRR.out, if_neg (by rw [HST.out]; simp), putM, HF.out, HE.out, putE, putL, HSP.out])
            have hpt := rtab_put_in tb mb most (l1.map CE.nd) (l2.map CE.nd) x.nd (some ⟨eb, 0, none⟩) W8.drew (by have := HR8.out; rwa [List.map_append, List.map_cons] at this) (by have := HLE.out.2.1; simp only [List.length_map, List.length_append, List.length_cons] at this ⊢; exact this)
            rw [show x.nd.name = nameLower s.name from HXN.out.1, show x.nd.kind = s.kind from HXN.out.2] at hpt
            unfold keyV at hpt
            refine hpt.mono ?_
            rintro e W9 ⟨⟨v9, rfl⟩, t9, b9⟩
            have HBK : InTab tb mb ((l1 ++ x :: l2).map CE.nd) x.blk ∨ W8.drew.heap.size ≤ x.blk := .inl (.inr (.inr ⟨x.nd, List.mem_map.2 ⟨x, mid_mem, rfl⟩, rfl⟩))
            rw [show l1.map CE.nd ++ x.nd :: l2.map CE.nd = (l1 ++ x :: l2).map CE.nd by rw [List.map_append, List.map_cons]] at b9
            rw [← List.map_append] at t9
            have hsub : ∀ y ∈ l1 ++ l2, y ∈ l1 ++ x :: l2 := fun y hy => by rcases List.mem_append.1 hy with h | h <;> simp [h]
            have HSUB := Lib.hid hsub
            clear hpt hsub
            have HP := Lib.hid (put_behind (W8 := W8.drew) (l0 := l1 ++ l2) (y := ⟨nameLower s.name, s.kind, ⟨s, rank, sec, (last + 1), now + min s.ttl 604800⟩, x.blk, eb, .slice A5 s.data.length e5, .slice B5 s.sigs.length d5⟩) HC.out HSUB.out H8.out.1 H8.out.2.1 H8.out.2.2.2.1.drew H8.out.2.2.2.2.1 H8.out.2.2.2.2.2.1 H8.out.2.2.2.2.2.2 ⟨HG.out.1, HGD.out.1, HGD.out.2⟩ t9 b9 HBK)
            clear b9 t9 HBK
            simp only []
            go_wp2_with fail
            go_ret2
            rw [HRX.out]
            exact ⟨rfl, _, HP.out⟩
          · have HSP := Lib.hid (show samePut ((l1 ++ x :: l2).map CE.kv) (nameLower s.name) s.kind s = some x.ent by
              rw [samePut, HF.out]; simp only []; rw [show e.2 = x.ent by rw [← HXE.out]; rfl, hsb, hgb]; rfl)
            clear hsb hgb
            have HSM := Lib.hid (fun W (hW : Below W6.heap.size W6 W) => same_any x.ent.set s (.slice DA x.ent.set.data.length dc) (.slice SA x.ent.set.sigs.length sc) (.slice A s.data.length c1) (.slice B s.sigs.length c2) W (HX6.out.2.1.below hW) (HX6.out.2.2.below hW) ((HD.out.1.below HB6.out).below hW) ((HD.out.2.below HB6.out).below hW))
            rw [HSB.out] at HSM
            simp only [SetD.v, SetD.cells] at HSM
            refine wp_region_quiet (C := EqSt W6 x.eb w.heap.size #[.string x.ent.set.name, .int .i64 x.ent.set.kind, .int .i64 x.ent.set.cls, .int .i64 x.ent.set.ttl, .slice DA x.ent.set.data.length dc, .slice SA x.ent.set.sigs.length sc, .int .i64 x.ent.rank, .int .i64 x.ent.sec, .int .i64 x.ent.ver, .int .i64 x.ent.til] #[.string s.name, .int .i64 s.kind, .int .i64 s.cls, .int .i64 s.ttl, .slice A s.data.length c1, .slice B s.sigs.length c2]) hmix (by kernel_rfl) HQ0.out ?_
            simp only []
            go_big_quiet_want
            refine qs_run (.bool true) (fun W hW => ?run) ?_
            case run => simp [go_sem, Act.eval]
            simp (maxSteps := 1000000) only [Act.put, List.setIfInBounds_toArray, List.set_cons_succ, List.set_cons_zero]
            go_big_quiet_on
            go_big_quiet_want
            refine qs_run (.bool true) (fun W hW => ?run) ?_
            case run => simp [go_sem, Act.eval]
            simp (maxSteps := 1000000) only [Act.put, List.setIfInBounds_toArray, List.set_cons_succ, List.set_cons_zero]
            go_big_quiet_on
            go_big_quiet_want
            refine qs_run (.pointer (some ⟨x.eb, 0, none⟩)) (fun W hW => ?run) ?_
            case run => simp [go_sem, Act.eval]
            simp (maxSteps := 1000000) only [Act.put, List.setIfInBounds_toArray, List.set_cons_succ, List.set_cons_zero]
            go_big_quiet_on
            go_big_quiet_want
            refine qs_run (.pointer (some ⟨x.eb, 0, none⟩)) (fun W hW => ?run) ?_
            case run => simp [go_sem, Act.eval]
            simp (maxSteps := 1000000) only [Act.put, List.setIfInBounds_toArray, List.set_cons_succ, List.set_cons_zero]
            go_big_quiet_on
            go_big_quiet_want
            refine qs_run (.pointer (some ⟨x.eb, 0, none⟩)) (fun W hW => ?run) ?_
            case run => simp [go_sem, Act.eval]
            simp (maxSteps := 1000000) only [Act.put, List.setIfInBounds_toArray, List.set_cons_succ, List.set_cons_zero]
            go_big_quiet_on
            go_big_quiet_want
            refine qs_load _ _ rfl ⟨x.eb, 0, none⟩ _ rfl (fun W hW => set_load_at hW.a) ?_
            simp (maxSteps := 1000000) only [Act.put, List.setIfInBounds_toArray, List.set_cons_succ, List.set_cons_zero]
            go_big_quiet_on
            go_big_quiet_want
            refine qs_load _ _ rfl ⟨w.heap.size, 0, none⟩ _ rfl (fun W hW => set_load hW.b) ?_
            simp (maxSteps := 1000000) only [Act.put, List.setIfInBounds_toArray, List.set_cons_succ, List.set_cons_zero]
            go_big_quiet_on
            go_big_quiet_want
            refine qs_call 11 _ _ (fun W hW => ?run) (fun W hW => (HSM.out W hW.below).mono fun e w' h => ⟨h.1, hW.next h.2⟩) ?_
            case run => simp [go_sem, Act.eval]
            simp (maxSteps := 1000000) only [Act.put, List.setIfInBounds_toArray, List.set_cons_succ, List.set_cons_zero]
            go_big_quiet_on
            go_big_quiet_want
            refine qs_run (.bool true) (fun W hW => ?run) ?_
            case run => simp [go_sem, Act.eval]
            simp (maxSteps := 1000000) only [Act.put, List.setIfInBounds_toArray, List.set_cons_succ, List.set_cons_zero]
            go_big_quiet_on
            go_big_quiet_want
            refine qs_run (.bool true) (fun W hW => ?run) ?_
            case run => simp [go_sem, Act.eval]
            simp (maxSteps := 1000000) only [Act.put, List.setIfInBounds_toArray, List.set_cons_succ, List.set_cons_zero]
            go_big_quiet_on
            go_big_quiet_want
            refine qs_run (.pointer (some ⟨x.eb, 0, none⟩)) (fun W hW => ?run) ?_
            case run => simp [go_sem, Act.eval]
            simp (maxSteps := 1000000) only [Act.put, List.setIfInBounds_toArray, List.set_cons_succ, List.set_cons_zero]
            go_big_quiet_on
            go_big_quiet_want
            refine qs_run (.pointer (some ⟨x.eb, 0, none⟩)) (fun W hW => ?run) ?_
            case run => simp [go_sem, Act.eval]
            simp (maxSteps := 1000000) only [Act.put, List.setIfInBounds_toArray, List.set_cons_succ, List.set_cons_zero]
            go_big_quiet_on
            go_big_quiet_want
            refine qs_run (.pointer (some ⟨x.eb, 0, none⟩)) (fun W hW => ?run) ?_
            case run => simp [go_sem, Act.eval]
            simp (maxSteps := 1000000) only [Act.put, List.setIfInBounds_toArray, List.set_cons_succ, List.set_cons_zero]
            go_big_quiet_on
            go_big_quiet_want
            refine qs_run (.pointer (some ⟨x.eb, 5, none⟩)) (fun W hW => ?run) ?_
            case run => simp [go_sem, Act.eval]
            simp (maxSteps := 1000000) only [Act.put, List.setIfInBounds_toArray, List.set_cons_succ, List.set_cons_zero]
            go_big_quiet_on
            go_big_quiet_want
            refine qs_run (.slice SA x.ent.set.sigs.length sc) (fun W hW => ?run) ?_
            case run =>
              have c := hW.a.cell 5
              simp at c
              simp [go_sem, Act.eval, c]
            simp (maxSteps := 1000000) only [Act.put, List.setIfInBounds_toArray, List.set_cons_succ, List.set_cons_zero]
            go_big_quiet_on
            go_big_quiet_want
            refine qs_run (.pointer (some ⟨w.heap.size, 5, none⟩)) (fun W hW => ?run) ?_
            case run => simp [go_sem, Act.eval]
            simp (maxSteps := 1000000) only [Act.put, List.setIfInBounds_toArray, List.set_cons_succ, List.set_cons_zero]
            go_big_quiet_on
            go_big_quiet_want
            refine qs_run (.slice B s.sigs.length c2) (fun W hW => ?run) ?_
            case run =>
              have c := hW.b.cell 5
              simp at c
              simp [go_sem, Act.eval, c]
            simp (maxSteps := 1000000) only [Act.put, List.setIfInBounds_toArray, List.set_cons_succ, List.set_cons_zero]
            go_big_quiet_on
            go_big_quiet_want
            refine qs_call 20 _ _ (fun W hW => ?run) (fun W hW => (HEQ.out W hW.below).mono fun e w' h => ⟨h.1, hW.next h.2⟩) ?_
            case run => simp [go_sem, Act.eval]
            simp (maxSteps := 1000000) only [Act.put, List.setIfInBounds_toArray, List.set_cons_succ, List.set_cons_zero]
            go_big_quiet_on
            go_big_quiet_want
            refine qs_run (.bool true) (fun W hW => ?run) ?_
            case run => simp [go_sem, Act.eval]
            simp (maxSteps := 1000000) only [Act.put, List.setIfInBounds_toArray, List.set_cons_succ, List.set_cons_zero]
            go_big_quiet_on
            refine wpQuiet_nil ?_
            intro W7 hW7
            have HBE : Below W6.heap.size W6 W7 := hW7.below
            have HXW := Lib.hid hW7.a
            clear hW7 HQ0 HSM
            have hcn : ∀ b, b = c → b < w.heap.size := fun b e => by rw [e]; exact HC.out.cells.lt
            have hwe : w.heap.size ≤ W5.heap.size := by have h1 := HB4.out.size; have h2 := HTW5.out.2.2.size; omega
            have hebn : W5.heap.size = eb := HEB.out.2.2
            have H7 := Lib.hid (show Blk W7 eb #[.string s.name, .int .i64 s.kind, .int .i64 s.cls, .int .i64 s.ttl, .slice A5 s.data.length e5, .slice B5 s.sigs.length d5, .int .i64 rank, .int .i64 sec, .int .i64 0, .int .i64 (now + min s.ttl 604800)] 37 ∧ CkSt wc.drew c kb tb last (nameLower s.name) s.kind W7 ∧ Bes (fun b => b = c) w W7 ∧ StrsN (fun g => w.heap.size ≤ g ∧ g ≠ eb) (.slice A5 s.data.length e5) s.data W7 ∧ StrsN (fun g => w.heap.size ≤ g ∧ g ≠ eb) (.slice B5 s.sigs.length d5) s.sigs W7 ∧ w.heap.size ≤ eb ∧ kb < eb from by
              have hbe : Below W6.heap.size W6 W7 := HBE
              have hle := HB4.out.size
              refine ⟨HEB.out.1.below hbe HEB.out.1.lt, HT6.out.next hbe, Bes.of_below ((HB4.out.trans (HTW5.out.2.2.mono HB4.out.size)).trans (((HEB.out.2.1.mono (by omega) : Below w.heap.size W5 W6)).trans (hbe.mono (by have := HEB.out.2.1.size; omega)))), ?_, ?_, by omega, by rw [← hebn]; exact HKB.out⟩
              · exact (((HTW5.out.1.mono (T := fun g => w.heap.size ≤ g ∧ g ≠ eb) fun g hg h => ⟨by have h' : W4.heap.size ≤ g := h; omega, by omega⟩).below (by rw [hebn]; rw [hebn] at *; exact HEB.out.2.1)).below hbe)
              · exact (((HTW5.out.2.1.mono (T := fun g => w.heap.size ≤ g ∧ g ≠ eb) fun g hg h => ⟨by have h' : W4.heap.size ≤ g := h; omega, by omega⟩).below (by rw [hebn]; rw [hebn] at *; exact HEB.out.2.1)).below hbe))
            have HCN := Lib.hid hcn
            clear hcn hwe hebn HTW5 HEB HT6 HS6
            clear HEQ
            have n8 : W7.cell? ⟨eb, 8, none⟩ = some (.int .i64 0) := H7.out.1.cell 8
            have n9 : W7.cell? ⟨x.eb, 8, none⟩ = some (.int .i64 x.ent.ver) := HXW.out.cell 8
            have mf := fun j => H7.out.1.free j
            have ml := H7.out.1.lt
            have nl := HXW.out.lt
            go_upto_region 13 with (fail)
            have H8 := Lib.hid (show Blk (W7.setCell ⟨eb, 8, none⟩ (.int .i64 x.ent.ver)) eb #[.string s.name, .int .i64 s.kind, .int .i64 s.cls, .int .i64 s.ttl, .slice A5 s.data.length e5, .slice B5 s.sigs.length d5, .int .i64 rank, .int .i64 sec, .int .i64 x.ent.ver, .int .i64 (now + min s.ttl 604800)] 37 ∧ Blk (W7.setCell ⟨eb, 8, none⟩ (.int .i64 x.ent.ver)) c #[.pointer (some ⟨tb, 0, none⟩), .int .i64 last] 54 ∧ Blk (W7.setCell ⟨eb, 8, none⟩ (.int .i64 x.ent.ver)) kb #[.string (nameLower s.name), .int .i64 s.kind] 51 ∧ Bes (fun b => b = c) w (W7.setCell ⟨eb, 8, none⟩ (.int .i64 x.ent.ver)) ∧ StrsN (fun g => w.heap.size ≤ g ∧ g ≠ eb) (.slice A5 s.data.length e5) s.data (W7.setCell ⟨eb, 8, none⟩ (.int .i64 x.ent.ver)) ∧ StrsN (fun g => w.heap.size ≤ g ∧ g ≠ eb) (.slice B5 s.sigs.length d5) s.sigs (W7.setCell ⟨eb, 8, none⟩ (.int .i64 x.ent.ver)) ∧ w.heap.size ≤ eb from by
              have hcw := HCN.out c rfl
              have hkk := H7.out.2.2.2.2.2.2
              have hle := H7.out.2.2.2.2.2.1
              have hs := (Bes.refl (fun b => b = eb) W7).setCell (p := ⟨eb, 8, none⟩) rfl (.int .i64 x.ent.ver)
              refine ⟨by simpa using H7.out.1.set 8 (.int .i64 x.ent.ver), H7.out.2.1.cc.other (p := ⟨eb, 8, none⟩) (by show c ≠ eb; omega) (.int .i64 x.ent.ver), ?_, H7.out.2.2.1.trans hs (fun b h => .inr (by omega)), ?_, ?_, hle⟩
              · unfold Blk; rw [hs.block _ H7.out.2.1.kk.lt (by omega)]; exact H7.out.2.1.kk
              · exact H7.out.2.2.2.1.keep (fun g hg h => hs.block g hg (by have := h.2; omega)) hs.size
              · exact H7.out.2.2.2.2.1.keep (fun g hg h => hs.block g hg (by have := h.2; omega)) hs.size)
            generalize (W7.setCell ⟨eb, 8, none⟩ (.int .i64 x.ent.ver)) = W8 at H8 ⊢
            clear n8 n9 mf ml nl H7
            have p0 : W8.cell? ⟨c, 0, none⟩ = some (.pointer (some ⟨tb, 0, none⟩)) := H8.out.2.1.cell 0
            have pk0 : W8.cell? ⟨kb, 0, none⟩ = some (.string (nameLower s.name)) := H8.out.2.2.1.cell 0
            have pk1 : W8.cell? ⟨kb, 1, none⟩ = some (.int .i64 s.kind) := H8.out.2.2.1.cell 1
            have pl := H8.out.2.1.lt
            have pkl := H8.out.2.2.1.lt
            have HR8 := Lib.hid (show RT tb mb most ((l1 ++ x :: l2).map CE.nd) W8.drew from (HC.out.tab.keep (fun b hi => H8.out.2.2.2.1.block b (HC.out.tab.lt hi) (fun e => HC.out.apart (e ▸ hi))) H8.out.2.2.2.1.size).keep (fun _ _ => rfl) (Nat.le_refl _))
            go_still_tail 6, (by kernel_rfl)
            change wpList _ _ _ _ _ W8.drew
            go_wp2_with (go_at_call 21; refine (Hid.out (p := _) ?_))
            refine Lib.hid ?_
            clear p0 pk0 pk1 pl pkl
            have HRX := Lib.hid (show R = ((((nameLower s.name, s.kind), ⟨s, rank, sec, x.ent.ver, now + min s.ttl 604800⟩) : Kv) :: (l1 ++ l2).map CE.kv, last, true, 0) by
              rw [HRR.out, if_neg (by rw [HST.out]; simp), putM, HF.out, HE.out, putE, putL, HSP.out])
            have hpt := rtab_put_in tb mb most (l1.map CE.nd) (l2.map CE.nd) x.nd (some ⟨eb, 0, none⟩) W8.drew (by have := HR8.out; rwa [List.map_append, List.map_cons] at this) (by have := HLE.out.2.1; simp only [List.length_map, List.length_append, List.length_cons] at this ⊢; exact this)
            rw [show x.nd.name = nameLower s.name from HXN.out.1, show x.nd.kind = s.kind from HXN.out.2] at hpt
            unfold keyV at hpt
            refine hpt.mono ?_
            rintro e W9 ⟨⟨v9, rfl⟩, t9, b9⟩
            have HBK : InTab tb mb ((l1 ++ x :: l2).map CE.nd) x.blk ∨ W8.drew.heap.size ≤ x.blk := .inl (.inr (.inr ⟨x.nd, List.mem_map.2 ⟨x, mid_mem, rfl⟩, rfl⟩))
            rw [show l1.map CE.nd ++ x.nd :: l2.map CE.nd = (l1 ++ x :: l2).map CE.nd by rw [List.map_append, List.map_cons]] at b9
            rw [← List.map_append] at t9
            have hsub : ∀ y ∈ l1 ++ l2, y ∈ l1 ++ x :: l2 := fun y hy => by rcases List.mem_append.1 hy with h | h <;> simp [h]
            have HSUB := Lib.hid hsub
            clear hpt hsub
            have HP := Lib.hid (put_behind (W8 := W8.drew) (l0 := l1 ++ l2) (y := ⟨nameLower s.name, s.kind, ⟨s, rank, sec, x.ent.ver, now + min s.ttl 604800⟩, x.blk, eb, .slice A5 s.data.length e5, .slice B5 s.sigs.length d5⟩) HC.out HSUB.out H8.out.1 H8.out.2.1 H8.out.2.2.2.1.drew H8.out.2.2.2.2.1 H8.out.2.2.2.2.2.1 H8.out.2.2.2.2.2.2 ⟨HG.out.1, HGD.out.1, HGD.out.2⟩ t9 b9 HBK)
            clear b9 t9 HBK
            simp only []
            go_wp2_with fail
            go_ret2
            rw [HRX.out]
            exact ⟨rfl, _, HP.out⟩
/-- rrcache.Put. -/
theorem rc_putX (c : Nat) (O X : Nat → Prop) (most last : Int) (m : List Kv) (s : SetD) (dv sv : Value) (rank sec now : Int) (w : World) (h : CacheIX c O X most last m w) (hd : StrsAt dv s.data w) (hs : StrsAt sv s.sigs w) (hnow : (Lit.int .i64 now).wf = true) (hl : m.length ≤ 100000 ∧ (m.length : Int) ≤ most ∧ 1 ≤ most) (hla : 0 ≤ last ∧ last ≤ 1000000000) :
    Calls Tryz.prog 8 #[.pointer (some ⟨c, 0, none⟩), s.v dv sv, .int .i64 rank, .int .i64 sec, .int .i64 now] w (PutX c O X most (putR most last m s rank sec now) w) := by
  cases hok : putOk s rank sec now with
  | false =>
    rw [putR, if_pos hok]
    exact rc_put_bad c O X most last m s dv sv rank sec now w h hd hs hnow hok
  | true => exact rc_put_ok c O X most last m s dv sv rank sec now w h hd hs hnow hok hl hla
theorem rc_put (c : Nat) (O : Nat → Prop) (most last : Int) (m : List Kv) (s : SetD) (dv sv : Value) (rank sec now : Int) (w : World) (h : CacheIs c O most last m w) (hd : StrsAt dv s.data w) (hs : StrsAt sv s.sigs w) (hnow : (Lit.int .i64 now).wf = true) (hl : m.length ≤ 100000 ∧ (m.length : Int) ≤ most ∧ 1 ≤ most) (hla : 0 ≤ last ∧ last ≤ 1000000000) :
    Calls Tryz.prog 8 #[.pointer (some ⟨c, 0, none⟩), s.v dv sv, .int .i64 rank, .int .i64 sec, .int .i64 now] w (PutP c O most (putR most last m s rank sec now) w) :=
  rc_putX c O NoX most last m s dv sv rank sec now w h hd hs hnow hl hla
end Go.Proofs.YtkhpcagoggglcaaGreatDoor

/- rrcache's New and Len, walked. -/
namespace Go.Proofs.YtkhpcagoggglcaaGreatDoor
open Go.RowKit

def NewC (most : Int) (w : World) (e : Ending) (w' : World) : Prop :=
  Below w.heap.size w w' ∧ ∃ c O, e = .returned (.tuple #[.pointer (some ⟨c, 0, none⟩), .int .i64 0]) ∧ CacheIs c O most 0 [] w' ∧ ∀ b, O b → w.heap.size ≤ b
theorem rc_new (most : Int) (w : World) (h1 : 1 ≤ most) (h2 : most ≤ 100000) : Calls Tryz.prog 6 #[.int .i64 most] w (NewC most w) := by
  have HN := Lib.hid (rtab_new most w h1 h2)
  clear h1 h2
  go_enter Tryz.func6, Tryz.ntmps6
  go_wp2_with (go_at_call 14; refine (Hid.out (p := _) ?_))
  refine Lib.hid ?_
  refine HN.out.mono ?_
  rintro e w1 ⟨hb, tb, mb, ht, hm, rfl, hT⟩
  have HT := Lib.hid (And.intro hT (And.intro hb (And.intro ht hm)))
  clear hb hT ht hm
  simp only []
  go_wp2_with fail
  go_ret2
  have hT := HT.out.1
  have hal := (Below.refl _ w1).alloc (Nat.le_refl _) (.cells #[.pointer (some ⟨tb, 0, none⟩), .int .i64 0] 54)
  refine ⟨HT.out.2.1.trans (hal.mono HT.out.2.1.size), w1.heap.size, OwnC w1.heap.size tb mb [], rfl, ⟨tb, mb, [], rfl, fun b => Iff.rfl, Blk.new w1 _ _, hT.notIn (Nat.le_refl _), hT.below hal, by simp, fun b h => h.elim, fun b h => h.elim⟩, fun b hb => ?_⟩
  have hs := HT.out.2.1.size
  rcases hb with h | h | h | ⟨x, hx, h⟩
  · omega
  · have := HT.out.2.2.1; omega
  · have := HT.out.2.2.2; omega
  · simp at hx
theorem rc_new_no (most : Int) (w : World) (h : most < 1 ∨ 100000 < most) : Calls Tryz.prog 6 #[.int .i64 most] w fun e w' => e = .returned (.tuple #[.pointer none, .int .i64 1]) ∧ w = w' := by
  have HN := Lib.hid (rtab_new_no most w h)
  clear h
  go_enter Tryz.func6, Tryz.ntmps6
  go_wp2_with (go_at_call 14; refine HN.out.mono ?_; rintro e w1 ⟨rfl, rfl⟩)
  go_ret2
  exact ⟨rfl, rfl⟩
theorem rc_len (c : Nat) (O : Nat → Prop) {X : Nat → Prop} (most last : Int) (m : List Kv) (w : World) (h : CacheIX c O X most last m w) : Calls Tryz.prog 12 #[.pointer (some ⟨c, 0, none⟩)] w fun e w' => e = .returned (.int .i64 m.length) ∧ w = w' := by
  obtain ⟨tb, mb, l, rfl, hc⟩ := h
  have hln := rtab_len tb mb most _ _ w hc.tab.body
  rw [List.length_map] at hln
  have HL := Lib.hid hln
  have c0 : w.cell? ⟨c, 0, none⟩ = some (.pointer (some ⟨tb, 0, none⟩)) := hc.cells.cell 0
  clear hc hln
  rw [List.length_map]
  generalize l.length = N at *
  go_enter Tryz.func12, Tryz.ntmps12
  go_wp2_with (go_at_call 26; refine HL.out.mono ?_; rintro e w1 ⟨rfl, rfl⟩)
  go_ret
  exact ⟨rfl, rfl⟩
end Go.Proofs.YtkhpcagoggglcaaGreatDoor

