import Derived.Test.YtkhpcagoggglcaaGreatDoorVe10
import Derived.Deep.RegionHeld3
import Derived.Deep.Cut
/- rrcache's Get, walked. -/
namespace Go.Proofs.YtkhpcagoggglcaaGreatDoor
open Go.RowKit

/-- The cache's block and a key's, in a world grown out of W0. -/
structure CkSt (W0 : World) (c kb tb : Nat) (last : Int) (n : ByteArray) (k : Int) (W : World) : Prop where
  cc : Blk W c #[.pointer (some ⟨tb, 0, none⟩), .int .i64 last] 54
  kk : Blk W kb #[.string n, .int .i64 k] 51
  below : Below W0.heap.size W0 W
def CkS (W0 : World) (c kb tb : Nat) (last : Int) (n : ByteArray) (k : Int) (W : World) : Prop :=
  W.cell? ⟨c, 0, none⟩ = some (.pointer (some ⟨tb, 0, none⟩)) ∧ W.cell? ⟨c, 1, none⟩ = some (.int .i64 last) ∧ W.cell? ⟨kb, 0, none⟩ = some (.string n) ∧ W.cell? ⟨kb, 1, none⟩ = some (.int .i64 k) ∧ CkSt W0 c kb tb last n k W
theorem CkSt.s {W0 : World} {c kb tb : Nat} {last : Int} {n : ByteArray} {k : Int} {W : World} (h : CkSt W0 c kb tb last n k W) : CkS W0 c kb tb last n k W := ⟨h.cc.cell 0, h.cc.cell 1, h.kk.cell 0, h.kk.cell 1, h⟩
theorem CkSt.next {W0 : World} {c kb tb : Nat} {last : Int} {n : ByteArray} {k : Int} {W W' : World} (h : CkSt W0 c kb tb last n k W) (hb : Below W.heap.size W W') : CkSt W0 c kb tb last n k W' :=
  ⟨h.cc.below hb h.cc.lt, h.kk.below hb h.kk.lt, h.below.trans (hb.mono h.below.size)⟩
theorem CkSt.keep {W0 : World} {c kb tb : Nat} {last : Int} {n : ByteArray} {k : Int} {W W' : World} (h : CkSt W0 c kb tb last n k W) (hb : Below W.heap.size W W') : CkS W0 c kb tb last n k W' := (h.next hb).s
theorem info_entR : (Tryz.prog.info? 37).map (·.size) = some 10 := by kernel_rfl
def w10 (W : World) (g : Nat) (v0 v1 v2 v3 v4 v5 v6 v7 v8 v9 : Value) : World :=
  (((((((((W.setCell ⟨g, 0, none⟩ v0).setCell ⟨g, 1, none⟩ v1).setCell ⟨g, 2, none⟩ v2).setCell ⟨g, 3, none⟩ v3).setCell ⟨g, 4, none⟩ v4).setCell ⟨g, 5, none⟩ v5).setCell ⟨g, 6, none⟩ v6).setCell ⟨g, 7, none⟩ v7).setCell ⟨g, 8, none⟩ v8).setCell ⟨g, 9, none⟩ v9
theorem blk_set10 {W : World} {g : Nat} {T : TypeId} {o0 o1 o2 o3 o4 o5 o6 o7 o8 o9 : Value} (h : Blk W g #[o0, o1, o2, o3, o4, o5, o6, o7, o8, o9] T) (v0 v1 v2 v3 v4 v5 v6 v7 v8 v9 : Value) :
    Blk (w10 W g v0 v1 v2 v3 v4 v5 v6 v7 v8 v9) g #[v0, v1, v2, v3, v4, v5, v6, v7, v8, v9] T := by
  unfold w10
  simpa using (((((((((h.set 0 v0).set 1 v1).set 2 v2).set 3 v3).set 4 v4).set 5 v5).set 6 v6).set 7 v7).set 8 v8).set 9 v9
theorem bes_set10 {S : Nat → Prop} {U W : World} {g : Nat} (h : Bes S U W) (hg : S g) (v0 v1 v2 v3 v4 v5 v6 v7 v8 v9 : Value) : Bes S U (w10 W g v0 v1 v2 v3 v4 v5 v6 v7 v8 v9) :=
  (((((((((h.setCell (p := ⟨g, 0, none⟩) hg v0).setCell (p := ⟨g, 1, none⟩) hg v1).setCell (p := ⟨g, 2, none⟩) hg v2).setCell (p := ⟨g, 3, none⟩) hg v3).setCell (p := ⟨g, 4, none⟩) hg v4).setCell (p := ⟨g, 5, none⟩) hg v5).setCell (p := ⟨g, 6, none⟩) hg v6).setCell (p := ⟨g, 7, none⟩) hg v7).setCell (p := ⟨g, 8, none⟩) hg v8).setCell (p := ⟨g, 9, none⟩) hg v9
set_option maxRecDepth 100000 in
set_option maxHeartbeats 1000000 in
theorem rc_get_none (c : Nat) (O X : Nat → Prop) (most last : Int) (m : List Kv) (n : ByteArray) (k t : Int) (w : World) (h : CacheIX c O X most last m w) (hn : n.size ≤ maxLen) (hk : (Lit.int .i64 k).wf = true)
    (hf : m.find? (isK (nameLower n) k) = none) : Calls Tryz.prog 9 #[.pointer (some ⟨c, 0, none⟩), .string n, .int .i64 k, .int .i64 t] w (GotX c O X most last t (m, none) w) := by
  obtain ⟨tb, mb, l, rfl, hc⟩ := h
  have HC := Lib.hid hc; have HF := Lib.hid hf
  have hko := rkeyOk (nameLower n) k (by rw [size_nameLower]; exact hn) hk
  have LOOKS := fun W (hW : Below w.heap.size w W) => rtab_look_out tb mb most (l.map CE.nd) (l.map CE.nd) (nameLower n) k W (HC.out.below hW).tab.body hko (fun x hx he => by
    obtain ⟨y, hy, rfl⟩ := List.mem_map.1 hx
    exact find_no HF.out y hy (KeyOk.inj rkey_keyed (HC.out.tab.keys _ hx) hko he))
  clear hc hf hko
  have HL := Lib.hid (fun W => name_lower n W)
  go_enter Tryz.func9, Tryz.ntmps9
  go_wp2_with (go_at_call 17; refine (HL.out _).mono ?_; rintro e w1 ⟨rfl, hb1⟩)
  have hz := (Blk.new w #[.string ⟨#[]⟩, .int .i64 0, .int .i64 0, .int .i64 0, .slice none 0 0, .slice none 0 0, .int .i64 0, .int .i64 0, .int .i64 0, .int .i64 0] 37).below hb1 (by simp)
  have hb0 := ((Below.refl _ w).alloc (Nat.le_refl _) (.cells #[.string ⟨#[]⟩, .int .i64 0, .int .i64 0, .int .i64 0, .slice none 0 0, .slice none 0 0, .int .i64 0, .int .i64 0, .int .i64 0, .int .i64 0] 37)).trans (hb1.mono (by simp))
  have hs0 : w.heap.size < w1.heap.size := hz.lt
  have hkk := (Blk.new w1 #[.string (nameLower n), .int .i64 k] 51).drew
  have hb2 := (hb0.alloc hb0.size (.cells #[.string (nameLower n), .int .i64 k] 51)).drew
  have hz2 := (hz.alloc (.cells #[.string (nameLower n), .int .i64 k] 51)).drew
  generalize hkb : w1.heap.size = kb at hkk hs0
  generalize hW2 : (w1.alloc (.cells #[.string (nameLower n), .int .i64 k] 51)) = W2 at hkk hb2 hz2
  have hT : CkSt W2.drew c kb tb last (nameLower n) k W2.drew := ⟨HC.out.cells.below hb2 HC.out.cells.lt, hkk, Below.refl _ _⟩
  have HLK := Lib.hid (show ∀ W, Below W2.drew.heap.size W2.drew W → Calls Tryz.prog 18 #[.pointer (some ⟨tb, 0, none⟩), keyV (nameLower n) k] W fun e w' => e = .returned (.tuple #[.pointer none, .bool false]) ∧ Below W.heap.size W w' from fun W hW => LOOKS W (hb2.trans (hW.mono hb2.size)))
  unfold keyV at HLK
  have HZ := Lib.hid (And.intro hz2 (And.intro hb2 hs0))
  clear hb1 hz hb0 hkk hb2 hz2 hkb hs0
  obtain ⟨x0, x1, x2, x3, _⟩ := hT.s
  go_region_held3 (fun W => W.cell? ⟨c, 0, none⟩ = some (.pointer (some ⟨tb, 0, none⟩)) ∧ W.cell? ⟨c, 1, none⟩ = some (.int .i64 last) ∧ W.cell? ⟨kb, 0, none⟩ = some (.string (nameLower n)) ∧ W.cell? ⟨kb, 1, none⟩ = some (.int .i64 k) ∧ CkSt W2.drew c kb tb last (nameLower n) k W)
    (first | exact CkSt.keep (by assumption) (by assumption) | exact CkSt.s (by assumption) | go_keep)
    (first
      | (go_at_call 18; ((with_reducible refine (HLK.out _ hT.below).mono ?_); rintro e W3 ⟨rfl, hb3⟩; have t3 := hT.next hb3)))
  all_goals
    have HZ3 := Lib.hid (HZ.out.1.below t3.below HZ.out.1.lt)
    have HB3 := Lib.hid (HZ.out.2.1.trans (t3.below.mono HZ.out.2.1.size))
    clear x0 x1 x2 x3 hT hb3 t3 LOOKS HL HLK hn hk
    have zf := fun j => HZ3.out.free j
    have z0 := HZ3.out.cell 0; have z1 := HZ3.out.cell 1; have z2 := HZ3.out.cell 2; have z3 := HZ3.out.cell 3; have z4 := HZ3.out.cell 4; have z5 := HZ3.out.cell 5; have z6 := HZ3.out.cell 6; have z7 := HZ3.out.cell 7; have z8 := HZ3.out.cell 8; have z9 := HZ3.out.cell 9
    have zl := HZ3.out.lt
    go_wp2_with (fail)
    have hr := blk_set10 HZ3.out (.string ⟨#[]⟩) (.int .i64 0) (.int .i64 0) (.int .i64 0) (.slice none 0 0) (.slice none 0 0) (.int .i64 0) (.int .i64 0) (.int .i64 0) (.int .i64 0)
    have hb := bes_set10 (Bes.refl (fun b => b = w.heap.size) W3) rfl (.string ⟨#[]⟩) (.int .i64 0) (.int .i64 0) (.int .i64 0) (.slice none 0 0) (.slice none 0 0) (.int .i64 0) (.int .i64 0) (.int .i64 0) (.int .i64 0)
    refine bodyPost_ret (results2 rfl ⟨_, rfl, loadVar_blk hr Tryz.underlying37 rfl info_entR⟩ rfl) rfl ?_
    have hbb := HB3.out.trans (hb.toBelow (B := w.heap.size) (fun b hb => by omega) HB3.out.size)
    exact ⟨O, ⟨⟨tb, mb, l, rfl, HC.out.below hbb⟩, fun b hb => .inl hb, Bes.of_below hbb⟩, rfl⟩
theorem wf_bd {n : Int} (h : (Lit.int .i64 n).wf = true) : -9223372036854775808 ≤ n ∧ n ≤ 9223372036854775807 := by
  simp only [Lit.wf, Bool.and_eq_true, decide_eq_true_eq] at h
  have e1 : IntKind.i64.min = -9223372036854775808 := by decide
  have e2 : IntKind.i64.max = 9223372036854775807 := by decide
  omega
theorem mid_mem {α : Type} {l1 l2 : List α} {x : α} : x ∈ l1 ++ x :: l2 := by simp
set_option maxRecDepth 100000 in
set_option maxHeartbeats 1000000 in
theorem rc_get_when (c : Nat) (O X : Nat → Prop) (most last : Int) (m : List Kv) (n : ByteArray) (k t : Int) (w : World) (h : CacheIX c O X most last m w) (ht : (Lit.int .i64 t).wf = true) (e : Kv)
    (hf : m.find? (isK (nameLower n) k) = some e) (hnt : isTimeR t = false) : Calls Tryz.prog 9 #[.pointer (some ⟨c, 0, none⟩), .string n, .int .i64 k, .int .i64 t] w (GotX c O X most last t (m, none) w) := by
  obtain ⟨tb, mb, l, rfl, hc⟩ := h
  obtain ⟨l1, x, l2, rfl, hxn, rfl, rfl, hE⟩ := find_split hf
  have HC := Lib.hid hc; have HE := Lib.hid hE
  have HXN := Lib.hid hxn
  have LOOKS := fun W (hW : Below w.heap.size w W) => rtab_look_in tb mb most ((l1 ++ x :: l2).map CE.nd) ((l1 ++ x :: l2).map CE.nd) x.nd (.pointer (some ⟨x.eb, 0, none⟩)) W (HC.out.below hW).tab.body (List.mem_map.2 ⟨x, mid_mem, rfl⟩) rfl (HC.out.tab.keys _ (List.mem_map.2 ⟨x, mid_mem, rfl⟩))
  rw [show x.nd.name = nameLower n from hxn, show x.nd.kind = x.kind from rfl] at LOOKS
  have HT := Lib.hid (fun W => isTime_any t W (wf_bd ht))
  rw [hnt] at HT
  have HKQ := Lib.hid (show x.kind = x.kind from rfl)
  generalize hkq : x.kind = k at *
  replace HKQ := Lib.hid hkq
  clear hc hE hxn hf hnt hkq
  have HL := Lib.hid (fun W => name_lower n W)
  go_enter Tryz.func9, Tryz.ntmps9
  go_wp2_with (go_at_call 17; refine (HL.out _).mono ?_; rintro e w1 ⟨rfl, hb1⟩)
  have hz := (Blk.new w #[.string ⟨#[]⟩, .int .i64 0, .int .i64 0, .int .i64 0, .slice none 0 0, .slice none 0 0, .int .i64 0, .int .i64 0, .int .i64 0, .int .i64 0] 37).below hb1 (by simp)
  have hb0 := ((Below.refl _ w).alloc (Nat.le_refl _) (.cells #[.string ⟨#[]⟩, .int .i64 0, .int .i64 0, .int .i64 0, .slice none 0 0, .slice none 0 0, .int .i64 0, .int .i64 0, .int .i64 0, .int .i64 0] 37)).trans (hb1.mono (by simp))
  have hs0 : w.heap.size < w1.heap.size := hz.lt
  have hkk := (Blk.new w1 #[.string (nameLower n), .int .i64 k] 51).drew
  have hb2 := (hb0.alloc hb0.size (.cells #[.string (nameLower n), .int .i64 k] 51)).drew
  have hz2 := (hz.alloc (.cells #[.string (nameLower n), .int .i64 k] 51)).drew
  generalize hkb : w1.heap.size = kb at hkk hs0
  generalize hW2 : (w1.alloc (.cells #[.string (nameLower n), .int .i64 k] 51)) = W2 at hkk hb2 hz2
  have hT : CkSt W2.drew c kb tb last (nameLower n) k W2.drew := ⟨HC.out.cells.below hb2 HC.out.cells.lt, hkk, Below.refl _ _⟩
  have HLK := Lib.hid (show ∀ W, Below W2.drew.heap.size W2.drew W → Calls Tryz.prog 18 #[.pointer (some ⟨tb, 0, none⟩), keyV (nameLower n) k] W fun e w' => e = .returned (.tuple #[.pointer (some ⟨x.eb, 0, none⟩), .bool true]) ∧ Below W.heap.size W w' from fun W hW => LOOKS W (hb2.trans (hW.mono hb2.size)))
  unfold keyV at HLK
  have HZ := Lib.hid (And.intro hz2 (And.intro hb2 hs0))
  clear hb1 hz hb0 hkk hb2 hz2 hkb hs0
  obtain ⟨x0, x1, x2, x3, _⟩ := hT.s
  go_region_held3 (fun W => W.cell? ⟨c, 0, none⟩ = some (.pointer (some ⟨tb, 0, none⟩)) ∧ W.cell? ⟨c, 1, none⟩ = some (.int .i64 last) ∧ W.cell? ⟨kb, 0, none⟩ = some (.string (nameLower n)) ∧ W.cell? ⟨kb, 1, none⟩ = some (.int .i64 k) ∧ CkSt W2.drew c kb tb last (nameLower n) k W)
    (first | exact CkSt.keep (by assumption) (by assumption) | exact CkSt.s (by assumption) | go_keep)
    (first
      | (go_at_call 18; ((with_reducible refine (HLK.out _ hT.below).mono ?_); rintro e W3 ⟨rfl, hb3⟩; have t3 := hT.next hb3)))
  all_goals
    have HZ3 := Lib.hid (HZ.out.1.below t3.below HZ.out.1.lt)
    have HB3 := Lib.hid (HZ.out.2.1.trans (t3.below.mono HZ.out.2.1.size))
    clear x0 x1 x2 x3 hT hb3 t3 LOOKS HL HLK
    have zf := fun j => HZ3.out.free j
    have z0 := HZ3.out.cell 0; have z1 := HZ3.out.cell 1; have z2 := HZ3.out.cell 2; have z3 := HZ3.out.cell 3; have z4 := HZ3.out.cell 4; have z5 := HZ3.out.cell 5; have z6 := HZ3.out.cell 6; have z7 := HZ3.out.cell 7; have z8 := HZ3.out.cell 8; have z9 := HZ3.out.cell 9
    have zl := HZ3.out.lt
    go_wp2_with (go_at_call 16; refine (HT.out _).mono ?_; rintro e w4 ⟨rfl, rfl⟩)
    have hr := blk_set10 HZ3.out (.string ⟨#[]⟩) (.int .i64 0) (.int .i64 0) (.int .i64 0) (.slice none 0 0) (.slice none 0 0) (.int .i64 0) (.int .i64 0) (.int .i64 0) (.int .i64 0)
    have hb := bes_set10 (Bes.refl (fun b => b = w.heap.size) W3) rfl (.string ⟨#[]⟩) (.int .i64 0) (.int .i64 0) (.int .i64 0) (.slice none 0 0) (.slice none 0 0) (.int .i64 0) (.int .i64 0) (.int .i64 0) (.int .i64 0)
    refine bodyPost_ret (results2 rfl ⟨_, rfl, loadVar_blk hr Tryz.underlying37 rfl info_entR⟩ rfl) rfl ?_
    have hbb := HB3.out.trans (hb.toBelow (B := w.heap.size) (fun b hb => by omega) HB3.out.size)
    exact ⟨O, ⟨⟨tb, mb, _, rfl, HC.out.below hbb⟩, fun b hb => .inl hb, Bes.of_below hbb⟩, rfl⟩
set_option maxRecDepth 100000 in
set_option maxHeartbeats 1000000 in
theorem rc_get_over (c : Nat) (O X : Nat → Prop) (most last : Int) (m : List Kv) (n : ByteArray) (k t : Int) (w : World) (h : CacheIX c O X most last m w) (ht : (Lit.int .i64 t).wf = true) (e : Kv)
    (hf : m.find? (isK (nameLower n) k) = some e) (hnt : isTimeR t = true) (hov : e.2.til ≤ t) : Calls Tryz.prog 9 #[.pointer (some ⟨c, 0, none⟩), .string n, .int .i64 k, .int .i64 t] w (GotX c O X most last t (m.eraseP (isK (nameLower n) k), none) w) := by
  obtain ⟨tb, mb, l, rfl, hc⟩ := h
  obtain ⟨l1, x, l2, rfl, hxn, rfl, rfl, hE⟩ := find_split hf
  have HC := Lib.hid hc; have HE := Lib.hid hE
  have HXN := Lib.hid hxn
  have LOOKS := fun W (hW : Below w.heap.size w W) => rtab_look_in tb mb most ((l1 ++ x :: l2).map CE.nd) ((l1 ++ x :: l2).map CE.nd) x.nd (.pointer (some ⟨x.eb, 0, none⟩)) W (HC.out.below hW).tab.body (List.mem_map.2 ⟨x, mid_mem, rfl⟩) rfl (HC.out.tab.keys _ (List.mem_map.2 ⟨x, mid_mem, rfl⟩))
  rw [show x.nd.name = nameLower n from hxn, show x.nd.kind = x.kind from rfl] at LOOKS
  have HT := Lib.hid (fun W => isTime_any t W (wf_bd ht))
  rw [hnt] at HT
  have HKQ := Lib.hid (show x.kind = x.kind from rfl)
  generalize hkq : x.kind = k at *
  replace HKQ := Lib.hid hkq
  clear hc hE hxn hf hnt hkq
  have HL := Lib.hid (fun W => name_lower n W)
  go_enter Tryz.func9, Tryz.ntmps9
  go_wp2_with (go_at_call 17; refine (HL.out _).mono ?_; rintro e w1 ⟨rfl, hb1⟩)
  have hz := (Blk.new w #[.string ⟨#[]⟩, .int .i64 0, .int .i64 0, .int .i64 0, .slice none 0 0, .slice none 0 0, .int .i64 0, .int .i64 0, .int .i64 0, .int .i64 0] 37).below hb1 (by simp)
  have hb0 := ((Below.refl _ w).alloc (Nat.le_refl _) (.cells #[.string ⟨#[]⟩, .int .i64 0, .int .i64 0, .int .i64 0, .slice none 0 0, .slice none 0 0, .int .i64 0, .int .i64 0, .int .i64 0, .int .i64 0] 37)).trans (hb1.mono (by simp))
  have hs0 : w.heap.size < w1.heap.size := hz.lt
  have hkk := (Blk.new w1 #[.string (nameLower n), .int .i64 k] 51).drew
  have hb2 := (hb0.alloc hb0.size (.cells #[.string (nameLower n), .int .i64 k] 51)).drew
  have hz2 := (hz.alloc (.cells #[.string (nameLower n), .int .i64 k] 51)).drew
  generalize hkb : w1.heap.size = kb at hkk hs0
  generalize hW2 : (w1.alloc (.cells #[.string (nameLower n), .int .i64 k] 51)) = W2 at hkk hb2 hz2
  have hT : CkSt W2.drew c kb tb last (nameLower n) k W2.drew := ⟨HC.out.cells.below hb2 HC.out.cells.lt, hkk, Below.refl _ _⟩
  have HLK := Lib.hid (show ∀ W, Below W2.drew.heap.size W2.drew W → Calls Tryz.prog 18 #[.pointer (some ⟨tb, 0, none⟩), keyV (nameLower n) k] W fun e w' => e = .returned (.tuple #[.pointer (some ⟨x.eb, 0, none⟩), .bool true]) ∧ Below W.heap.size W w' from fun W hW => LOOKS W (hb2.trans (hW.mono hb2.size)))
  unfold keyV at HLK
  have HZ := Lib.hid (And.intro hz2 (And.intro hb2 hs0))
  clear hb1 hz hb0 hkk hb2 hz2 hkb hs0
  obtain ⟨x0, x1, x2, x3, _⟩ := hT.s
  go_region_held3 (fun W => W.cell? ⟨c, 0, none⟩ = some (.pointer (some ⟨tb, 0, none⟩)) ∧ W.cell? ⟨c, 1, none⟩ = some (.int .i64 last) ∧ W.cell? ⟨kb, 0, none⟩ = some (.string (nameLower n)) ∧ W.cell? ⟨kb, 1, none⟩ = some (.int .i64 k) ∧ CkSt W2.drew c kb tb last (nameLower n) k W)
    (first | exact CkSt.keep (by assumption) (by assumption) | exact CkSt.s (by assumption) | go_keep)
    (first
      | (go_at_call 18; ((with_reducible refine (HLK.out _ hT.below).mono ?_); rintro e W3 ⟨rfl, hb3⟩; have t3 := hT.next hb3)))
  all_goals
    have HZ3 := Lib.hid (HZ.out.1.below t3.below HZ.out.1.lt)
    have HB3 := Lib.hid (HZ.out.2.1.trans (t3.below.mono HZ.out.2.1.size))
    have HS0 := Lib.hid HZ.out.2.2
    have HC3 := Lib.hid (HC.out.below HB3.out)
    have hx3 := HC3.out.ents x mid_mem
    have e9 : W3.cell? ⟨x.eb, 9, none⟩ = some (.int .i64 x.ent.til) := hx3.cells.cell 9
    have ltx := hx3.cells.lt
    have q1 : decide (x.ent.til ≤ t) = true := decide_eq_true hov
    obtain ⟨y0, y1, y2, y3, t4⟩ := t3.s
    have T4 := Lib.hid t4
    have lc := t3.cc.lt; have lk := t3.kk.lt
    clear x0 x1 x2 x3 hT hb3 t3 LOOKS HL HLK hx3 t4 y1
    go_wp2_with (go_at_call 16; refine (HT.out _).mono ?_; rintro e w4 ⟨rfl, rfl⟩)
    go_still_tail 5, (by kernel_rfl)
    change wpList _ _ _ _ _ W3.drew
    go_wp2_with (go_at_call 22; refine (Hid.out (p := _) ?_))
    refine Lib.hid ?_
    have hdr := rtab_drop_in tb mb most (l1.map CE.nd) (l2.map CE.nd) x.nd W3.drew (by have := (HC3.out.below (Below.refl _ W3).drew).tab; rwa [List.map_append, List.map_cons] at this)
    rw [show x.nd.name = nameLower n from HXN.out, show x.nd.kind = k from HKQ.out] at hdr
    unfold keyV at hdr
    refine hdr.mono ?_
    rintro e w4 ⟨rfl, t5, bes5, _⟩
    have hws : ¬ InTab tb mb ((l1 ++ x :: l2).map CE.nd) w.heap.size := HC.out.tab.notIn (Nat.le_refl _)
    rw [show l1.map CE.nd ++ x.nd :: l2.map CE.nd = (l1 ++ x :: l2).map CE.nd by rw [List.map_append, List.map_cons]] at bes5
    rw [← List.map_append] at t5
    have hz4 : Blk w4 w.heap.size #[.string ⟨#[]⟩, .int .i64 0, .int .i64 0, .int .i64 0, .slice none 0 0, .slice none 0 0, .int .i64 0, .int .i64 0, .int .i64 0, .int .i64 0] 37 := by
      unfold Blk; rw [bes5.block _ HZ3.out.lt hws]; exact HZ3.out
    have HZ4 := Lib.hid hz4
    have HT5 := Lib.hid (And.intro t5 ((Bes.of_below HB3.out : Bes (InTab tb mb ((l1 ++ x :: l2).map CE.nd)) w W3).drew.trans1 bes5))
    clear hdr t5 bes5 hws hz4 y0 y2 y3 e9 ltx lc lk
    simp only []
    replace HZ3 := HZ4
    have zf := fun j => HZ3.out.free j
    have z0 := HZ3.out.cell 0; have z1 := HZ3.out.cell 1; have z2 := HZ3.out.cell 2; have z3 := HZ3.out.cell 3; have z4 := HZ3.out.cell 4; have z5 := HZ3.out.cell 5; have z6 := HZ3.out.cell 6; have z7 := HZ3.out.cell 7; have z8 := HZ3.out.cell 8; have z9 := HZ3.out.cell 9
    have zl := HZ3.out.lt
    go_wp2_with (fail)
    have hr := blk_set10 HZ3.out (.string ⟨#[]⟩) (.int .i64 0) (.int .i64 0) (.int .i64 0) (.slice none 0 0) (.slice none 0 0) (.int .i64 0) (.int .i64 0) (.int .i64 0) (.int .i64 0)
    have hb := bes_set10 (Bes.refl (fun b => b = w.heap.size) w4) rfl (.string ⟨#[]⟩) (.int .i64 0) (.int .i64 0) (.int .i64 0) (.slice none 0 0) (.slice none 0 0) (.int .i64 0) (.int .i64 0) (.int .i64 0) (.int .i64 0)
    refine bodyPost_ret (results2 rfl ⟨_, rfl, loadVar_blk hr Tryz.underlying37 rfl info_entR⟩ rfl) rfl ?_
    have hsub : ∀ y ∈ l1 ++ l2, y ∈ l1 ++ x :: l2 := fun y hy => by rcases List.mem_append.1 hy with h | h <;> simp [h]
    have hbs := HT5.out.2.trans hb fun b hb => .inr (by omega)
    have hrt := HT5.out.1.keep (fun b hi => hb.block b (HT5.out.1.lt hi) (fun e => by have := HC.out.tab.lt (inTab_sub hsub hi); omega)) hb.size
    refine ⟨OwnC c tb mb (l1 ++ l2), ⟨⟨tb, mb, l1 ++ l2, ?_, HC.out.turn hrt hbs (fun b hi => .inl (inTab_sub hsub hi)) hsub⟩, fun b hb => .inl ((HC.out.own b).2 ?_), hbs.mono fun b _ hi => (HC.out.own b).2 (.inr hi)⟩, rfl⟩
    · rw [← HE.out]
    · rcases hb with h | h
      · exact .inl h
      · exact .inr (inTab_sub hsub h)
set_option maxRecDepth 100000 in
set_option maxHeartbeats 2000000 in
theorem rc_get_live (c : Nat) (O X : Nat → Prop) (most last : Int) (m : List Kv) (n : ByteArray) (k t : Int) (w : World) (h : CacheIX c O X most last m w) (ht : (Lit.int .i64 t).wf = true) (e : Kv)
    (hf : m.find? (isK (nameLower n) k) = some e) (hnt : isTimeR t = true) (hov : t < e.2.til) : Calls Tryz.prog 9 #[.pointer (some ⟨c, 0, none⟩), .string n, .int .i64 k, .int .i64 t] w (GotX c O X most last t (e :: m.eraseP (isK (nameLower n) k), some e.2) w) := by
  have h0t : 0 ≤ t ∧ t < 4294967296 := by simpa [isTimeR] using hnt
  obtain ⟨tb, mb, l, rfl, hc⟩ := h
  obtain ⟨l1, x, l2, rfl, hxn, rfl, rfl, hE⟩ := find_split hf
  have HC := Lib.hid hc; have HE := Lib.hid hE
  have HXN := Lib.hid hxn
  have LOOKS := fun W (hW : Below w.heap.size w W) => rtab_look_in tb mb most ((l1 ++ x :: l2).map CE.nd) ((l1 ++ x :: l2).map CE.nd) x.nd (.pointer (some ⟨x.eb, 0, none⟩)) W (HC.out.below hW).tab.body (List.mem_map.2 ⟨x, mid_mem, rfl⟩) rfl (HC.out.tab.keys _ (List.mem_map.2 ⟨x, mid_mem, rfl⟩))
  rw [show x.nd.name = nameLower n from hxn, show x.nd.kind = x.kind from rfl] at LOOKS
  have HT := Lib.hid (fun W => isTime_any t W (wf_bd ht))
  rw [hnt] at HT
  have HKQ := Lib.hid (show x.kind = x.kind from rfl)
  generalize hkq : x.kind = k at *
  replace HKQ := Lib.hid hkq
  clear hc hE hxn hf hnt hkq
  have HL := Lib.hid (fun W => name_lower n W)
  go_enter Tryz.func9, Tryz.ntmps9
  go_wp2_with (go_at_call 17; refine (HL.out _).mono ?_; rintro e w1 ⟨rfl, hb1⟩)
  have hz := (Blk.new w #[.string ⟨#[]⟩, .int .i64 0, .int .i64 0, .int .i64 0, .slice none 0 0, .slice none 0 0, .int .i64 0, .int .i64 0, .int .i64 0, .int .i64 0] 37).below hb1 (by simp)
  have hb0 := ((Below.refl _ w).alloc (Nat.le_refl _) (.cells #[.string ⟨#[]⟩, .int .i64 0, .int .i64 0, .int .i64 0, .slice none 0 0, .slice none 0 0, .int .i64 0, .int .i64 0, .int .i64 0, .int .i64 0] 37)).trans (hb1.mono (by simp))
  have hs0 : w.heap.size < w1.heap.size := hz.lt
  have hkk := (Blk.new w1 #[.string (nameLower n), .int .i64 k] 51).drew
  have hb2 := (hb0.alloc hb0.size (.cells #[.string (nameLower n), .int .i64 k] 51)).drew
  have hz2 := (hz.alloc (.cells #[.string (nameLower n), .int .i64 k] 51)).drew
  generalize hkb : w1.heap.size = kb at hkk hs0
  generalize hW2 : (w1.alloc (.cells #[.string (nameLower n), .int .i64 k] 51)) = W2 at hkk hb2 hz2
  have hT : CkSt W2.drew c kb tb last (nameLower n) k W2.drew := ⟨HC.out.cells.below hb2 HC.out.cells.lt, hkk, Below.refl _ _⟩
  have HLK := Lib.hid (show ∀ W, Below W2.drew.heap.size W2.drew W → Calls Tryz.prog 18 #[.pointer (some ⟨tb, 0, none⟩), keyV (nameLower n) k] W fun e w' => e = .returned (.tuple #[.pointer (some ⟨x.eb, 0, none⟩), .bool true]) ∧ Below W.heap.size W w' from fun W hW => LOOKS W (hb2.trans (hW.mono hb2.size)))
  unfold keyV at HLK
  have HZ := Lib.hid (And.intro hz2 (And.intro hb2 hs0))
  clear hb1 hz hb0 hkk hb2 hz2 hkb hs0
  obtain ⟨x0, x1, x2, x3, _⟩ := hT.s
  go_region_held3 (fun W => W.cell? ⟨c, 0, none⟩ = some (.pointer (some ⟨tb, 0, none⟩)) ∧ W.cell? ⟨c, 1, none⟩ = some (.int .i64 last) ∧ W.cell? ⟨kb, 0, none⟩ = some (.string (nameLower n)) ∧ W.cell? ⟨kb, 1, none⟩ = some (.int .i64 k) ∧ CkSt W2.drew c kb tb last (nameLower n) k W)
    (first | exact CkSt.keep (by assumption) (by assumption) | exact CkSt.s (by assumption) | go_keep)
    (first
      | (go_at_call 18; ((with_reducible refine (HLK.out _ hT.below).mono ?_); rintro e W3 ⟨rfl, hb3⟩; have t3 := hT.next hb3)))
  all_goals
    have HZ3 := Lib.hid (HZ.out.1.below t3.below HZ.out.1.lt)
    have HB3 := Lib.hid (HZ.out.2.1.trans (t3.below.mono HZ.out.2.1.size))
    have HS0 := Lib.hid HZ.out.2.2
    have HC3 := Lib.hid (HC.out.below HB3.out)
    have hx3 := HC3.out.ents x mid_mem
    have e9 : W3.cell? ⟨x.eb, 9, none⟩ = some (.int .i64 x.ent.til) := hx3.cells.cell 9
    have ltx := hx3.cells.lt
    have hov' : t < x.ent.til := hov
    have q1 : decide (x.ent.til ≤ t) = false := decide_eq_false (by omega)
    have hg := hx3.good
    obtain ⟨y0, y1, y2, y3, t4⟩ := t3.s
    have lc := t3.cc.lt; have lk := t3.kk.lt
    clear x0 x1 x2 x3 hT hb3 t3 LOOKS HL HLK hx3 t4 y1
    go_wp2_with (go_at_call 16; refine (HT.out _).mono ?_; rintro e w4 ⟨rfl, rfl⟩)
    go_still_tail 5, (by kernel_rfl)
    change wpList _ _ _ _ _ W3.drew
    go_wp2_with (go_at_call 23; refine (Hid.out (p := _) ?_))
    refine Lib.hid ?_
    have hdr := rtab_get_in tb mb most (l1.map CE.nd) (l2.map CE.nd) x.nd (.pointer (some ⟨x.eb, 0, none⟩)) W3.drew (by have := (HC3.out.below (Below.refl _ W3).drew).tab; rwa [List.map_append, List.map_cons] at this) rfl
    rw [show x.nd.name = nameLower n from HXN.out, show x.nd.kind = k from HKQ.out] at hdr
    unfold keyV at hdr
    refine hdr.mono ?_
    rintro e w4 ⟨rfl, t5, bes5⟩
    have hws : ¬ InTab tb mb ((l1 ++ x :: l2).map CE.nd) w.heap.size := HC.out.tab.notIn (Nat.le_refl _)
    rw [show l1.map CE.nd ++ x.nd :: l2.map CE.nd = (l1 ++ x :: l2).map CE.nd by rw [List.map_append, List.map_cons]] at bes5
    rw [← List.map_append, ← List.map_cons] at t5
    have hz4 : Blk w4 w.heap.size #[.string ⟨#[]⟩, .int .i64 0, .int .i64 0, .int .i64 0, .slice none 0 0, .slice none 0 0, .int .i64 0, .int .i64 0, .int .i64 0, .int .i64 0] 37 := by
      unfold Blk; rw [bes5.block _ HZ3.out.lt hws]; exact HZ3.out
    have hP : ∀ y ∈ x :: (l1 ++ l2), y ∈ l1 ++ x :: l2 := fun y hy => (List.perm_middle (a := x) (l₁ := l1) (l₂ := l2)).mem_iff.2 hy
    have hbs := (Bes.of_below HB3.out : Bes (InTab tb mb ((l1 ++ x :: l2).map CE.nd)) w W3).drew.trans1 bes5
    have hct := HC.out.turn t5 hbs (fun b hi => .inl (inTab_sub hP hi)) hP
    have hx4 := hct.ents x (by simp)
    have e0 : w4.cell? ⟨x.eb, 0, none⟩ = some (.string x.ent.set.name) := hx4.cells.cell 0
    have e1 : w4.cell? ⟨x.eb, 1, none⟩ = some (.int .i64 x.ent.set.kind) := hx4.cells.cell 1
    have e2 : w4.cell? ⟨x.eb, 2, none⟩ = some (.int .i64 x.ent.set.cls) := hx4.cells.cell 2
    have e3 : w4.cell? ⟨x.eb, 3, none⟩ = some (.int .i64 x.ent.set.ttl) := hx4.cells.cell 3
    obtain ⟨DA, dc, hdv, _⟩ := id hx4.data
    obtain ⟨SA, sc, hsv, _⟩ := id hx4.sigs
    have e4 : w4.cell? ⟨x.eb, 4, none⟩ = some (.slice DA x.ent.set.data.length dc) := by rw [← hdv]; exact hx4.cells.cell 4
    have e5 : w4.cell? ⟨x.eb, 5, none⟩ = some (.slice SA x.ent.set.sigs.length sc) := by rw [← hsv]; exact hx4.cells.cell 5
    have HDV := Lib.hid (And.intro hdv hsv)
    have e6 : w4.cell? ⟨x.eb, 6, none⟩ = some (.int .i64 x.ent.rank) := hx4.cells.cell 6
    have e7 : w4.cell? ⟨x.eb, 7, none⟩ = some (.int .i64 x.ent.sec) := hx4.cells.cell 7
    have e8 : w4.cell? ⟨x.eb, 8, none⟩ = some (.int .i64 x.ent.ver) := hx4.cells.cell 8
    have e9' : w4.cell? ⟨x.eb, 9, none⟩ = some (.int .i64 x.ent.til) := hx4.cells.cell 9
    have lx4 := hx4.cells.lt
    have HZ4 := Lib.hid hz4
    have HT5 := Lib.hid (And.intro t5 (And.intro hbs hct))
    clear hdr t5 bes5 hws hz4 y0 y2 y3 e9 ltx lc lk hx4 hct hbs hP hdv hsv
    simp only []
    go_wp2_with (go_at_call 19; refine (Hid.out (p := _) ?_))
    refine Lib.hid ?_
    have hcp := Blk.new w4 #[.string x.ent.set.name, .int .i64 x.ent.set.kind, .int .i64 x.ent.set.cls, .int .i64 x.ent.set.ttl, .slice DA x.ent.set.data.length dc, .slice SA x.ent.set.sigs.length sc, .int .i64 x.ent.rank, .int .i64 x.ent.sec, .int .i64 x.ent.ver, .int .i64 x.ent.til] 37
    have hb5 := (Below.refl w4.heap.size w4).alloc (Nat.le_refl _) (.cells #[.string x.ent.set.name, .int .i64 x.ent.set.kind, .int .i64 x.ent.set.cls, .int .i64 x.ent.set.ttl, .slice DA x.ent.set.data.length dc, .slice SA x.ent.set.sigs.length sc, .int .i64 x.ent.rank, .int .i64 x.ent.sec, .int .i64 x.ent.ver, .int .i64 x.ent.til] 37)
    generalize (w4.alloc (.cells #[.string x.ent.set.name, .int .i64 x.ent.set.kind, .int .i64 x.ent.set.cls, .int .i64 x.ent.set.ttl, .slice DA x.ent.set.data.length dc, .slice SA x.ent.set.sigs.length sc, .int .i64 x.ent.rank, .int .i64 x.ent.sec, .int .i64 x.ent.ver, .int .i64 x.ent.til] 37)) = w5 at hcp hb5 ⊢
    have hx5 := (HT5.out.2.2.below hb5).ents x (by simp)
    have hgd := rightS_len hx5.good.1
    have htw := twin_any x.ent.set x.dv x.sv w5 hx5.data.at hx5.sigs.at (by omega) (by omega)
    rw [HDV.out.1, HDV.out.2] at htw
    refine htw.mono ?_
    rintro e w6 ⟨A6, c6, B6, d6, rfl, hA, hB, hb6⟩
    have hcp6 := hcp.below hb6 hcp.lt
    have hz6 := (HZ4.out.below hb5 HZ4.out.lt).below hb6 (HZ4.out.below hb5 HZ4.out.lt).lt
    have f9 : w6.cell? ⟨x.eb, 9, none⟩ = some (.int .i64 x.ent.til) := (hx5.cells.below hb6 hx5.cells.lt).cell 9
    have f9l := (hx5.cells.below hb6 hx5.cells.lt).lt
    have hb46 := hb5.trans (hb6.mono hb5.size)
    have HA := Lib.hid (And.intro hA (And.intro hB (And.intro hb46 hb5)))
    have H5L := Lib.hid hcp.lt
    have HCP := Lib.hid hcp6; have HZ6 := Lib.hid hz6
    have p0 := hcp6.cell 0; have p1 := hcp6.cell 1; have p2 := hcp6.cell 2; have p3 := hcp6.cell 3; have p4 := hcp6.cell 4; have p5 := hcp6.cell 5
    have pf := fun j => hcp6.free j
    have pl := hcp6.lt
    have r1 : IntKind.i64.wrap (x.ent.til - t) = x.ent.til - t := IntWalk.i64_in _ (by have := hg.2; omega)
    clear hcp hb5 hx5 htw hA hB hb6 hcp6 hz6 hb46 e0 e1 e2 e3 e4 e5 e6 e7 e8 e9' lx4
    simp only [SetD.v, SetD.cells]
    go_upto_region 11 with (fail)
    have h7 := (((((HCP.out.set 0 (.string x.ent.set.name)).set 1 (.int .i64 x.ent.set.kind)).set 2 (.int .i64 x.ent.set.cls)).set 3 (.int .i64 x.ent.set.ttl)).set 4 (.slice A6 x.ent.set.data.length c6)).set 5 (.slice B6 x.ent.set.sigs.length d6)
    have h7b := bes_set6 (Bes.refl (fun b => b = w4.heap.size) w6) rfl (.string x.ent.set.name) (.int .i64 x.ent.set.kind) (.int .i64 x.ent.set.cls) (.int .i64 x.ent.set.ttl) (.slice A6 x.ent.set.data.length c6) (.slice B6 x.ent.set.sigs.length d6)
    have hlx : x.eb < w4.heap.size := (HT5.out.2.2.ents x (by simp)).cells.lt
    have hlz : w.heap.size < w4.heap.size := HZ4.out.lt
    generalize ((((((w6.setCell ⟨w4.heap.size, 0, none⟩ (.string x.ent.set.name)).setCell ⟨w4.heap.size, 1, none⟩ (.int .i64 x.ent.set.kind)).setCell ⟨w4.heap.size, 2, none⟩ (.int .i64 x.ent.set.cls)).setCell ⟨w4.heap.size, 3, none⟩ (.int .i64 x.ent.set.ttl)).setCell ⟨w4.heap.size, 4, none⟩ (.slice A6 x.ent.set.data.length c6)).setCell ⟨w4.heap.size, 5, none⟩ (.slice B6 x.ent.set.sigs.length d6)) = w7 at h7 h7b ⊢
    have hcp7 : Blk w7 w4.heap.size #[.string x.ent.set.name, .int .i64 x.ent.set.kind, .int .i64 x.ent.set.cls, .int .i64 x.ent.set.ttl, .slice A6 x.ent.set.data.length c6, .slice B6 x.ent.set.sigs.length d6, .int .i64 x.ent.rank, .int .i64 x.ent.sec, .int .i64 x.ent.ver, .int .i64 x.ent.til] 37 := by simpa using h7
    have g9 : w7.cell? ⟨x.eb, 9, none⟩ = some (.int .i64 x.ent.til) := (cell_of_bes h7b f9l (by omega) 9).trans f9
    have g9l : x.eb < w7.heap.size := Nat.lt_of_lt_of_le f9l h7b.size
    have hz7 : Blk w7 w.heap.size #[.string ⟨#[]⟩, .int .i64 0, .int .i64 0, .int .i64 0, .slice none 0 0, .slice none 0 0, .int .i64 0, .int .i64 0, .int .i64 0, .int .i64 0] 37 := by unfold Blk; rw [h7b.block _ HZ6.out.lt (by omega)]; exact HZ6.out
    have o3 : w7.cell? ⟨w4.heap.size, 3, none⟩ = some (.int .i64 x.ent.set.ttl) := hcp7.cell 3
    have of := hcp7.free 3
    have ol := hcp7.lt
    have H7 := Lib.hid (And.intro hcp7 (And.intro h7b hz7))
    clear h7 h7b hcp7 hz7 p0 p1 p2 p3 p4 p5 pf pl f9 f9l
    go_upto_region 12 with (fail)
    have h8 := H7.out.1.set 3 (.int .i64 (min (x.ent.til - t) 604800))
    have h8b := (Bes.refl (fun b => b = w4.heap.size) w7).setCell (p := ⟨w4.heap.size, 3, none⟩) rfl (.int .i64 (min (x.ent.til - t) 604800))
    generalize (w7.setCell ⟨w4.heap.size, 3, none⟩ (.int .i64 (min (x.ent.til - t) 604800))) = w8 at h8 h8b ⊢
    have hcp8 : Blk w8 w4.heap.size #[.string x.ent.set.name, .int .i64 x.ent.set.kind, .int .i64 x.ent.set.cls, .int .i64 (min (x.ent.til - t) 604800), .slice A6 x.ent.set.data.length c6, .slice B6 x.ent.set.sigs.length d6, .int .i64 x.ent.rank, .int .i64 x.ent.sec, .int .i64 x.ent.ver, .int .i64 x.ent.til] 37 := by simpa using h8
    have hz8 : Blk w8 w.heap.size #[.string ⟨#[]⟩, .int .i64 0, .int .i64 0, .int .i64 0, .slice none 0 0, .slice none 0 0, .int .i64 0, .int .i64 0, .int .i64 0, .int .i64 0] 37 := by unfold Blk; rw [h8b.block _ H7.out.2.2.lt (by omega)]; exact H7.out.2.2
    have p0 := hcp8.cell 0; have p1 := hcp8.cell 1; have p2 := hcp8.cell 2; have p3 := hcp8.cell 3; have p4 := hcp8.cell 4; have p5 := hcp8.cell 5; have p6 := hcp8.cell 6; have p7 := hcp8.cell 7; have p8 := hcp8.cell 8; have p9 := hcp8.cell 9
    have pl := hcp8.lt
    have HZ8 := Lib.hid hz8
    have H8 := Lib.hid (H7.out.2.1.trans1 h8b)
    clear h8 h8b hcp8 hz8 o3 of ol g9 g9l r1
    have zf := fun j => HZ8.out.free j
    have z0 := HZ8.out.cell 0; have z1 := HZ8.out.cell 1; have z2 := HZ8.out.cell 2; have z3 := HZ8.out.cell 3; have z4 := HZ8.out.cell 4; have z5 := HZ8.out.cell 5; have z6 := HZ8.out.cell 6; have z7 := HZ8.out.cell 7; have z8 := HZ8.out.cell 8; have z9 := HZ8.out.cell 9
    have zl := HZ8.out.lt
    go_wp2_with fail
    have hr := blk_set10 HZ8.out (.string x.ent.set.name) (.int .i64 x.ent.set.kind) (.int .i64 x.ent.set.cls) (.int .i64 (min (x.ent.til - t) 604800)) (.slice A6 x.ent.set.data.length c6) (.slice B6 x.ent.set.sigs.length d6) (.int .i64 x.ent.rank) (.int .i64 x.ent.sec) (.int .i64 x.ent.ver) (.int .i64 x.ent.til)
    have hb := bes_set10 (Bes.refl (fun b => b = w.heap.size) w8) rfl (.string x.ent.set.name) (.int .i64 x.ent.set.kind) (.int .i64 x.ent.set.cls) (.int .i64 (min (x.ent.til - t) 604800)) (.slice A6 x.ent.set.data.length c6) (.slice B6 x.ent.set.sigs.length d6) (.int .i64 x.ent.rank) (.int .i64 x.ent.sec) (.int .i64 x.ent.ver) (.int .i64 x.ent.til)
    refine bodyPost_ret (results2 rfl ⟨_, rfl, loadVar_blk hr Tryz.underlying37 rfl info_entR⟩ rfl) rfl ?_
    have hsub : ∀ y ∈ x :: (l1 ++ l2), y ∈ l1 ++ x :: l2 := fun y hy => (List.perm_middle (a := x) (l₁ := l1) (l₂ := l2)).mem_iff.2 hy
    have h68 := (H8.out.mono (T := fun b => b = w4.heap.size ∨ b = w.heap.size) fun b _ e => .inl e).trans1 (hb.mono fun b _ e => .inr e)
    have h48 := (Bes.of_below (S := fun b => b = w4.heap.size ∨ b = w.heap.size) HA.out.2.2.1).trans1 h68
    have hold : ∀ b, InTab tb mb ((x :: (l1 ++ l2)).map CE.nd) b → b < w.heap.size := fun b hi => HC.out.tab.lt (inTab_sub hsub hi)
    have hrt := HT5.out.1.keep (fun b hi => h48.block b (HT5.out.1.lt hi) (by have := hold b hi; omega)) h48.size
    have hbs := HT5.out.2.1.trans h48 fun b hb => .inr (by omega)
    have hcl := HC.out.cells.lt
    have hown : ∀ g, w.heap.size ≤ g → ¬ OwnC c tb mb (x :: (l1 ++ l2)) g := fun g hg ho => by
      rcases ho with h | h
      · omega
      · have := hold g h; omega
    have h5s := HA.out.2.2.2.size
    have h5l := H5L.out
    refine ⟨OwnC c tb mb (x :: (l1 ++ l2)), ⟨⟨tb, mb, x :: (l1 ++ l2), ?_, HC.out.turn hrt hbs (fun b hi => .inl (inTab_sub hsub hi)) hsub⟩, fun b hb => .inl ((HC.out.own b).2 ?_), hbs.mono fun b _ hi => (HC.out.own b).2 (.inr hi)⟩, _, _, rfl, ?_, ?_⟩
    · rw [HE.out]; rfl
    · rcases hb with h | h
      · exact .inl h
      · exact .inr (inTab_sub hsub h)
    · exact (HA.out.1.keep (fun g hg hS => h68.block g hg (by have hS' : w5.heap.size ≤ g := hS; omega)) h68.size).mono fun g _ hS => ⟨by have hS' : w5.heap.size ≤ g := hS; omega, hown g (by have hS' : w5.heap.size ≤ g := hS; omega)⟩
    · exact (HA.out.2.1.keep (fun g hg hS => h68.block g hg (by have hS' : w5.heap.size ≤ g := hS; omega)) h68.size).mono fun g _ hS => ⟨by have hS' : w5.heap.size ≤ g := hS; omega, hown g (by have hS' : w5.heap.size ≤ g := hS; omega)⟩
/-- rrcache.Get. -/
theorem rc_getX (c : Nat) (O X : Nat → Prop) (most last : Int) (m : List Kv) (n : ByteArray) (k t : Int) (w : World) (h : CacheIX c O X most last m w) (hn : n.size ≤ maxLen) (hk : (Lit.int .i64 k).wf = true) (ht : (Lit.int .i64 t).wf = true) :
    Calls Tryz.prog 9 #[.pointer (some ⟨c, 0, none⟩), .string n, .int .i64 k, .int .i64 t] w (GotX c O X most last t (getR m (nameLower n) k t) w) := by
  unfold getR
  cases hf : m.find? (isK (nameLower n) k) with
  | none => exact rc_get_none c O X most last m n k t w h hn hk hf
  | some e =>
    simp only []
    by_cases h1 : isTimeR t = false
    · rw [if_pos h1]; exact rc_get_when c O X most last m n k t w h ht e hf h1
    · rw [if_neg h1]
      have h1' : isTimeR t = true := by simpa using h1
      by_cases h2 : e.2.til ≤ t
      · rw [if_pos h2]; exact rc_get_over c O X most last m n k t w h ht e hf h1' h2
      · rw [if_neg h2]; exact rc_get_live c O X most last m n k t w h ht e hf h1' (by omega)
theorem rc_get (c : Nat) (O : Nat → Prop) (most last : Int) (m : List Kv) (n : ByteArray) (k t : Int) (w : World) (h : CacheIs c O most last m w) (hn : n.size ≤ maxLen) (hk : (Lit.int .i64 k).wf = true) (ht : (Lit.int .i64 t).wf = true) :
    Calls Tryz.prog 9 #[.pointer (some ⟨c, 0, none⟩), .string n, .int .i64 k, .int .i64 t] w (GotP c O most last t (getR m (nameLower n) k t) w) := rc_getX c O NoX most last m n k t w h hn hk ht
end Go.Proofs.YtkhpcagoggglcaaGreatDoor

/- rrcache's Put, walked: what is refused. -/
namespace Go.Proofs.YtkhpcagoggglcaaGreatDoor
open Go.RowKit

def putOk (s : SetD) (rank sec now : Int) : Bool := rightS s && decide (s.cls = 1) && decide (1 ≤ rank) && decide (rank ≤ 4) && decide (0 ≤ sec) && decide (sec ≤ 3) && isTimeR now
def PutX (c : Nat) (O X : Nat → Prop) (most : Int) (r : List Kv × Int × Bool × Int) (w : World) (e : Ending) (w' : World) : Prop :=
  e = .returned (.tuple #[.bool r.2.2.1, .int .i64 r.2.2.2]) ∧ ∃ O', BehindX c O X most r.2.1 r.1 w w' O'
abbrev PutP (c : Nat) (O : Nat → Prop) (most : Int) (r : List Kv × Int × Bool × Int) (w : World) (e : Ending) (w' : World) : Prop := PutX c O NoX most r w e w'
set_option maxRecDepth 100000 in
set_option maxHeartbeats 1000000 in
theorem rc_put_bad (c : Nat) (O X : Nat → Prop) (most last : Int) (m : List Kv) (s : SetD) (dv sv : Value) (rank sec now : Int) (w : World) (h : CacheIX c O X most last m w) (hd : StrsAt dv s.data w) (hs : StrsAt sv s.sigs w) (hnow : (Lit.int .i64 now).wf = true) (hbad : putOk s rank sec now = false) :
    Calls Tryz.prog 8 #[.pointer (some ⟨c, 0, none⟩), s.v dv sv, .int .i64 rank, .int .i64 sec, .int .i64 now] w (PutX c O X most (m, last, false, 1) w) := by
  obtain ⟨A, c1, rfl, _⟩ := id hd
  obtain ⟨B, c2, rfl, _⟩ := id hs
  have HR := Lib.hid (fun W (hW : Below w.heap.size w W) => rrset_right s (.slice A s.data.length c1) (.slice B s.sigs.length c2) W (hd.below hW) (hs.below hW))
  have HI := Lib.hid (fun W => isTime_any now W (wf_bd hnow))
  simp only [SetD.v, SetD.cells] at *
  cases hr : rightS s with
  | false =>
    rw [hr] at HR
    clear hbad hr
    have HH := Lib.hid h
    clear hd hs h hnow
    go_enter Tryz.func8, Tryz.ntmps8
    go_wp2_with (first
      | (go_at_call 15; refine (HR.out _ ((Below.refl _ _).alloc (Nat.le_refl _) _)).mono ?_; rintro e w1 ⟨rfl, hb1⟩; have hk := (Blk.new w #[.string s.name, .int .i64 s.kind, .int .i64 s.cls, .int .i64 s.ttl, .slice A s.data.length c1, .slice B s.sigs.length c2] 30).below hb1 (by simp); have d2 := hk.cell 2; have dl := hk.lt; have HB1 := Lib.hid (((Below.refl _ w).alloc (Nat.le_refl _) _).trans (hb1.mono (by simp))); clear hb1 hk)
      | (go_at_call 16; refine (HI.out _).mono ?_; rintro e w2 ⟨rfl, rfl⟩))
    go_ret2
    exact ⟨rfl, O, HH.out.below HB1.out, fun b hb => .inl hb, Bes.of_below HB1.out⟩
  | true =>
  rw [hr] at HR
  by_cases g1 : s.cls = 1
  case neg =>
    have q1 : (s.cls != 1) = true := by rw [bne_iff_ne]; exact g1
    clear hbad hr g1
    have HH := Lib.hid h
    clear hd hs h hnow
    go_enter Tryz.func8, Tryz.ntmps8
    go_wp2_with (first
      | (go_at_call 15; refine (HR.out _ ((Below.refl _ _).alloc (Nat.le_refl _) _)).mono ?_; rintro e w1 ⟨rfl, hb1⟩; have hk := (Blk.new w #[.string s.name, .int .i64 s.kind, .int .i64 s.cls, .int .i64 s.ttl, .slice A s.data.length c1, .slice B s.sigs.length c2] 30).below hb1 (by simp); have d2 := hk.cell 2; have dl := hk.lt; have HB1 := Lib.hid (((Below.refl _ w).alloc (Nat.le_refl _) _).trans (hb1.mono (by simp))); clear hb1 hk)
      | (go_at_call 16; refine (HI.out _).mono ?_; rintro e w2 ⟨rfl, rfl⟩))
    go_ret2
    exact ⟨rfl, O, HH.out.below HB1.out, fun b hb => .inl hb, Bes.of_below HB1.out⟩
  have q1 : (s.cls != 1) = false := by rw [g1]; rfl
  by_cases g2 : 1 ≤ rank
  case neg =>
    have q2 : decide (rank < 1) = true := decide_eq_true (by omega)
    clear hbad hr g1 g2
    have HH := Lib.hid h
    clear hd hs h hnow
    go_enter Tryz.func8, Tryz.ntmps8
    go_wp2_with (first
      | (go_at_call 15; refine (HR.out _ ((Below.refl _ _).alloc (Nat.le_refl _) _)).mono ?_; rintro e w1 ⟨rfl, hb1⟩; have hk := (Blk.new w #[.string s.name, .int .i64 s.kind, .int .i64 s.cls, .int .i64 s.ttl, .slice A s.data.length c1, .slice B s.sigs.length c2] 30).below hb1 (by simp); have d2 := hk.cell 2; have dl := hk.lt; have HB1 := Lib.hid (((Below.refl _ w).alloc (Nat.le_refl _) _).trans (hb1.mono (by simp))); clear hb1 hk)
      | (go_at_call 16; refine (HI.out _).mono ?_; rintro e w2 ⟨rfl, rfl⟩))
    go_ret2
    exact ⟨rfl, O, HH.out.below HB1.out, fun b hb => .inl hb, Bes.of_below HB1.out⟩
  have q2 : decide (rank < 1) = false := decide_eq_false (by omega)
  by_cases g3 : rank ≤ 4
  case neg =>
    have q3 : decide ((4 : Int) < rank) = true := decide_eq_true (by omega)
    clear hbad hr g1 g2 g3
    have HH := Lib.hid h
    clear hd hs h hnow
    go_enter Tryz.func8, Tryz.ntmps8
    go_wp2_with (first
      | (go_at_call 15; refine (HR.out _ ((Below.refl _ _).alloc (Nat.le_refl _) _)).mono ?_; rintro e w1 ⟨rfl, hb1⟩; have hk := (Blk.new w #[.string s.name, .int .i64 s.kind, .int .i64 s.cls, .int .i64 s.ttl, .slice A s.data.length c1, .slice B s.sigs.length c2] 30).below hb1 (by simp); have d2 := hk.cell 2; have dl := hk.lt; have HB1 := Lib.hid (((Below.refl _ w).alloc (Nat.le_refl _) _).trans (hb1.mono (by simp))); clear hb1 hk)
      | (go_at_call 16; refine (HI.out _).mono ?_; rintro e w2 ⟨rfl, rfl⟩))
    go_ret2
    exact ⟨rfl, O, HH.out.below HB1.out, fun b hb => .inl hb, Bes.of_below HB1.out⟩
  have q3 : decide ((4 : Int) < rank) = false := decide_eq_false (by omega)
  by_cases g4 : 0 ≤ sec
  case neg =>
    have q4 : decide (sec < 0) = true := decide_eq_true (by omega)
    clear hbad hr g1 g2 g3 g4
    have HH := Lib.hid h
    clear hd hs h hnow
    go_enter Tryz.func8, Tryz.ntmps8
    go_wp2_with (first
      | (go_at_call 15; refine (HR.out _ ((Below.refl _ _).alloc (Nat.le_refl _) _)).mono ?_; rintro e w1 ⟨rfl, hb1⟩; have hk := (Blk.new w #[.string s.name, .int .i64 s.kind, .int .i64 s.cls, .int .i64 s.ttl, .slice A s.data.length c1, .slice B s.sigs.length c2] 30).below hb1 (by simp); have d2 := hk.cell 2; have dl := hk.lt; have HB1 := Lib.hid (((Below.refl _ w).alloc (Nat.le_refl _) _).trans (hb1.mono (by simp))); clear hb1 hk)
      | (go_at_call 16; refine (HI.out _).mono ?_; rintro e w2 ⟨rfl, rfl⟩))
    go_ret2
    exact ⟨rfl, O, HH.out.below HB1.out, fun b hb => .inl hb, Bes.of_below HB1.out⟩
  have q4 : decide (sec < 0) = false := decide_eq_false (by omega)
  by_cases g5 : sec ≤ 3
  case neg =>
    have q5 : decide ((3 : Int) < sec) = true := decide_eq_true (by omega)
    clear hbad hr g1 g2 g3 g4 g5
    have HH := Lib.hid h
    clear hd hs h hnow
    go_enter Tryz.func8, Tryz.ntmps8
    go_wp2_with (first
      | (go_at_call 15; refine (HR.out _ ((Below.refl _ _).alloc (Nat.le_refl _) _)).mono ?_; rintro e w1 ⟨rfl, hb1⟩; have hk := (Blk.new w #[.string s.name, .int .i64 s.kind, .int .i64 s.cls, .int .i64 s.ttl, .slice A s.data.length c1, .slice B s.sigs.length c2] 30).below hb1 (by simp); have d2 := hk.cell 2; have dl := hk.lt; have HB1 := Lib.hid (((Below.refl _ w).alloc (Nat.le_refl _) _).trans (hb1.mono (by simp))); clear hb1 hk)
      | (go_at_call 16; refine (HI.out _).mono ?_; rintro e w2 ⟨rfl, rfl⟩))
    go_ret2
    exact ⟨rfl, O, HH.out.below HB1.out, fun b hb => .inl hb, Bes.of_below HB1.out⟩
  have q5 : decide ((3 : Int) < sec) = false := decide_eq_false (by omega)
  have hit : isTimeR now = false := by
    simp only [putOk, hr, decide_eq_true g1, decide_eq_true g2, decide_eq_true g3, decide_eq_true g4, decide_eq_true g5, Bool.and_self, Bool.true_and] at hbad
    exact hbad
  rw [hit] at HI
  clear hbad hr g1 g2 g3 g4 g5 hit
  have HH := Lib.hid h
  clear hd hs h hnow
  go_enter Tryz.func8, Tryz.ntmps8
  go_wp2_with (first
    | (go_at_call 15; refine (HR.out _ ((Below.refl _ _).alloc (Nat.le_refl _) _)).mono ?_; rintro e w1 ⟨rfl, hb1⟩; have hk := (Blk.new w #[.string s.name, .int .i64 s.kind, .int .i64 s.cls, .int .i64 s.ttl, .slice A s.data.length c1, .slice B s.sigs.length c2] 30).below hb1 (by simp); have d2 := hk.cell 2; have dl := hk.lt; have HB1 := Lib.hid (((Below.refl _ w).alloc (Nat.le_refl _) _).trans (hb1.mono (by simp))); clear hb1 hk)
    | (go_at_call 16; refine (HI.out _).mono ?_; rintro e w2 ⟨rfl, rfl⟩))
  go_ret2
  exact ⟨rfl, O, HH.out.below HB1.out, fun b hb => .inl hb, Bes.of_below HB1.out⟩
end Go.Proofs.YtkhpcagoggglcaaGreatDoor

