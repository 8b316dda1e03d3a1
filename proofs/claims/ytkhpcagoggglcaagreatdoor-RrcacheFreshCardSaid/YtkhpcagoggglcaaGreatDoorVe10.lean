import Derived.Test.YtkhpcagoggglcaaGreatDoorVe9
/- The table's Put, walked (rrcache's table). -/
namespace Go.Proofs.YtkhpcagoggglcaaGreatDoor
open Go.RowKit Go.Maps

theorem nodup_of_map {α β : Type} {f : α → β} : ∀ {l : List α}, (l.map f).Nodup → l.Nodup
  | [], _ => by simp
  | x :: l, h => by
    rw [List.map_cons, List.nodup_cons] at h
    exact List.nodup_cons.2 ⟨fun hm => h.1 (List.mem_map.2 ⟨x, hm, rfl⟩), nodup_of_map h.2⟩
theorem info_rkey : (Tryz.prog.info? 51).map (·.size) = some 2 := by kernel_rfl
def SomeRet (e : Ending) : Prop := ∃ v, e = .returned v
set_option maxRecDepth 100000 in
theorem rtab_put_in (tb mb : Nat) (most : Int) (l1 l2 : List Nd) (x : Nd) (a : Option Addr) (w : World) (h : RT tb mb most (l1 ++ x :: l2) w) (hl : ((l1 ++ x :: l2).length : Int) ≤ most) :
    Calls Tryz.prog 21 #[.pointer (some ⟨tb, 0, none⟩), keyV x.name x.kind, .pointer a] w fun e w' => SomeRet e ∧ RT tb mb most ({ x with val := [.pointer a] } :: (l1 ++ l2)) w' ∧ Bes (InTab tb mb (l1 ++ x :: l2)) w w' := by
  have hx : x ∈ l1 ++ x :: l2 := by simp
  have hk : KeyOk Tryz.prog 51 x.name x.kind := h.keys x hx
  have hmb := h.body.map.lt
  have c1 := h.body.c1
  have ltb := h.body.lt
  have hlk1 : ∀ n, (Instr.lookup 67 (.map (some mb)) (.agg #[.string x.name, .int .i64 x.kind]) true).run Tryz.prog (((w.alloc (.cells #[.string x.name, .int .i64 x.kind] 51)).alloc (.cells #[.string ⟨#[]⟩, .int .i64 0] 51)).drewN n) = .ok (.tuple #[.pointer (some ⟨x.blk, 0, none⟩), .bool true]) (((w.alloc (.cells #[.string x.name, .int .i64 x.kind] 51)).alloc (.cells #[.string ⟨#[]⟩, .int .i64 0] 51)).drewN n) := fun n => rtab_at h.body hx hk _ ((Below.heap_alloc _ _ mb (by simp; omega)).trans (Below.heap_alloc w _ mb hmb))
  have HH := Lib.hid h; have HK := Lib.hid hk
  clear h hx hmb hk
  unfold keyV
  go_enter Tryz.func21, Tryz.ntmps21
  go_wp2
  go_quiet (fail)
  go_wp2_with (go_at_call 34; refine (Hid.out (p := _) ?_))
  refine Lib.hid ?_
  generalize hW1 : ((w.alloc (.cells #[.string x.name, .int .i64 x.kind] 51)).alloc (.cells #[.string ⟨#[]⟩, .int .i64 0] 51)).drewN nq = W1
  have hal : Below w.heap.size w W1 := by rw [← hW1]; exact below_drewN (((Below.refl _ _).alloc (Nat.le_refl _) _).alloc (by simp) _) _
  have k0 : W1.cell? ⟨w.heap.size, 0, none⟩ = some (.string x.name) := by rw [← hW1]; exact ((Blk.new w _ _).alloc _).cell 0
  have k1 : W1.cell? ⟨w.heap.size, 1, none⟩ = some (.int .i64 x.kind) := by rw [← hW1]; exact ((Blk.new w _ _).alloc _).cell 1
  have kr : Blk W1 (w.heap.size + 1) #[.string ⟨#[]⟩, .int .i64 0] 51 := by
    rw [← hW1]
    show Blk ((w.alloc (.cells #[.string x.name, .int .i64 x.kind] 51)).alloc (.cells #[.string ⟨#[]⟩, .int .i64 0] 51)) _ _ _
    have := Blk.new (w.alloc (.cells #[.string x.name, .int .i64 x.kind] 51)) #[.string ⟨#[]⟩, .int .i64 0] 51
    simpa using this
  have ks : w.heap.size + 1 < W1.heap.size := kr.lt
  have ks0 : w.heap.size < W1.heap.size := by omega
  clear hW1
  have h1 := HH.out.below hal
  have hni : ∀ b, w.heap.size ≤ b → ¬ InTab tb mb (l1 ++ x :: l2) b := fun b hb => HH.out.notIn hb
  refine (rtab_out h1.body h1.ring (fun _ h => h) h1.nodup).mono ?_
  rintro e w2 ⟨rfl, b2, r2, bes2, xx, yy, x3, x4⟩
  have hP : (l1 ++ x :: l2).Perm (x :: (l1 ++ l2)) := List.perm_middle
  have b2' := b2.perm hP hP
  have hnx := b2'.node x (by simp)
  obtain ⟨v0, hv0⟩ : ∃ v0, x.val = [v0] := by
    match hq : x.val, hnx.len with
    | [a], _ => exact ⟨a, rfl⟩
  have d2 : w2.cell? ⟨x.blk, 2, none⟩ = some v0 := hnx.val 0 v0 (by rw [hv0]; rfl)
  have g2 := hnx.free 2
  have ltx := hnx.lt
  have b3 := b2'.val (.pointer a)
  have r3 : RingIs 1 tb (l1 ++ l2) (w2.setCell ⟨x.blk, 2, none⟩ (.pointer a)) := r2.set (by show 2 < 3; omega)
  have HB3 := Lib.hid (And.intro b3 r3)
  have kr2 : Blk w2 (w.heap.size + 1) #[.string ⟨#[]⟩, .int .i64 0] 51 := by unfold Blk; rw [bes2.block _ ks (hni _ (by omega))]; exact kr
  have HKR := Lib.hid kr2
  clear b3 r3 b2 b2' hnx hv0 kr kr2
  simp only []
  have hn' : ({ x with val := [.pointer a] } :: (l1 ++ l2)).Nodup := by
    have hA := HB3.out.1.apart
    rw [List.nodup_cons, List.nodup_cons] at hA
    exact nodup_of_map hA.2.2
  have F := Lib.hid (rtab_front (n := { x with val := [.pointer a] }) HB3.out.1 HB3.out.2 (fun _ h => h) hn' (by rw [sc_other (by simp)]; exact x3) (by rw [sc_other (by simp)]; exact x4))
  have HB2 := Lib.hid (((Bes.of_below hal : Bes (InTab tb mb (l1 ++ x :: l2)) w W1).trans1 bes2).setCell (p := ⟨x.blk, 2, none⟩) (.inr (.inr ⟨x, by simp, rfl⟩)) (.pointer a))
  clear hn' x3 x4 bes2
  go_wp2_with (go_at_call 35; refine (Hid.out (p := _) ?_))
  refine Lib.hid ?_
  refine F.out.mono ?_
  rintro e w4 ⟨rfl, b4, r4, bes4⟩
  have hN : (({ x with val := [.pointer a] } :: (l1 ++ l2) : List Nd).length : Int) ≤ most := by
    have := hP.length_eq
    simp only [List.length_cons] at this ⊢
    rw [← this]; exact hl
  have hin : ∀ b, InTab tb mb ({ x with val := [.pointer a] } :: (l1 ++ l2)) b → InTab tb mb (l1 ++ x :: l2) b := fun b hb => by
    rcases hb with h | h | ⟨y, hy, e⟩
    · exact .inl h
    · exact .inr (.inl h)
    · rcases List.mem_cons.1 hy with rfl | hy
      · exact .inr (.inr ⟨x, by simp, e⟩)
      · exact .inr (.inr ⟨y, hP.mem_iff.2 (by simp [hy]), e⟩)
  have hbs := HB2.out.trans bes4 fun b hb => .inl (hin b hb)
  have hkr : Blk w4 (w.heap.size + 1) #[.string ⟨#[]⟩, .int .i64 0] 51 := by
    unfold Blk
    rw [bes4.block _ (by have := HKR.out.lt; simpa using this) (fun hb => hni _ (by omega) (hin _ hb)), Below.heap_setCell _ _ _ _ (by
      have : x.blk < w.heap.size := HH.out.lt (.inr (.inr ⟨x, by simp, rfl⟩))
      show w.heap.size + 1 ≠ x.blk
      omega)]
    exact HKR.out
  have hks : ∀ y ∈ ({ x with val := [.pointer a] } :: (l1 ++ l2) : List Nd), keyOf Tryz.prog 51 (keyV y.name y.kind) = some (keyLit Tryz.prog 51 y.name y.kind) := fun y hy => by
    rcases List.mem_cons.1 hy with rfl | hy
    · exact HK.out
    · exact HH.out.keys y (hP.mem_iff.2 (by simp [hy]))
  have HT := Lib.hid (show RT tb mb most ({ x with val := [.pointer a] } :: (l1 ++ l2)) w4 from ⟨b4, r4, nodup_of_map (by have := b4.apart; rw [List.nodup_cons, List.nodup_cons] at this; exact this.2.2), hks⟩)
  have HKR4 := Lib.hid hkr; have HBS := Lib.hid hbs; have HIN := Lib.hid (show ∀ b, InTab tb mb ({ x with val := [.pointer a] } :: (l1 ++ l2)) b → InTab tb mb (l1 ++ x :: l2) b ∨ w.heap.size + 2 ≤ b from fun b hb => .inl (hin b hb))
  clear b4 r4 bes4 hin hbs hkr hks F HB2 HKR hl hlk1 k0 k1 h1 hni d2 g2 c1 ltb hal HB3
  have hle : decide ((({ x with val := [.pointer a] } :: (l1 ++ l2) : List Nd).length : Int) ≤ most) = true := decide_eq_true hN
  clear hN
  have hN := hle
  clear hle
  have hlnN : ∀ q, (Builtin.len_ #[67] 3 #[.map (some mb)]).run Tryz.prog (w4.drewN q) = .ok (.int .i64 (({ x with val := [.pointer a] } :: (l1 ++ l2) : List Nd).length : Int)) (w4.drewN q) := fun q => by
    have := (HT.out.body.map.block (w' := w4.drewN q) rfl).len rmap_under 3
    rwa [List.length_map] at this
  have c0 := HT.out.body.c0; have c1' := HT.out.body.c1; have ltb' := HT.out.body.lt
  have kq := HKR4.out.cell 0; have kq1 := HKR4.out.cell 1; have kf := fun j => HKR4.out.free j
  have klt := HKR4.out.lt
  generalize ({ x with val := [.pointer a] } :: (l1 ++ l2) : List Nd).length = N at hlnN hN
  simp only []
  go_wp2_with fail
  go_quiet (fail)
  generalize hw5 : w4.drewN nq = w5
  have kq5 : w5.cell? ⟨w.heap.size + 1, 0, none⟩ = some (.string ⟨#[]⟩) := by rw [← hw5]; exact kq
  have kq6 : w5.cell? ⟨w.heap.size + 1, 1, none⟩ = some (.int .i64 0) := by rw [← hw5]; exact kq1
  have kf5 : ∀ j, w5.frozen? ⟨w.heap.size + 1, j, none⟩ = false := fun j => by rw [← hw5]; exact kf j
  have kl5 : w.heap.size + 1 < w5.heap.size := by rw [← hw5]; exact klt
  have HT5 := Lib.hid (show RT tb mb most ({ x with val := [.pointer a] } :: (l1 ++ l2)) w5 ∧ Bes (InTab tb mb (l1 ++ x :: l2)) w w5 by
    rw [← hw5]; exact ⟨HT.out.keep (fun _ _ => rfl) (Nat.le_refl _), HBS.out.drewN _⟩)
  have HK5 := Lib.hid (show Blk w5 (w.heap.size + 1) #[.string ⟨#[]⟩, .int .i64 0] 51 by rw [← hw5]; exact HKR4.out)
  clear hw5 kq kq1 kf klt c0 c1' hlnN HKR4 HBS
  go_wp2_with fail
  have hb6 := ((HK5.out.set 0 (.string ⟨#[]⟩)).set 1 (.int .i64 0)).alloc (.cells #[.string ⟨#[]⟩, .int .i64 0] 51)
  have hs2 := ((Bes.refl (fun b => b = w.heap.size + 1) w5).setCell (p := ⟨w.heap.size + 1, 0, none⟩) rfl (.string ⟨#[]⟩)).setCell (p := ⟨w.heap.size + 1, 1, none⟩) rfl (.int .i64 0)
  have hs3 := hs2.trans1 (Bes.of_below ((Below.refl _ _).alloc (Nat.le_refl _) (.cells #[.string ⟨#[]⟩, .int .i64 0] 51)))
  refine bodyPost_ret (results2 rfl ⟨_, rfl, loadVar_blk hb6 Tryz.underlying51 rfl info_rkey⟩ rfl) rfl ?_
  have HTN := HT5.out.1.keep (fun b hb => hs3.block b (HT5.out.1.lt hb) (by
    show ¬ b = w.heap.size + 1
    rcases HIN.out b hb with h | h
    · have := HH.out.lt h; omega
    · omega)) hs3.size
  have HBN := HT5.out.2.trans hs3 (fun b h => .inr (by omega))
  exact ⟨⟨_, rfl⟩, HTN, HBN⟩
set_option maxRecDepth 100000 in
theorem rtab_put_new (tb mb : Nat) (most : Int) (l : List Nd) (n : ByteArray) (kd : Int) (a : Option Addr) (w : World) (h : RT tb mb most l w) (hk : KeyOk Tryz.prog 51 n kd) (hx : ∀ x ∈ l, x.lit Tryz.prog 51 ≠ keyLit Tryz.prog 51 n kd) (hl : l.length ≤ 1000000 ∧ (l.length + 1 : Int) ≤ most) :
    Calls Tryz.prog 21 #[.pointer (some ⟨tb, 0, none⟩), keyV n kd, .pointer a] w fun e w' => SomeRet e ∧ ∃ b, w.heap.size ≤ b ∧ RT tb mb most (⟨n, kd, [.pointer a], b⟩ :: l) w' ∧ Bes (InTab tb mb l) w w' := by
  have hmb := h.body.map.lt
  have c1 := h.body.c1
  have ltb := h.body.lt
  have hlk1 : ∀ q, (Instr.lookup 67 (.map (some mb)) (.agg #[.string n, .int .i64 kd]) true).run Tryz.prog (((w.alloc (.cells #[.string n, .int .i64 kd] 51)).alloc (.cells #[.string ⟨#[]⟩, .int .i64 0] 51)).drewN q) = .ok (.tuple #[.pointer none, .bool false]) (((w.alloc (.cells #[.string n, .int .i64 kd] 51)).alloc (.cells #[.string ⟨#[]⟩, .int .i64 0] 51)).drewN q) := fun q => rtab_no h.body hk hx _ ((Below.heap_alloc _ _ mb (by simp; omega)).trans (Below.heap_alloc w _ mb hmb))
  have HH := Lib.hid h; have HK := Lib.hid hk; have HX := Lib.hid hx; have HL := Lib.hid hl
  clear h hx hmb hk hl
  unfold keyV
  go_enter Tryz.func21, Tryz.ntmps21
  go_wp2
  go_quiet (fail)
  generalize hW1 : ((w.alloc (.cells #[.string n, .int .i64 kd] 51)).alloc (.cells #[.string ⟨#[]⟩, .int .i64 0] 51)).drewN nq = W1
  have hal : Below w.heap.size w W1 := by rw [← hW1]; exact below_drewN (((Below.refl _ _).alloc (Nat.le_refl _) _).alloc (by simp) _) _
  have k0 : W1.cell? ⟨w.heap.size, 0, none⟩ = some (.string n) := by rw [← hW1]; exact ((Blk.new w _ _).alloc _).cell 0
  have k1 : W1.cell? ⟨w.heap.size, 1, none⟩ = some (.int .i64 kd) := by rw [← hW1]; exact ((Blk.new w _ _).alloc _).cell 1
  have kr : Blk W1 (w.heap.size + 1) #[.string ⟨#[]⟩, .int .i64 0] 51 := by
    rw [← hW1]
    show Blk ((w.alloc (.cells #[.string n, .int .i64 kd] 51)).alloc (.cells #[.string ⟨#[]⟩, .int .i64 0] 51)) _ _ _
    have := Blk.new (w.alloc (.cells #[.string n, .int .i64 kd] 51)) #[.string ⟨#[]⟩, .int .i64 0] 51
    simpa using this
  have ks : w.heap.size + 1 < W1.heap.size := kr.lt
  have ks0 : w.heap.size < W1.heap.size := by omega
  clear hW1
  have h1 := HH.out.below hal
  have c1 := h1.body.c1
  have ltb := h1.body.lt
  have H1 := Lib.hid h1; have HAL := Lib.hid hal; have HKR := Lib.hid kr
  clear h1 hal hlk1 kr
  go_wp2_with fail
  have hbl := (Below.refl _ W1).alloc (Nat.le_refl _) (.cells #[.string n, .int .i64 kd, .pointer none, .pointer none, .pointer none] 70)
  have hni : ¬ InTab tb mb l W1.heap.size := H1.out.notIn (Nat.le_refl _)
  have H2 := Lib.hid (show TabB Tryz.prog 51 1 tb mb most l (⟨n, kd, [.pointer none], W1.heap.size⟩ :: l) (W1.alloc (.cells #[.string n, .int .i64 kd, .pointer none, .pointer none, .pointer none] 70)) ∧ RingIs 1 tb l (W1.alloc (.cells #[.string n, .int .i64 kd, .pointer none, .pointer none, .pointer none] 70)) ∧ Blk (W1.alloc (.cells #[.string n, .int .i64 kd, .pointer none, .pointer none, .pointer none] 70)) W1.heap.size #[.string n, .int .i64 kd, .pointer none, .pointer none, .pointer none] 70 ∧ Blk (W1.alloc (.cells #[.string n, .int .i64 kd, .pointer none, .pointer none, .pointer none] 70)) (w.heap.size + 1) #[.string ⟨#[]⟩, .int .i64 0] 51 ∧ Below W1.heap.size W1 (W1.alloc (.cells #[.string n, .int .i64 kd, .pointer none, .pointer none, .pointer none] 70)) from
    ⟨H1.out.body.add n kd _ _ _ _, H1.out.ring.keep (w' := (W1.alloc (.cells #[.string n, .int .i64 kd, .pointer none, .pointer none, .pointer none] 70))) fun b hb => hbl.block b (H1.out.lt (by rcases hb with h | h; exact .inl h; exact .inr (.inr h))), Blk.new W1 _ _, HKR.out.alloc _, hbl⟩)
  have q0 : (W1.alloc (.cells #[.string n, .int .i64 kd, .pointer none, .pointer none, .pointer none] 70)).cell? ⟨w.heap.size, 0, none⟩ = some (.string n) := (hbl.cell (p := ⟨w.heap.size, 0, none⟩) ks0).trans k0
  have q1 : (W1.alloc (.cells #[.string n, .int .i64 kd, .pointer none, .pointer none, .pointer none] 70)).cell? ⟨w.heap.size, 1, none⟩ = some (.int .i64 kd) := (hbl.cell (p := ⟨w.heap.size, 1, none⟩) ks0).trans k1
  have q2 : (W1.alloc (.cells #[.string n, .int .i64 kd, .pointer none, .pointer none, .pointer none] 70)).cell? ⟨tb, 1, none⟩ = some (.map (some mb)) := (hbl.cell (p := ⟨tb, 1, none⟩) ltb).trans c1
  have hsz : (W1.alloc (.cells #[.string n, .int .i64 kd, .pointer none, .pointer none, .pointer none] 70)).heap.size = W1.heap.size + 1 := by simp
  generalize (W1.alloc (.cells #[.string n, .int .i64 kd, .pointer none, .pointer none, .pointer none] 70)) = W2a at H2 hsz q0 q1 q2
  clear hbl c1 ltb k0 k1
  go_still_tail 6, (by kernel_rfl)
  change wpList _ _ _ _ _ W2a.drew
  have HB2 := Lib.hid (show TabB Tryz.prog 51 1 tb mb most l (⟨n, kd, [.pointer none], W1.heap.size⟩ :: l) W2a.drew ∧ RingIs 1 tb l W2a.drew ∧ Blk W2a.drew W1.heap.size #[.string n, .int .i64 kd, .pointer none, .pointer none, .pointer none] 70 ∧ Blk W2a.drew (w.heap.size + 1) #[.string ⟨#[]⟩, .int .i64 0] 51 ∧ Below W1.heap.size W1 W2a.drew from
    ⟨H2.out.1.keep (fun _ _ => rfl) (Nat.le_refl _), H2.out.2.1.keep (fun _ _ => rfl), H2.out.2.2.1, H2.out.2.2.2.1, H2.out.2.2.2.2.drew⟩)
  have hsz2 : W2a.drew.heap.size = W1.heap.size + 1 := hsz
  clear H2 hsz q0 q1 q2
  generalize W2a.drew = W2 at HB2 hsz2
  refine wpList_mapV_put rfl _ _ _ 67 rfl 68 rkey_keyed rmap_under rfl HB2.out.1.map (by rw [List.length_map]; have := HL.out.1; simp only [maxLen]; omega) _ _ _ rfl rfl HK.out (ptD W1.heap.size) [] rfl (fun hm => by
    obtain ⟨p, hp, e⟩ := List.mem_map.1 hm
    obtain ⟨x, hx', rfl⟩ := List.mem_map.1 hp
    exact HX.out x hx' e) ?_
  intro w3 m3 t3
  have b3 := HB2.out.1.turn (m' := ⟨n, kd, [.pointer none], W1.heap.size⟩ :: l) t3 m3 (fun _ h => h)
  have hblk : ∀ b, b < W1.heap.size + 1 → b ≠ mb → w3.heap[b]? = W2.heap[b]? := fun b hb hne => t3.grown.block b (by omega) fun e => hne (Option.some.inj e)
  have hmb3 : mb ≠ W1.heap.size := fun e => hni (.inr (.inl e.symm))
  have hmb4 : mb ≠ w.heap.size + 1 := fun e => by have := HH.out.lt (.inr (.inl rfl)); omega
  have hnb : Blk w3 W1.heap.size #[.string n, .int .i64 kd, .pointer none, .pointer none, .pointer none] 70 := by unfold Blk; rw [hblk _ (by omega) hmb3.symm]; exact HB2.out.2.2.1
  have hkr3 : Blk w3 (w.heap.size + 1) #[.string ⟨#[]⟩, .int .i64 0] 51 := by unfold Blk; rw [hblk _ (by omega) hmb4.symm]; exact HB2.out.2.2.2.1
  have r3 : RingIs 1 tb l w3 := HB2.out.2.1.turn t3 fun b hb => by
    have hi : InTab tb mb l b := by rcases hb with h | h; exact .inl h; exact .inr (.inr h)
    refine ⟨by have := H1.out.lt hi; omega, fun e => ?_⟩
    rcases hb with h | ⟨x, hx, h⟩
    · exact H1.out.body.tm (h.symm.trans e)
    · exact (H1.out.body.tbn hx).2 (h.symm.trans e)
  have d2 : w3.cell? ⟨W1.heap.size, 2, none⟩ = some (.pointer none) := hnb.cell 2
  have d3 : w3.cell? ⟨W1.heap.size, 3, none⟩ = some (.pointer none) := hnb.cell 3
  have d4 : w3.cell? ⟨W1.heap.size, 4, none⟩ = some (.pointer none) := hnb.cell 4
  have g2 := hnb.free 2
  have ltn := hnb.lt
  have b4 := b3.val (.pointer a)
  have HB3 := Lib.hid (And.intro b4 (show RingIs 1 tb l (w3.setCell ⟨W1.heap.size, 2, none⟩ (.pointer a)) from r3.set (by show 2 < 3; omega)))
  have hbs3 : Bes (InTab tb mb l) w w3 := (((Bes.of_below HAL.out : Bes (InTab tb mb l) w W1).trans1 (Bes.of_below HB2.out.2.2.2.2)).trans1 ((Bes.turned t3).mono fun b _ e => .inr (.inl e)))
  have HBS3 := Lib.hid (hbs3.trans ((Bes.refl (fun b => b = W1.heap.size) w3).setCell (p := ⟨W1.heap.size, 2, none⟩) rfl (.pointer a)) fun b e => .inr (by omega))
  have HKR3 := Lib.hid (And.intro hkr3 hni)
  have hn' : (⟨n, kd, [.pointer a], W1.heap.size⟩ :: l : List Nd).Nodup := by
    have hA := HB3.out.1.apart
    rw [List.nodup_cons, List.nodup_cons] at hA
    exact nodup_of_map hA.2.2
  have F := Lib.hid (rtab_front (n := ⟨n, kd, [.pointer a], W1.heap.size⟩) HB3.out.1 HB3.out.2 (fun _ h => h) hn' (by rw [sc_other (by simp)]; exact d3) (by rw [sc_other (by simp)]; exact d4))
  have HND := Lib.hid hn'
  clear b3 b4 r3 m3 t3 hnb hkr3 d3 d4 hblk hmb3 hmb4 hbs3 hn' hni HB2
  go_wp2_with (go_at_call 35; refine (Hid.out (p := _) ?_))
  refine Lib.hid ?_
  refine F.out.mono ?_
  rintro e w4 ⟨rfl, b4, r4, bes4⟩
  have hin : ∀ b, InTab tb mb (⟨n, kd, [.pointer a], W1.heap.size⟩ :: l) b → InTab tb mb l b ∨ w.heap.size + 2 ≤ b := fun b hb => by
    rcases hb with h | h | ⟨y, hy, e⟩
    · exact .inl (.inl h)
    · exact .inl (.inr (.inl h))
    · rcases List.mem_cons.1 hy with rfl | hy
      · exact .inr (by rw [e]; exact ks)
      · exact .inl (.inr (.inr ⟨y, hy, e⟩))
  have hbs := HBS3.out.trans bes4 fun b hb => by
    rcases hin b hb with h | h
    · exact .inl h
    · exact .inr (by omega)
  have hkr : Blk w4 (w.heap.size + 1) #[.string ⟨#[]⟩, .int .i64 0] 51 := by
    unfold Blk
    rw [bes4.block _ (by have := HKR3.out.1.lt; simpa using this) (fun hb => by
      rcases hin _ hb with h | h
      · have := HH.out.lt h; omega
      · omega), Below.heap_setCell _ _ _ _ (by show w.heap.size + 1 ≠ W1.heap.size; omega)]
    exact HKR3.out.1
  have hks : ∀ y ∈ (⟨n, kd, [.pointer a], W1.heap.size⟩ :: l : List Nd), keyOf Tryz.prog 51 (keyV y.name y.kind) = some (keyLit Tryz.prog 51 y.name y.kind) := fun y hy => by
    rcases List.mem_cons.1 hy with rfl | hy
    · exact HK.out
    · exact HH.out.keys y hy
  have HT := Lib.hid (show RT tb mb most (⟨n, kd, [.pointer a], W1.heap.size⟩ :: l) w4 from ⟨b4, r4, HND.out, hks⟩)
  have HKR4 := Lib.hid hkr; have HBS := Lib.hid hbs; have HIN := Lib.hid hin
  clear b4 r4 bes4 hin hbs hkr hks F HBS3 HKR3 d2 g2 HB3 HND
  have hN : decide (((⟨n, kd, [.pointer a], W1.heap.size⟩ :: l : List Nd).length : Int) ≤ most) = true := decide_eq_true (by have := HL.out.2; simp only [List.length_cons]; omega)
  have hlnN : ∀ q, (Builtin.len_ #[67] 3 #[.map (some mb)]).run Tryz.prog (w4.drewN q) = .ok (.int .i64 ((⟨n, kd, [.pointer a], W1.heap.size⟩ :: l : List Nd).length : Int)) (w4.drewN q) := fun q => by
    have := (HT.out.body.map.block (w' := w4.drewN q) rfl).len rmap_under 3
    rwa [List.length_map] at this
  have c0 := HT.out.body.c0; have c1' := HT.out.body.c1; have ltb' := HT.out.body.lt
  have kq := HKR4.out.cell 0; have kq1 := HKR4.out.cell 1; have kf := fun j => HKR4.out.free j
  have klt := HKR4.out.lt
  generalize (⟨n, kd, [.pointer a], W1.heap.size⟩ :: l : List Nd).length = N at hlnN hN
  simp only []
  go_wp2_with fail
  go_quiet (fail)
  generalize hw5 : w4.drewN nq = w5
  have kq5 : w5.cell? ⟨w.heap.size + 1, 0, none⟩ = some (.string ⟨#[]⟩) := by rw [← hw5]; exact kq
  have kq6 : w5.cell? ⟨w.heap.size + 1, 1, none⟩ = some (.int .i64 0) := by rw [← hw5]; exact kq1
  have kf5 : ∀ j, w5.frozen? ⟨w.heap.size + 1, j, none⟩ = false := fun j => by rw [← hw5]; exact kf j
  have kl5 : w.heap.size + 1 < w5.heap.size := by rw [← hw5]; exact klt
  have HT5 := Lib.hid (show RT tb mb most (⟨n, kd, [.pointer a], W1.heap.size⟩ :: l) w5 ∧ Bes (InTab tb mb (l)) w w5 by
    rw [← hw5]; exact ⟨HT.out.keep (fun _ _ => rfl) (Nat.le_refl _), HBS.out.drewN _⟩)
  have HK5 := Lib.hid (show Blk w5 (w.heap.size + 1) #[.string ⟨#[]⟩, .int .i64 0] 51 by rw [← hw5]; exact HKR4.out)
  clear hw5 kq kq1 kf klt c0 c1' hlnN HKR4 HBS
  go_wp2_with fail
  have hb6 := ((HK5.out.set 0 (.string ⟨#[]⟩)).set 1 (.int .i64 0)).alloc (.cells #[.string ⟨#[]⟩, .int .i64 0] 51)
  have hs2 := ((Bes.refl (fun b => b = w.heap.size + 1) w5).setCell (p := ⟨w.heap.size + 1, 0, none⟩) rfl (.string ⟨#[]⟩)).setCell (p := ⟨w.heap.size + 1, 1, none⟩) rfl (.int .i64 0)
  have hs3 := hs2.trans1 (Bes.of_below ((Below.refl _ _).alloc (Nat.le_refl _) (.cells #[.string ⟨#[]⟩, .int .i64 0] 51)))
  refine bodyPost_ret (results2 rfl ⟨_, rfl, loadVar_blk hb6 Tryz.underlying51 rfl info_rkey⟩ rfl) rfl ?_
  have HTN := HT5.out.1.keep (fun b hb => hs3.block b (HT5.out.1.lt hb) (by
    show ¬ b = w.heap.size + 1
    rcases HIN.out b hb with h | h
    · have := HH.out.lt h; omega
    · omega)) hs3.size
  have HBN := HT5.out.2.trans hs3 (fun b h => .inr (by omega))
  exact ⟨⟨_, rfl⟩, W1.heap.size, by omega, HTN, HBN⟩
set_option maxRecDepth 100000 in
theorem rtab_put_evict (tb mb : Nat) (most : Int) (l' : List Nd) (z : Nd) (n : ByteArray) (kd : Int) (a : Option Addr) (w : World) (h : RT tb mb most (l' ++ [z]) w) (hk : KeyOk Tryz.prog 51 n kd) (hx : ∀ x ∈ l' ++ [z], x.lit Tryz.prog 51 ≠ keyLit Tryz.prog 51 n kd) (hl : (l' ++ [z]).length ≤ 1000000 ∧ most < ((l' ++ [z]).length + 1 : Int)) :
    Calls Tryz.prog 21 #[.pointer (some ⟨tb, 0, none⟩), keyV n kd, .pointer a] w fun e w' => SomeRet e ∧ ∃ b, w.heap.size ≤ b ∧ RT tb mb most (⟨n, kd, [.pointer a], b⟩ :: l') w' ∧ Bes (InTab tb mb (l' ++ [z])) w w' := by
  obtain ⟨l, hlz⟩ : ∃ l, l = l' ++ [z] := ⟨_, rfl⟩
  rw [← hlz] at h hx hl ⊢
  have HLZ := Lib.hid hlz
  clear hlz
  have hmb := h.body.map.lt
  have c1 := h.body.c1
  have ltb := h.body.lt
  have hlk1 : ∀ q, (Instr.lookup 67 (.map (some mb)) (.agg #[.string n, .int .i64 kd]) true).run Tryz.prog (((w.alloc (.cells #[.string n, .int .i64 kd] 51)).alloc (.cells #[.string ⟨#[]⟩, .int .i64 0] 51)).drewN q) = .ok (.tuple #[.pointer none, .bool false]) (((w.alloc (.cells #[.string n, .int .i64 kd] 51)).alloc (.cells #[.string ⟨#[]⟩, .int .i64 0] 51)).drewN q) := fun q => rtab_no h.body hk hx _ ((Below.heap_alloc _ _ mb (by simp; omega)).trans (Below.heap_alloc w _ mb hmb))
  have HH := Lib.hid h; have HK := Lib.hid hk; have HX := Lib.hid hx; have HL := Lib.hid hl
  clear h hx hmb hk hl
  unfold keyV
  go_enter Tryz.func21, Tryz.ntmps21
  go_wp2
  go_quiet (fail)
  generalize hW1 : ((w.alloc (.cells #[.string n, .int .i64 kd] 51)).alloc (.cells #[.string ⟨#[]⟩, .int .i64 0] 51)).drewN nq = W1
  have hal : Below w.heap.size w W1 := by rw [← hW1]; exact below_drewN (((Below.refl _ _).alloc (Nat.le_refl _) _).alloc (by simp) _) _
  have k0 : W1.cell? ⟨w.heap.size, 0, none⟩ = some (.string n) := by rw [← hW1]; exact ((Blk.new w _ _).alloc _).cell 0
  have k1 : W1.cell? ⟨w.heap.size, 1, none⟩ = some (.int .i64 kd) := by rw [← hW1]; exact ((Blk.new w _ _).alloc _).cell 1
  have kr : Blk W1 (w.heap.size + 1) #[.string ⟨#[]⟩, .int .i64 0] 51 := by
    rw [← hW1]
    show Blk ((w.alloc (.cells #[.string n, .int .i64 kd] 51)).alloc (.cells #[.string ⟨#[]⟩, .int .i64 0] 51)) _ _ _
    have := Blk.new (w.alloc (.cells #[.string n, .int .i64 kd] 51)) #[.string ⟨#[]⟩, .int .i64 0] 51
    simpa using this
  have ks : w.heap.size + 1 < W1.heap.size := kr.lt
  have ks0 : w.heap.size < W1.heap.size := by omega
  clear hW1
  have h1 := HH.out.below hal
  have c1 := h1.body.c1
  have ltb := h1.body.lt
  have H1 := Lib.hid h1; have HAL := Lib.hid hal; have HKR := Lib.hid kr
  clear h1 hal hlk1 kr
  go_wp2_with fail
  have hbl := (Below.refl _ W1).alloc (Nat.le_refl _) (.cells #[.string n, .int .i64 kd, .pointer none, .pointer none, .pointer none] 70)
  have hni : ¬ InTab tb mb l W1.heap.size := H1.out.notIn (Nat.le_refl _)
  have H2 := Lib.hid (show TabB Tryz.prog 51 1 tb mb most l (⟨n, kd, [.pointer none], W1.heap.size⟩ :: l) (W1.alloc (.cells #[.string n, .int .i64 kd, .pointer none, .pointer none, .pointer none] 70)) ∧ RingIs 1 tb l (W1.alloc (.cells #[.string n, .int .i64 kd, .pointer none, .pointer none, .pointer none] 70)) ∧ Blk (W1.alloc (.cells #[.string n, .int .i64 kd, .pointer none, .pointer none, .pointer none] 70)) W1.heap.size #[.string n, .int .i64 kd, .pointer none, .pointer none, .pointer none] 70 ∧ Blk (W1.alloc (.cells #[.string n, .int .i64 kd, .pointer none, .pointer none, .pointer none] 70)) (w.heap.size + 1) #[.string ⟨#[]⟩, .int .i64 0] 51 ∧ Below W1.heap.size W1 (W1.alloc (.cells #[.string n, .int .i64 kd, .pointer none, .pointer none, .pointer none] 70)) from
    ⟨H1.out.body.add n kd _ _ _ _, H1.out.ring.keep (w' := (W1.alloc (.cells #[.string n, .int .i64 kd, .pointer none, .pointer none, .pointer none] 70))) fun b hb => hbl.block b (H1.out.lt (by rcases hb with h | h; exact .inl h; exact .inr (.inr h))), Blk.new W1 _ _, HKR.out.alloc _, hbl⟩)
  have q0 : (W1.alloc (.cells #[.string n, .int .i64 kd, .pointer none, .pointer none, .pointer none] 70)).cell? ⟨w.heap.size, 0, none⟩ = some (.string n) := (hbl.cell (p := ⟨w.heap.size, 0, none⟩) ks0).trans k0
  have q1 : (W1.alloc (.cells #[.string n, .int .i64 kd, .pointer none, .pointer none, .pointer none] 70)).cell? ⟨w.heap.size, 1, none⟩ = some (.int .i64 kd) := (hbl.cell (p := ⟨w.heap.size, 1, none⟩) ks0).trans k1
  have q2 : (W1.alloc (.cells #[.string n, .int .i64 kd, .pointer none, .pointer none, .pointer none] 70)).cell? ⟨tb, 1, none⟩ = some (.map (some mb)) := (hbl.cell (p := ⟨tb, 1, none⟩) ltb).trans c1
  have hsz : (W1.alloc (.cells #[.string n, .int .i64 kd, .pointer none, .pointer none, .pointer none] 70)).heap.size = W1.heap.size + 1 := by simp
  generalize (W1.alloc (.cells #[.string n, .int .i64 kd, .pointer none, .pointer none, .pointer none] 70)) = W2a at H2 hsz q0 q1 q2
  clear hbl c1 ltb k0 k1
  go_still_tail 6, (by kernel_rfl)
  change wpList _ _ _ _ _ W2a.drew
  have HB2 := Lib.hid (show TabB Tryz.prog 51 1 tb mb most l (⟨n, kd, [.pointer none], W1.heap.size⟩ :: l) W2a.drew ∧ RingIs 1 tb l W2a.drew ∧ Blk W2a.drew W1.heap.size #[.string n, .int .i64 kd, .pointer none, .pointer none, .pointer none] 70 ∧ Blk W2a.drew (w.heap.size + 1) #[.string ⟨#[]⟩, .int .i64 0] 51 ∧ Below W1.heap.size W1 W2a.drew from
    ⟨H2.out.1.keep (fun _ _ => rfl) (Nat.le_refl _), H2.out.2.1.keep (fun _ _ => rfl), H2.out.2.2.1, H2.out.2.2.2.1, H2.out.2.2.2.2.drew⟩)
  have hsz2 : W2a.drew.heap.size = W1.heap.size + 1 := hsz
  clear H2 hsz q0 q1 q2
  generalize W2a.drew = W2 at HB2 hsz2
  refine wpList_mapV_put rfl _ _ _ 67 rfl 68 rkey_keyed rmap_under rfl HB2.out.1.map (by rw [List.length_map]; have := HL.out.1; simp only [maxLen]; omega) _ _ _ rfl rfl HK.out (ptD W1.heap.size) [] rfl (fun hm => by
    obtain ⟨p, hp, e⟩ := List.mem_map.1 hm
    obtain ⟨x, hx', rfl⟩ := List.mem_map.1 hp
    exact HX.out x hx' e) ?_
  intro w3 m3 t3
  have b3 := HB2.out.1.turn (m' := ⟨n, kd, [.pointer none], W1.heap.size⟩ :: l) t3 m3 (fun _ h => h)
  have hblk : ∀ b, b < W1.heap.size + 1 → b ≠ mb → w3.heap[b]? = W2.heap[b]? := fun b hb hne => t3.grown.block b (by omega) fun e => hne (Option.some.inj e)
  have hmb3 : mb ≠ W1.heap.size := fun e => hni (.inr (.inl e.symm))
  have hmb4 : mb ≠ w.heap.size + 1 := fun e => by have := HH.out.lt (.inr (.inl rfl)); omega
  have hnb : Blk w3 W1.heap.size #[.string n, .int .i64 kd, .pointer none, .pointer none, .pointer none] 70 := by unfold Blk; rw [hblk _ (by omega) hmb3.symm]; exact HB2.out.2.2.1
  have hkr3 : Blk w3 (w.heap.size + 1) #[.string ⟨#[]⟩, .int .i64 0] 51 := by unfold Blk; rw [hblk _ (by omega) hmb4.symm]; exact HB2.out.2.2.2.1
  have r3 : RingIs 1 tb l w3 := HB2.out.2.1.turn t3 fun b hb => by
    have hi : InTab tb mb l b := by rcases hb with h | h; exact .inl h; exact .inr (.inr h)
    refine ⟨by have := H1.out.lt hi; omega, fun e => ?_⟩
    rcases hb with h | ⟨x, hx, h⟩
    · exact H1.out.body.tm (h.symm.trans e)
    · exact (H1.out.body.tbn hx).2 (h.symm.trans e)
  have d2 : w3.cell? ⟨W1.heap.size, 2, none⟩ = some (.pointer none) := hnb.cell 2
  have d3 : w3.cell? ⟨W1.heap.size, 3, none⟩ = some (.pointer none) := hnb.cell 3
  have d4 : w3.cell? ⟨W1.heap.size, 4, none⟩ = some (.pointer none) := hnb.cell 4
  have g2 := hnb.free 2
  have ltn := hnb.lt
  have b4 := b3.val (.pointer a)
  have HB3 := Lib.hid (And.intro b4 (show RingIs 1 tb l (w3.setCell ⟨W1.heap.size, 2, none⟩ (.pointer a)) from r3.set (by show 2 < 3; omega)))
  have hbs3 : Bes (InTab tb mb l) w w3 := (((Bes.of_below HAL.out : Bes (InTab tb mb l) w W1).trans1 (Bes.of_below HB2.out.2.2.2.2)).trans1 ((Bes.turned t3).mono fun b _ e => .inr (.inl e)))
  have HBS3 := Lib.hid (hbs3.trans ((Bes.refl (fun b => b = W1.heap.size) w3).setCell (p := ⟨W1.heap.size, 2, none⟩) rfl (.pointer a)) fun b e => .inr (by omega))
  have HKR3 := Lib.hid (And.intro hkr3 hni)
  have hn' : (⟨n, kd, [.pointer a], W1.heap.size⟩ :: l : List Nd).Nodup := by
    have hA := HB3.out.1.apart
    rw [List.nodup_cons, List.nodup_cons] at hA
    exact nodup_of_map hA.2.2
  have F := Lib.hid (rtab_front (n := ⟨n, kd, [.pointer a], W1.heap.size⟩) HB3.out.1 HB3.out.2 (fun _ h => h) hn' (by rw [sc_other (by simp)]; exact d3) (by rw [sc_other (by simp)]; exact d4))
  have HND := Lib.hid hn'
  clear b3 b4 r3 m3 t3 hnb hkr3 d3 d4 hblk hmb3 hmb4 hbs3 hn' hni HB2
  go_wp2_with (go_at_call 35; refine (Hid.out (p := _) ?_))
  refine Lib.hid ?_
  refine F.out.mono ?_
  rintro e w4 ⟨rfl, b4, r4, bes4⟩
  have hin : ∀ b, InTab tb mb (⟨n, kd, [.pointer a], W1.heap.size⟩ :: l) b → InTab tb mb l b ∨ w.heap.size + 2 ≤ b := fun b hb => by
    rcases hb with h | h | ⟨y, hy, e⟩
    · exact .inl (.inl h)
    · exact .inl (.inr (.inl h))
    · rcases List.mem_cons.1 hy with rfl | hy
      · exact .inr (by rw [e]; exact ks)
      · exact .inl (.inr (.inr ⟨y, hy, e⟩))
  have hbs := HBS3.out.trans bes4 fun b hb => by
    rcases hin b hb with h | h
    · exact .inl h
    · exact .inr (by omega)
  have hkr : Blk w4 (w.heap.size + 1) #[.string ⟨#[]⟩, .int .i64 0] 51 := by
    unfold Blk
    rw [bes4.block _ (by have := HKR3.out.1.lt; simpa using this) (fun hb => by
      rcases hin _ hb with h | h
      · have := HH.out.lt h; omega
      · omega), Below.heap_setCell _ _ _ _ (by show w.heap.size + 1 ≠ W1.heap.size; omega)]
    exact HKR3.out.1
  have hks : ∀ y ∈ (⟨n, kd, [.pointer a], W1.heap.size⟩ :: l : List Nd), keyOf Tryz.prog 51 (keyV y.name y.kind) = some (keyLit Tryz.prog 51 y.name y.kind) := fun y hy => by
    rcases List.mem_cons.1 hy with rfl | hy
    · exact HK.out
    · exact HH.out.keys y hy
  have HT := Lib.hid (show RT tb mb most (⟨n, kd, [.pointer a], W1.heap.size⟩ :: l) w4 from ⟨b4, r4, HND.out, hks⟩)
  have HKR4 := Lib.hid hkr; have HBS := Lib.hid hbs; have HIN := Lib.hid hin
  clear b4 r4 bes4 hin hbs hkr hks F HBS3 HKR3 d2 g2 HB3 HND
  have hN : decide (((⟨n, kd, [.pointer a], W1.heap.size⟩ :: l : List Nd).length : Int) ≤ most) = false := decide_eq_false (by have := HL.out.2; simp only [List.length_cons]; omega)
  have hlnN : ∀ q, (Builtin.len_ #[67] 3 #[.map (some mb)]).run Tryz.prog (w4.drewN q) = .ok (.int .i64 ((⟨n, kd, [.pointer a], W1.heap.size⟩ :: l : List Nd).length : Int)) (w4.drewN q) := fun q => by
    have := (HT.out.body.map.block (w' := w4.drewN q) rfl).len rmap_under 3
    rwa [List.length_map] at this
  have c0 := HT.out.body.c0; have c1' := HT.out.body.c1; have ltb' := HT.out.body.lt
  have kq := HKR4.out.cell 0; have kq1 := HKR4.out.cell 1; have kf := fun j => HKR4.out.free j
  have klt := HKR4.out.lt
  generalize (⟨n, kd, [.pointer a], W1.heap.size⟩ :: l : List Nd).length = N at hlnN hN
  simp only []
  go_wp2_with fail
  go_quiet (fail)
  generalize hw5 : w4.drewN nq = w5
  have kq5 : w5.cell? ⟨w.heap.size + 1, 0, none⟩ = some (.string ⟨#[]⟩) := by rw [← hw5]; exact kq
  have kq6 : w5.cell? ⟨w.heap.size + 1, 1, none⟩ = some (.int .i64 0) := by rw [← hw5]; exact kq1
  have kf5 : ∀ j, w5.frozen? ⟨w.heap.size + 1, j, none⟩ = false := fun j => by rw [← hw5]; exact kf j
  have kl5 : w.heap.size + 1 < w5.heap.size := by rw [← hw5]; exact klt
  have HT5 := Lib.hid (show RT tb mb most (⟨n, kd, [.pointer a], W1.heap.size⟩ :: l) w5 ∧ Bes (InTab tb mb (l)) w w5 by
    rw [← hw5]; exact ⟨HT.out.keep (fun _ _ => rfl) (Nat.le_refl _), HBS.out.drewN _⟩)
  have HK5 := Lib.hid (show Blk w5 (w.heap.size + 1) #[.string ⟨#[]⟩, .int .i64 0] 51 by rw [← hw5]; exact HKR4.out)
  clear hw5 kq kq1 kf klt c0 c1' hlnN HKR4 HBS
  have e1 : (⟨n, kd, [.pointer a], W1.heap.size⟩ :: l : List Nd) = (⟨n, kd, [.pointer a], W1.heap.size⟩ :: l') ++ [z] := by rw [HLZ.out]; rfl
  have hT5 := HT5.out.1
  rw [e1] at hT5
  have HTZ := Lib.hid hT5
  have z5 : w5.cell? ⟨tb, 5, none⟩ = some (.pointer (some ⟨z.blk, 0, none⟩)) := ring_last hT5.ring
  have hz := hT5.body.node z (by simp)
  have zn := hz.name; have zk := hz.kind; have zl := hz.lt
  have lt5 := hT5.body.lt
  have DR := Lib.hid (rtab_drop_in tb mb most (⟨n, kd, [.pointer a], W1.heap.size⟩ :: l') [] z w5 hT5)
  unfold keyV at DR
  clear hT5 hz e1
  go_wp2_with (go_at_call 22; refine (Hid.out (p := _) ?_))
  refine Lib.hid ?_
  refine DR.out.mono ?_
  rintro e w6 ⟨rfl, t6, bes6, nz6⟩
  have hn6 : ¬ InTab tb mb ((⟨n, kd, [.pointer a], W1.heap.size⟩ :: l') ++ [z]) (w.heap.size + 1) := fun hb => by
    have hb' : InTab tb mb (⟨n, kd, [.pointer a], W1.heap.size⟩ :: l) (w.heap.size + 1) := by rw [HLZ.out]; exact hb
    rcases HIN.out _ hb' with h | h
    · have := HH.out.lt h; omega
    · omega
  have hk6 : Blk w6 (w.heap.size + 1) #[.string ⟨#[]⟩, .int .i64 0] 51 := by unfold Blk; rw [bes6.block _ kl5 hn6]; exact HK5.out
  rw [List.append_nil] at t6
  have HT6 := Lib.hid (And.intro t6 (HT5.out.2.trans bes6 fun b hb => by
    rcases HIN.out b (by rw [HLZ.out]; exact hb) with h | h
    · exact .inl h
    · exact .inr (by omega)))
  have kq7 : w6.cell? ⟨w.heap.size + 1, 0, none⟩ = some (.string ⟨#[]⟩) := hk6.cell 0
  have kq8 : w6.cell? ⟨w.heap.size + 1, 1, none⟩ = some (.int .i64 0) := hk6.cell 1
  have kf6 := fun j => hk6.free j
  have kl6 := hk6.lt
  have zn6 := nz6.name; have zk6 := nz6.kind; have zl6 := nz6.lt
  have HK6 := Lib.hid hk6
  clear t6 bes6 nz6 hk6 DR z5 zn zk kq5 kq6 kf5
  simp only []
  go_wp2_with fail
  have hb6 := (HK6.out.set 0 (.string z.name)).set 1 (.int .i64 z.kind)
  have hs2 := ((Bes.refl (fun b => b = w.heap.size + 1) w6).setCell (p := ⟨w.heap.size + 1, 0, none⟩) rfl (.string z.name)).setCell (p := ⟨w.heap.size + 1, 1, none⟩) rfl (.int .i64 z.kind)
  refine bodyPost_ret (results2 rfl ⟨_, rfl, loadVar_blk hb6 Tryz.underlying51 rfl info_rkey⟩ rfl) rfl ⟨⟨_, rfl⟩, W1.heap.size, by omega, ?_, HT6.out.2.trans hs2 (fun b h => .inr (by omega))⟩
  refine HT6.out.1.keep (fun b hb => hs2.block b (HT6.out.1.lt hb) ?_) hs2.size
  show ¬ b = w.heap.size + 1
  have hb' : InTab tb mb (⟨n, kd, [.pointer a], W1.heap.size⟩ :: l) b := by
    rcases hb with h | h | ⟨y, hy, e⟩
    · exact .inl h
    · exact .inr (.inl h)
    · refine .inr (.inr ⟨y, ?_, e⟩)
      rw [HLZ.out]
      rcases List.mem_cons.1 hy with h | h
      · simp [h]
      · simp [h]
  rcases HIN.out b hb' with h | h
  · have := HH.out.lt h; omega
  · omega
end Go.Proofs.YtkhpcagoggglcaaGreatDoor

/- The table's Get, walked (rrcache's table). -/
namespace Go.Proofs.YtkhpcagoggglcaaGreatDoor
open Go.RowKit Go.Maps

set_option maxRecDepth 100000 in
theorem rtab_get_in (tb mb : Nat) (most : Int) (l1 l2 : List Nd) (x : Nd) (v : Value) (w : World) (h : RT tb mb most (l1 ++ x :: l2) w) (hv : x.val = [v]) :
    Calls Tryz.prog 23 #[.pointer (some ⟨tb, 0, none⟩), keyV x.name x.kind] w fun e w' => e = .returned (.tuple #[v, .bool true]) ∧ RT tb mb most (x :: (l1 ++ l2)) w' ∧ Bes (InTab tb mb (l1 ++ x :: l2)) w w' := by
  have hx : x ∈ l1 ++ x :: l2 := by simp
  have hk : KeyOk Tryz.prog 51 x.name x.kind := h.keys x hx
  have hmb := h.body.map.lt
  have c1 := h.body.c1
  have ltb := h.body.lt
  have hlk1 : ∀ n, (Instr.lookup 67 (.map (some mb)) (.agg #[.string x.name, .int .i64 x.kind]) true).run Tryz.prog ((w.alloc (.cells #[.string x.name, .int .i64 x.kind] 51)).drewN n) = .ok (.tuple #[.pointer (some ⟨x.blk, 0, none⟩), .bool true]) ((w.alloc (.cells #[.string x.name, .int .i64 x.kind] 51)).drewN n) := fun n => rtab_at h.body hx hk _ (Below.heap_alloc w _ mb hmb)
  have HH := Lib.hid h; have HV := Lib.hid hv; have HK := Lib.hid hk
  clear h hx hmb hv hk
  unfold keyV
  go_enter Tryz.func23, Tryz.ntmps23
  go_wp2
  go_quiet (fail)
  go_wp2_with (go_at_call 34; refine (Hid.out (p := _) ?_))
  refine Lib.hid ?_
  generalize hW1 : (w.alloc (.cells #[.string x.name, .int .i64 x.kind] 51)).drewN nq = W1
  have hal : Below w.heap.size w W1 := by rw [← hW1]; exact below_drewN ((Below.refl _ _).alloc (Nat.le_refl _) _) _
  have k0 : W1.cell? ⟨w.heap.size, 0, none⟩ = some (.string x.name) := by rw [← hW1]; exact (Blk.new w _ _).cell 0
  have k1 : W1.cell? ⟨w.heap.size, 1, none⟩ = some (.int .i64 x.kind) := by rw [← hW1]; exact (Blk.new w _ _).cell 1
  have ks : w.heap.size < W1.heap.size := by rw [← hW1]; exact (Blk.new w _ 51).lt
  have h1 := HH.out.below hal
  have hni : ¬ InTab tb mb (l1 ++ x :: l2) w.heap.size := HH.out.notIn (Nat.le_refl _)
  refine (rtab_out h1.body h1.ring (fun _ h => h) h1.nodup).mono ?_
  rintro e w2 ⟨rfl, b2, r2, bes2, xx, yy, x3, x4⟩
  have hP : (l1 ++ x :: l2).Perm (x :: (l1 ++ l2)) := List.perm_middle
  have k0' := (cell_of_bes bes2 ks hni 0).trans k0
  have k1' := (cell_of_bes bes2 ks hni 1).trans k1
  have ks' := Nat.lt_of_lt_of_le ks bes2.size
  have F := Lib.hid (rtab_front b2 r2 (fun y hy => hP.mem_iff.2 hy) (hP.nodup_iff.1 h1.nodup) x3 x4)
  have HB := Lib.hid bes2; have HAL := Lib.hid hal; have HNI := Lib.hid hni
  clear b2 r2 bes2 x3 x4 k0 k1 hlk1 hal hni c1 h1
  simp only []
  go_wp2_with (go_at_call 35; refine (Hid.out (p := _) ?_))
  refine Lib.hid ?_
  refine F.out.mono ?_
  rintro e w3 ⟨rfl, b3, r3, bes3⟩
  have k0'' := (cell_of_bes bes3 ks' HNI.out 0).trans k0'
  have k1'' := (cell_of_bes bes3 ks' HNI.out 1).trans k1'
  have LK := Lib.hid (rtab_look_in tb mb most (l1 ++ x :: l2) (l1 ++ x :: l2) x v w3 b3 (by simp) HV.out HK.out)
  have HT := Lib.hid (show RT tb mb most (x :: (l1 ++ l2)) w3 from ⟨b3.perm hP hP, r3, hP.nodup_iff.1 HH.out.nodup, fun y hy => HH.out.keys y (hP.mem_iff.2 hy)⟩)
  have HB3 := Lib.hid (((Bes.of_below HAL.out : Bes (InTab tb mb (l1 ++ x :: l2)) w W1).trans1 HB.out).trans1 bes3)
  clear b3 r3 bes3 F k0' k1' ks'
  simp only []
  go_wp2_with (go_at_call 18; refine (Hid.out (p := _) ?_))
  refine Lib.hid ?_
  refine LK.out.mono ?_
  rintro e w4 ⟨rfl, hb4⟩
  have HF := Lib.hid (And.intro (HT.out.below hb4) (HB3.out.trans1 (Bes.of_below hb4)))
  clear hb4
  simp only []
  go_wp2_with fail
  go_ret2
  exact ⟨rfl, HF.out⟩
set_option maxRecDepth 100000 in
theorem rtab_get_out (tb mb : Nat) (most : Int) (l : List Nd) (n : ByteArray) (kd : Int) (w : World) (h : RT tb mb most l w) (hk : KeyOk Tryz.prog 51 n kd) (hx : ∀ x ∈ l, x.lit Tryz.prog 51 ≠ keyLit Tryz.prog 51 n kd) :
    Calls Tryz.prog 23 #[.pointer (some ⟨tb, 0, none⟩), keyV n kd] w fun e w' => e = .returned (.tuple #[.pointer none, .bool false]) ∧ Below w.heap.size w w' := by
  have hmb := h.body.map.lt
  have c1 := h.body.c1
  have ltb := h.body.lt
  have hlk1 : ∀ q, (Instr.lookup 67 (.map (some mb)) (.agg #[.string n, .int .i64 kd]) true).run Tryz.prog ((w.alloc (.cells #[.string n, .int .i64 kd] 51)).drewN q) = .ok (.tuple #[.pointer none, .bool false]) ((w.alloc (.cells #[.string n, .int .i64 kd] 51)).drewN q) := fun q => rtab_no h.body hk hx _ (Below.heap_alloc w _ mb hmb)
  have hal : ∀ q, Below w.heap.size w ((w.alloc (.cells #[.string n, .int .i64 kd] 51)).drewN q) := fun q => below_drewN ((Below.refl _ _).alloc (Nat.le_refl _) _) _
  have hlook := fun q => rtab_look_out tb mb most l l n kd _ (h.below (hal q)).body hk hx
  have HL := Lib.hid hlook; have HA := Lib.hid hal
  clear h hx hmb hk hlook hal
  unfold keyV at *
  go_enter Tryz.func23, Tryz.ntmps23
  go_wp2
  go_quiet (fail)
  go_wp2_with (go_at_call 18; refine (Hid.out (p := _) ?_))
  refine Lib.hid ?_
  refine (HL.out _).mono ?_
  rintro e w2 ⟨rfl, hb⟩
  have HF := Lib.hid ((HA.out _).trans (hb.mono (HA.out _).size))
  clear hb hlk1
  simp only []
  go_wp2_with fail
  go_ret2
  exact ⟨rfl, HF.out⟩
end Go.Proofs.YtkhpcagoggglcaaGreatDoor

/- The table's New, walked (rrcache's table). -/
namespace Go.Proofs.YtkhpcagoggglcaaGreatDoor
open Go.RowKit Go.Maps

def NewP (most : Int) (w : World) (e : Ending) (w' : World) : Prop :=
  Below w.heap.size w w' ∧ ∃ tb mb, w.heap.size ≤ tb ∧ w.heap.size ≤ mb ∧ e = .returned (.tuple #[.pointer (some ⟨tb, 0, none⟩), .int .i64 0]) ∧ RT tb mb most [] w'
theorem new_tab (most : Int) (w w1 W : World) (hw1 : w1 = w.alloc (.map #[] 0)) (hW : W = (w1.alloc (.cells #[.int .i64 most, .map (some w.heap.size), .string ⟨#[]⟩, .int .i64 0, .pointer none, .pointer (some ⟨w.heap.size + 1, 2, none⟩), .pointer (some ⟨w.heap.size + 1, 2, none⟩)] 72)).drew) : RT (w.heap.size + 1) w.heap.size most [] W := by
  have hs : w1.heap.size = w.heap.size + 1 := by rw [hw1]; simp
  have hb : Blk W (w.heap.size + 1) #[.int .i64 most, .map (some w.heap.size), .string ⟨#[]⟩, .int .i64 0, .pointer none, .pointer (some ⟨w.heap.size + 1, 2, none⟩), .pointer (some ⟨w.heap.size + 1, 2, none⟩)] 72 := by
    rw [hW, ← hs]; exact Blk.new w1 _ _
  have hm : MapV Tryz.prog 51 ptrR W w.heap.size [] := by
    have h0 := MapV.made w Tryz.prog 51 ptrR
    rw [← hw1] at h0
    refine h0.block ?_
    rw [hW]; exact Below.heap_alloc w1 _ _ (by omega)
  refine ⟨⟨hb.cell 0, hb.cell 1, fun o => hb.free o, hb.lt, by simp, by simp, hm, by simp⟩, ?_, by simp, by simp⟩
  show Links 3 W [(w.heap.size + 1, 2), (w.heap.size + 1, 2)]
  exact ⟨⟨hb.cell 6, hb.cell 5⟩, trivial⟩
set_option maxRecDepth 100000 in
theorem rtab_new (most : Int) (w : World) (h1 : 1 ≤ most) (h2 : most ≤ 100000) : Calls Tryz.prog 14 #[.int .i64 most] w (NewP most w) := by
  have q1 : decide (most < 1) = false := decide_eq_false (by omega)
  have q2 : decide ((100000 : Int) < most) = false := decide_eq_false (by omega)
  have hmm := @run_makeMap Tryz.prog
  go_enter Tryz.func14, Tryz.ntmps14
  go_wp2
  go_region
  all_goals go_wp2
  go_ret2
  refine ⟨(((Below.refl _ w).alloc (Nat.le_refl _) _).alloc (by simp) _).drew, w.heap.size + 1, w.heap.size, by omega, Nat.le_refl _, rfl, new_tab most w _ _ rfl rfl⟩
theorem rtab_new_no (most : Int) (w : World) (h : most < 1 ∨ 100000 < most) : Calls Tryz.prog 14 #[.int .i64 most] w fun e w' => e = .returned (.tuple #[.pointer none, .int .i64 1]) ∧ w = w' := by
  by_cases h1 : most < 1
  · have q1 : decide (most < 1) = true := decide_eq_true (by omega)
    go_enter Tryz.func14, Tryz.ntmps14
    go_wp2
    go_ret2
    exact ⟨rfl, rfl⟩
  · have q1 : decide (most < 1) = false := decide_eq_false (by omega)
    have q2 : decide ((100000 : Int) < most) = true := decide_eq_true (by omega)
    go_enter Tryz.func14, Tryz.ntmps14
    go_wp2
    go_ret2
    exact ⟨rfl, rfl⟩
end Go.Proofs.YtkhpcagoggglcaaGreatDoor

/- A cache of sets in memory: plain laws. -/
namespace Go.Proofs.YtkhpcagoggglcaaGreatDoor
open Go.RowKit

/-- What is known of a set. -/
structure Ent where
  set : SetD
  rank : Int
  sec : Int
  ver : Int
  til : Int
def Ent.cells (x : Ent) (dv sv : Value) : Array Value := #[.string x.set.name, .int .i64 x.set.kind, .int .i64 x.set.cls, .int .i64 x.set.ttl, dv, sv, .int .i64 x.rank, .int .i64 x.sec, .int .i64 x.ver, .int .i64 x.til]
def Ent.v (x : Ent) (dv sv : Value) : Value := .agg (x.cells dv sv)
def Ent.Good (x : Ent) : Prop := rightS x.set = true ∧ 0 ≤ x.til ∧ x.til ≤ 5000000000
/-- A key with its entry, and where they lie. -/
structure CE where
  name : ByteArray
  kind : Int
  ent : Ent
  blk : Nat
  eb : Nat
  dv : Value
  sv : Value
def CE.nd (x : CE) : Nd := ⟨x.name, x.kind, [.pointer (some ⟨x.eb, 0, none⟩)], x.blk⟩
abbrev Kv := (ByteArray × Int) × Ent
def CE.kv (x : CE) : Kv := ((x.name, x.kind), x.ent)
structure EntAt (O : Nat → Prop) (w : World) (x : CE) : Prop where
  cells : Blk w x.eb (x.ent.cells x.dv x.sv) 37
  apart : ¬ O x.eb
  data : StrsN (fun g => ¬ O g) x.dv x.ent.set.data w
  sigs : StrsN (fun g => ¬ O g) x.sv x.ent.set.sigs w
  good : x.ent.Good
theorem EntAt.keep {O : Nat → Prop} {w w' : World} {x : CE} (h : EntAt O w x) (hb : ∀ b, b < w.heap.size → ¬ O b → w'.heap[b]? = w.heap[b]?) (hs : w.heap.size ≤ w'.heap.size) : EntAt O w' x :=
  ⟨by unfold Blk; rw [hb _ h.cells.lt h.apart]; exact h.cells, h.apart, h.data.keep hb hs, h.sigs.keep hb hs, h.good⟩
theorem EntAt.turn {O O' : Nat → Prop} {w : World} {x : CE} (h : EntAt O w x) (ho : ∀ b, b < w.heap.size → O' b → O b) : EntAt O' w x :=
  ⟨h.cells, fun h' => h.apart (ho _ h.cells.lt h'), h.data.mono fun g hg hn h' => hn (ho g hg h'), h.sigs.mono fun g hg hn h' => hn (ho g hg h'), h.good⟩
/-- The cache in block c, with its table; O are the blocks that it writes, X are blocks that it does not read. -/
structure CacheAt (c tb mb : Nat) (O X : Nat → Prop) (most last : Int) (l : List CE) (w : World) : Prop where
  own : ∀ b, O b ↔ b = c ∨ InTab tb mb (l.map CE.nd) b
  cells : Blk w c #[.pointer (some ⟨tb, 0, none⟩), .int .i64 last] 54
  apart : ¬ InTab tb mb (l.map CE.nd) c
  tab : RT tb mb most (l.map CE.nd) w
  ents : ∀ x ∈ l, EntAt (fun b => O b ∨ X b) w x
  xlt : ∀ b, X b → b < w.heap.size
  xno : ∀ b, X b → ¬ O b
def OwnC (c tb mb : Nat) (l : List CE) (b : Nat) : Prop := b = c ∨ InTab tb mb (l.map CE.nd) b
theorem CacheAt.lt {c tb mb : Nat} {O X : Nat → Prop} {most last : Int} {l : List CE} {w : World} (h : CacheAt c tb mb O X most last l w) {b : Nat} (hb : O b) : b < w.heap.size := by
  rcases (h.own b).1 hb with rfl | hi
  · exact h.cells.lt
  · exact h.tab.lt hi
theorem CacheAt.below {c tb mb : Nat} {O X : Nat → Prop} {most last : Int} {l : List CE} {w w' : World} (h : CacheAt c tb mb O X most last l w) (hb : Below w.heap.size w w') : CacheAt c tb mb O X most last l w' :=
  ⟨h.own, h.cells.below hb h.cells.lt, h.apart, h.tab.below hb, fun x hx => (h.ents x hx).keep (fun b hb' _ => hb.block b hb') hb.size, fun b hb' => Nat.lt_of_lt_of_le (h.xlt b hb') hb.size, h.xno⟩
/-- The table has turned (a step of its own), the cache's block and the entries are as they were. -/
theorem CacheAt.turn {c tb mb : Nat} {O X : Nat → Prop} {most last : Int} {l l' : List CE} {w w' : World} (h : CacheAt c tb mb O X most last l w) (hT : RT tb mb most (l'.map CE.nd) w') (hb : Bes (InTab tb mb (l.map CE.nd)) w w')
    (hin : ∀ b, InTab tb mb (l'.map CE.nd) b → InTab tb mb (l.map CE.nd) b ∨ w.heap.size ≤ b) (hm : ∀ x ∈ l', x ∈ l) : CacheAt c tb mb (OwnC c tb mb l') X most last l' w' := by
  have hc : ¬ InTab tb mb (l'.map CE.nd) c := fun hi => by
    rcases hin c hi with h1 | h1
    · exact h.apart h1
    · have := h.cells.lt; omega
  have hxo : ∀ b, X b → ¬ OwnC c tb mb l' b := fun b hx ho => by
    rcases ho with rfl | hi
    · exact h.xno _ hx ((h.own _).2 (.inl rfl))
    · rcases hin b hi with h3 | h3
      · exact h.xno _ hx ((h.own b).2 (.inr h3))
      · have := h.xlt b hx; omega
  refine ⟨fun b => Iff.rfl, by unfold Blk; rw [hb.block c h.cells.lt h.apart]; exact h.cells, hc, hT, fun x hx => ?_, fun b hb' => Nat.lt_of_lt_of_le (h.xlt b hb') hb.size, hxo⟩
  have h1 := (h.ents x (hm x hx)).keep (w' := w') (fun b hb' hn => hb.block b hb' fun hi => hn (.inl ((h.own b).2 (.inr hi)))) hb.size
  have h2 := h.ents x (hm x hx)
  -- blocks made since are none of the entry's
  have key : ∀ b, b < w.heap.size → ¬ (O b ∨ X b) → ¬ (OwnC c tb mb l' b ∨ X b) := fun b hb' hn ho => by
    rcases ho with (rfl | hi) | hx
    · exact hn (.inl ((h.own b).2 (.inl rfl)))
    · rcases hin b hi with h3 | h3
      · exact hn (.inl ((h.own b).2 (.inr h3)))
      · omega
    · exact hn (.inr hx)
  refine ⟨h1.cells, key _ h2.cells.lt h2.apart, ?_, ?_, h2.good⟩
  · exact (h2.data.mono (T := fun g => ¬ (O g ∨ X g) ∧ g < w.heap.size) fun g hg hn => ⟨hn, hg⟩).keep (fun g hg hS => hb.block g hS.2 fun hi => hS.1 (.inl ((h.own g).2 (.inr hi)))) hb.size |>.mono fun g _ hS => key g hS.2 hS.1
  · exact (h2.sigs.mono (T := fun g => ¬ (O g ∨ X g) ∧ g < w.heap.size) fun g hg hn => ⟨hn, hg⟩).keep (fun g hg hS => hb.block g hS.2 fun hi => hS.1 (.inl ((h.own g).2 (.inr hi)))) hb.size |>.mono fun g _ hS => key g hS.2 hS.1
/-- A step of the cache's own: the table has turned, a version may have been given; entries are old ones, or are told anew. -/
theorem CacheAt.turn2 {c tb mb : Nat} {O X : Nat → Prop} {most last last' : Int} {l l' : List CE} {w w' : World} (h : CacheAt c tb mb O X most last l w) (hT : RT tb mb most (l'.map CE.nd) w') (hb : Bes O w w')
    (hcc : Blk w' c #[.pointer (some ⟨tb, 0, none⟩), .int .i64 last'] 54) (hin : ∀ b, InTab tb mb (l'.map CE.nd) b → InTab tb mb (l.map CE.nd) b ∨ w.heap.size ≤ b) (hm : ∀ x ∈ l', x ∈ l ∨ EntAt (fun b => OwnC c tb mb l' b ∨ X b) w' x) :
    CacheAt c tb mb (OwnC c tb mb l') X most last' l' w' := by
  have hc : ¬ InTab tb mb (l'.map CE.nd) c := fun hi => by
    rcases hin c hi with h1 | h1
    · exact h.apart h1
    · have := h.cells.lt; omega
  have hxo : ∀ b, X b → ¬ OwnC c tb mb l' b := fun b hx ho => by
    rcases ho with rfl | hi
    · exact h.xno _ hx ((h.own _).2 (.inl rfl))
    · rcases hin b hi with h3 | h3
      · exact h.xno _ hx ((h.own b).2 (.inr h3))
      · have := h.xlt b hx; omega
  refine ⟨fun b => Iff.rfl, hcc, hc, hT, fun x hx => ?_, fun b hb' => Nat.lt_of_lt_of_le (h.xlt b hb') hb.size, hxo⟩
  rcases hm x hx with hx | hx
  case inr => exact hx
  have h2 := h.ents x hx
  have h1 := h2.keep (w' := w') (fun b hb' hn => hb.block b hb' fun h => hn (.inl h)) hb.size
  have key : ∀ b, b < w.heap.size → ¬ (O b ∨ X b) → ¬ (OwnC c tb mb l' b ∨ X b) := fun b hb' hn ho => by
    rcases ho with (rfl | hi) | hx
    · exact hn (.inl ((h.own b).2 (.inl rfl)))
    · rcases hin b hi with h3 | h3
      · exact hn (.inl ((h.own b).2 (.inr h3)))
      · omega
    · exact hn (.inr hx)
  refine ⟨h1.cells, key _ h2.cells.lt h2.apart, ?_, ?_, h2.good⟩
  · exact (h2.data.mono (T := fun g => ¬ (O g ∨ X g) ∧ g < w.heap.size) fun g hg hn => ⟨hn, hg⟩).keep (fun g hg hS => hb.block g hS.2 fun h => hS.1 (.inl h)) hb.size |>.mono fun g _ hS => key g hS.2 hS.1
  · exact (h2.sigs.mono (T := fun g => ¬ (O g ∨ X g) ∧ g < w.heap.size) fun g hg hn => ⟨hn, hg⟩).keep (fun g hg hS => hb.block g hS.2 fun h => hS.1 (.inl h)) hb.size |>.mono fun g _ hS => key g hS.2 hS.1
/-- A cache that knows this. -/
def CacheIX (c : Nat) (O X : Nat → Prop) (most last : Int) (m : List Kv) (w : World) : Prop := ∃ tb mb l, l.map CE.kv = m ∧ CacheAt c tb mb O X most last l w
abbrev NoX : Nat → Prop := fun _ => False
abbrev CacheIs (c : Nat) (O : Nat → Prop) (most last : Int) (m : List Kv) (w : World) : Prop := CacheIX c O NoX most last m w
theorem CacheIX.below {c : Nat} {O X : Nat → Prop} {most last : Int} {m : List Kv} {w w' : World} (h : CacheIX c O X most last m w) (hb : Below w.heap.size w w') : CacheIX c O X most last m w' := by
  obtain ⟨tb, mb, l, e, h⟩ := h
  exact ⟨tb, mb, l, e, h.below hb⟩
theorem CacheIX.lt {c : Nat} {O X : Nat → Prop} {most last : Int} {m : List Kv} {w : World} (h : CacheIX c O X most last m w) {b : Nat} (hb : O b) : b < w.heap.size := by
  obtain ⟨tb, mb, l, e, h⟩ := h
  exact h.lt hb
/-- Blocks that the cache does not read are written; others, new ones, may be counted to them from now on. -/
theorem CacheIX.step {c : Nat} {O X X' : Nat → Prop} {most last : Int} {m : List Kv} {w w' : World} (h : CacheIX c O X most last m w) (hb : Bes X w w') (hX : ∀ b, X' b → X b ∨ w.heap.size ≤ b) (hl : ∀ b, X' b → b < w'.heap.size) : CacheIX c O X' most last m w' := by
  obtain ⟨tb, mb, l, e, h⟩ := h
  have hk : ∀ b, O b → w'.heap[b]? = w.heap[b]? := fun b ho => hb.block b (h.lt ho) fun hx => h.xno b hx ho
  refine ⟨tb, mb, l, e, h.own, ?_, h.apart, h.tab.keep (fun b hi => hk b ((h.own b).2 (.inr hi))) hb.size, fun x hx => ?_, hl, fun b hx ho => ?_⟩
  · unfold Blk; rw [hk c ((h.own c).2 (.inl rfl))]; exact h.cells
  · have h1 := (h.ents x hx).turn (O' := fun b => O b ∨ X b ∨ X' b) fun b hb' ho => by
      rcases ho with ho | ho | ho
      · exact .inl ho
      · exact .inr ho
      · rcases hX b ho with h1 | h1
        · exact .inr h1
        · omega
    have h2 := h1.keep (w' := w') (fun b hb' hn => hb.block b hb' fun hx' => hn (.inr (.inl hx'))) hb.size
    exact h2.turn fun b _ ho => by
      rcases ho with ho | ho
      · exact .inl ho
      · exact .inr (.inr ho)
  · rcases hX b hx with h1 | h1
    · exact h.xno b h1 ho
    · have := h.lt ho; omega
def isK (n : ByteArray) (k : Int) (e : Kv) : Bool := decide (e.1 = (n, k))
theorem CE.isK_kv (x : CE) (n : ByteArray) (k : Int) : isK n k x.kv = decide (x.name = n ∧ x.kind = k) := by
  unfold isK CE.kv
  rw [Bool.eq_iff_iff, decide_eq_true_eq, decide_eq_true_eq, Prod.mk.injEq]
theorem inTab_sub {tb mb b : Nat} {l l' : List CE} (h : ∀ y ∈ l', y ∈ l) (hb : InTab tb mb (l'.map CE.nd) b) : InTab tb mb (l.map CE.nd) b := by
  rcases hb with h1 | h1 | ⟨x, hx, h1⟩
  · exact .inl h1
  · exact .inr (.inl h1)
  · obtain ⟨y, hy, rfl⟩ := List.mem_map.1 hx
    exact .inr (.inr ⟨y.nd, List.mem_map.2 ⟨y, h y hy, rfl⟩, h1⟩)
theorem find_split {l : List CE} {n : ByteArray} {k : Int} {e : Kv} (h : (l.map CE.kv).find? (isK n k) = some e) :
    ∃ l1 x l2, l = l1 ++ x :: l2 ∧ x.name = n ∧ x.kind = k ∧ x.kv = e ∧ (l.map CE.kv).eraseP (isK n k) = (l1 ++ l2).map CE.kv := by
  induction l with
  | nil => simp at h
  | cons y l ih =>
    rw [List.map_cons, List.find?_cons] at h
    cases hy : isK n k y.kv with
    | true =>
      rw [hy] at h
      simp only [Option.some.injEq] at h
      have h2 := hy
      rw [CE.isK_kv, decide_eq_true_eq] at h2
      exact ⟨[], y, l, rfl, h2.1, h2.2, h, by rw [List.map_cons, List.eraseP_cons_of_pos hy]; rfl⟩
    | false =>
      rw [hy] at h
      obtain ⟨l1, x, l2, e1, e2, e3, e4, e5⟩ := ih h
      exact ⟨y :: l1, x, l2, by rw [e1]; rfl, e2, e3, e4, by rw [List.map_cons, List.eraseP_cons_of_neg (by rw [hy]; simp), e5]; rfl⟩
theorem find_no {l : List CE} {n : ByteArray} {k : Int} (h : (l.map CE.kv).find? (isK n k) = none) : ∀ x ∈ l, ¬ (x.name = n ∧ x.kind = k) := by
  intro x hx he
  rw [List.find?_eq_none] at h
  refine h x.kv (List.mem_map.2 ⟨x, hx, rfl⟩) ?_
  rw [CE.isK_kv, decide_eq_true_eq]; exact he
/-- What Get makes of a cache, and what it tells. -/
def getR (m : List Kv) (n : ByteArray) (k t : Int) : List Kv × Option Ent :=
  match m.find? (isK n k) with
  | none => (m, none)
  | some e => if isTimeR t = false then (m, none) else if e.2.til ≤ t then (m.eraseP (isK n k), none) else (e :: m.eraseP (isK n k), some e.2)
def zeroEnt : Ent := ⟨⟨⟨#[]⟩, 0, 0, 0, [], []⟩, 0, 0, 0, 0⟩
def Ent.told (x : Ent) (t : Int) : Ent := { x with set := { x.set with ttl := min (x.til - t) 604800 } }
/-- The cache behind a call: what it knows, what it writes; all else is as it was. -/
def BehindX (c : Nat) (O X : Nat → Prop) (most last : Int) (m : List Kv) (w w' : World) (O' : Nat → Prop) : Prop :=
  CacheIX c O' X most last m w' ∧ (∀ b, O' b → O b ∨ w.heap.size ≤ b) ∧ Bes O w w'
def GotX (c : Nat) (O X : Nat → Prop) (most last t : Int) (r : List Kv × Option Ent) (w : World) (e : Ending) (w' : World) : Prop :=
  ∃ O', BehindX c O X most last r.1 w w' O' ∧ match r.2 with
    | none => e = .returned (.tuple #[zeroEnt.v (.slice none 0 0) (.slice none 0 0), .bool false])
    | some x => ∃ dv sv, e = .returned (.tuple #[(x.told t).v dv sv, .bool true]) ∧ StrsN (fun g => w.heap.size ≤ g ∧ ¬ O' g) dv x.set.data w' ∧ StrsN (fun g => w.heap.size ≤ g ∧ ¬ O' g) sv x.set.sigs w'
abbrev Behind (c : Nat) (O : Nat → Prop) (most last : Int) (m : List Kv) (w w' : World) (O' : Nat → Prop) : Prop := BehindX c O NoX most last m w w' O'
abbrev GotP (c : Nat) (O : Nat → Prop) (most last t : Int) (r : List Kv × Option Ent) (w : World) (e : Ending) (w' : World) : Prop := GotX c O NoX most last t r w e w'
/-- Behind the table's Put of a new entry: the cache knows it, too. -/
theorem put_behind {c tb mb : Nat} {O X : Nat → Prop} {most last last' : Int} {l l0 : List CE} {w W8 W9 : World} {y : CE} (HC : CacheAt c tb mb O X most last l w) (hsub : ∀ x ∈ l0, x ∈ l) (heb : Blk W8 y.eb (y.ent.cells y.dv y.sv) 37)
    (hcc : Blk W8 c #[.pointer (some ⟨tb, 0, none⟩), .int .i64 last'] 54) (hb8 : Bes (fun b => b = c) w W8) (hdv : StrsN (fun g => w.heap.size ≤ g ∧ g ≠ y.eb) y.dv y.ent.set.data W8) (hsv : StrsN (fun g => w.heap.size ≤ g ∧ g ≠ y.eb) y.sv y.ent.set.sigs W8)
    (hle : w.heap.size ≤ y.eb) (hgood : y.ent.Good) (t9 : RT tb mb most ((y :: l0).map CE.nd) W9) (b9 : Bes (InTab tb mb (l.map CE.nd)) W8 W9) (hblk : InTab tb mb (l.map CE.nd) y.blk ∨ W8.heap.size ≤ y.blk) :
    BehindX c O X most last' ((y :: l0).map CE.kv) w W9 (OwnC c tb mb (y :: l0)) := by
  have hold : ∀ b, InTab tb mb (l.map CE.nd) b → b < w.heap.size := fun b hi => HC.tab.lt hi
  have hcw := HC.cells.lt
  have h8s := hb8.size
  have hel := heb.lt
  have hin8 : ∀ b, InTab tb mb ((y :: l0).map CE.nd) b → InTab tb mb (l.map CE.nd) b ∨ W8.heap.size ≤ b := fun b hi => by
    rcases hi with h | h | ⟨x, hx, h⟩
    · exact .inl (.inl h)
    · exact .inl (.inr (.inl h))
    · obtain ⟨z, hz, rfl⟩ := List.mem_map.1 hx
      rcases List.mem_cons.1 hz with rfl | hz
      · rw [h]; exact hblk
      · exact .inl (.inr (.inr ⟨z.nd, List.mem_map.2 ⟨z, hsub z hz, rfl⟩, h⟩))
  have hin : ∀ b, InTab tb mb ((y :: l0).map CE.nd) b → InTab tb mb (l.map CE.nd) b ∨ w.heap.size ≤ b := fun b hi => by
    rcases hin8 b hi with h | h
    · exact .inl h
    · exact .inr (by omega)
  have hbs : Bes O w W9 := (hb8.mono (T := O) fun b _ e => (HC.own b).2 (.inl e)).trans1 (b9.mono fun b _ hi => (HC.own b).2 (.inr hi))
  have hcc9 : Blk W9 c #[.pointer (some ⟨tb, 0, none⟩), .int .i64 last'] 54 := by unfold Blk; rw [b9.block c hcc.lt HC.apart]; exact hcc
  have hnew : ∀ g, w.heap.size ≤ g → g < W8.heap.size → ¬ (OwnC c tb mb (y :: l0) g ∨ X g) := fun g h1 h2 ho => by
    rcases ho with (h | h) | h
    · omega
    · rcases hin8 g h with h | h
      · have := hold g h; omega
      · omega
    · have := HC.xlt g h; omega
  have hkeep : ∀ g, g < W8.heap.size → w.heap.size ≤ g → W9.heap[g]? = W8.heap[g]? := fun g h1 h2 => b9.block g h1 fun hi => by have := hold g hi; omega
  have hy : EntAt (fun b => OwnC c tb mb (y :: l0) b ∨ X b) W9 y := by
    refine ⟨by unfold Blk; rw [hkeep _ hel hle]; exact heb, hnew _ hle hel, ?_, ?_, hgood⟩
    · exact ((hdv.mono (T := fun g => w.heap.size ≤ g ∧ g < W8.heap.size) fun g hg h => ⟨h.1, hg⟩).keep (fun g hg h => hkeep g h.2 h.1) b9.size).mono fun g _ h => hnew g h.1 h.2
    · exact ((hsv.mono (T := fun g => w.heap.size ≤ g ∧ g < W8.heap.size) fun g hg h => ⟨h.1, hg⟩).keep (fun g hg h => hkeep g h.2 h.1) b9.size).mono fun g _ h => hnew g h.1 h.2
  refine ⟨⟨tb, mb, y :: l0, rfl, HC.turn2 t9 hbs hcc9 hin fun x hx => ?_⟩, fun b hb => ?_, hbs⟩
  · rcases List.mem_cons.1 hx with rfl | hx
    · exact .inr hy
    · exact .inl (hsub x hx)
  · rcases hb with h | h
    · exact .inl ((HC.own b).2 (.inl h))
    · rcases hin b h with h | h
      · exact .inl ((HC.own b).2 (.inr h))
      · exact .inr h
end Go.Proofs.YtkhpcagoggglcaaGreatDoor

