import Derived.Test.YtkhpcagoggglcaaGreatDoorVe13
import Derived.Test.YtkhpcagoggglcaaGreatDoorVe8
import Derived.Deep.RegionHeld3
import Derived.Deep.DeepCutAuto
/- What a cache tells was put as it is told: the plain law. -/
namespace Go.Proofs.YtkhpcagoggglcaaGreatDoor
open Go.RowKit

theorem isK_iff {n : ByteArray} {k : Int} {e : Kv} : isK n k e = true ↔ e.1 = (n, k) := by unfold isK; exact decide_eq_true_iff
theorem erase_keys {n : ByteArray} {k : Int} : ∀ {m : List Kv}, (m.map (·.1)).Nodup → ∀ x ∈ m.eraseP (isK n k), x.1 ≠ (n, k)
  | [], _, x, hx => by simp at hx
  | y :: m, h, x, hx => by
    rw [List.map_cons, List.nodup_cons] at h
    cases hy : isK n k y with
    | true =>
      rw [List.eraseP_cons_of_pos hy] at hx
      intro e
      exact h.1 (List.mem_map.2 ⟨x, hx, by rw [e, ← isK_iff.1 hy]⟩)
    | false =>
      rw [List.eraseP_cons_of_neg (by rw [hy]; simp)] at hx
      rcases List.mem_cons.1 hx with rfl | hx
      · intro e; rw [isK_iff.2 e] at hy; cases hy
      · exact erase_keys h.2 x hx
theorem erase_nodup {n : ByteArray} {k : Int} {m : List Kv} (h : (m.map (·.1)).Nodup) : ((m.eraseP (isK n k)).map (·.1)).Nodup :=
  (List.eraseP_sublist.map _).nodup h
theorem cons_nodup {e : Kv} {m : List Kv} (h : (m.map (·.1)).Nodup) (hn : ∀ x ∈ m, x.1 ≠ e.1) : ((e :: m).map (·.1)).Nodup := by
  rw [List.map_cons, List.nodup_cons]
  exact ⟨fun hm => by obtain ⟨x, hx, he⟩ := List.mem_map.1 hm; exact hn x hx he, h⟩
/-- Which deed a known entry comes of: nothing that counts as much was put there since. -/
structure Orig (now : Int) (L1 : List DeedD) (d : DeedD) (L2 : List DeedD) (e : Kv) : Prop where
  set : e.2.set = d.set
  key : e.1 = (nameLower d.set.name, d.set.kind)
  rank : e.2.rank = d.rank
  til : e.2.til = d.now + min d.set.ttl 604800
  ttl : 1 ≤ d.set.ttl
  now : 0 ≤ d.now ∧ d.now ≤ now
  right : rightS d.set = true
  since : ∀ d' ∈ L2, d'.set.kind = d.set.kind → nameLower d'.set.name = nameLower d.set.name → d'.set.ttl ≠ 0 → d'.rank < d.rank
structure FreshI (now : Int) (m : List Kv) (L : List DeedD) : Prop where
  orig : ∀ e ∈ m, ∃ L1 d L2, L = L1 ++ d :: L2 ∧ Orig now L1 d L2 e
  nodup : (m.map (·.1)).Nodup
  good : ∀ d ∈ L, rightS d.set = true ∧ 1 ≤ d.rank ∧ d.rank ≤ 4 ∧ 0 ≤ d.now ∧ d.now < 4294967296
  rank : ∀ e ∈ m, e.2.rank ≤ 4
theorem Orig.later {now now' : Int} {L1 L2 : List DeedD} {d : DeedD} {e : Kv} (h : Orig now L1 d L2 e) (hn : now ≤ now') : Orig now' L1 d L2 e :=
  ⟨h.set, h.key, h.rank, h.til, h.ttl, ⟨h.now.1, by have := h.now.2; omega⟩, h.right, h.since⟩
theorem Orig.more {now : Int} {L1 L2 : List DeedD} {d q : DeedD} {e : Kv} (h : Orig now L1 d L2 e) (hq : q.set.kind = d.set.kind → nameLower q.set.name = nameLower d.set.name → q.set.ttl ≠ 0 → q.rank < d.rank) : Orig now L1 d (L2 ++ [q]) e :=
  ⟨h.set, h.key, h.rank, h.til, h.ttl, h.now, h.right, fun d' hd => by
    rcases List.mem_append.1 hd with hd | hd
    · exact h.since d' hd
    · rw [List.mem_singleton.1 hd]; exact hq⟩
theorem FreshI.later {now now' : Int} {m : List Kv} {L : List DeedD} (h : FreshI now m L) (hn : now ≤ now') : FreshI now' m L :=
  ⟨fun e he => by obtain ⟨L1, d, L2, h1, h2⟩ := h.orig e he; exact ⟨L1, d, L2, h1, h2.later hn⟩, h.nodup, h.good, h.rank⟩
theorem FreshI.sub {now : Int} {m m' : List Kv} {L : List DeedD} (h : FreshI now m L) (hs : ∀ x ∈ m', x ∈ m) (hn : (m'.map (·.1)).Nodup) : FreshI now m' L :=
  ⟨fun e he => h.orig e (hs e he), hn, h.good, fun e he => h.rank e (hs e he)⟩
theorem fresh_nil : FreshI 0 [] [] := ⟨by simp, by simp, by simp, by simp⟩
/-- What Put keeps of it: refused. -/
theorem fresh_bad {most last now : Int} {m : List Kv} {s : SetD} {rank sec : Int} (hok : putOk s rank sec now = false) : putR most last m s rank sec now = (m, last, false, 1) := by rw [putR, if_pos hok]
/-- What Put keeps of it: a right set is over, or stays behind one that counts more, or is kept. -/
theorem fresh_put {last now : Int} {m : List Kv} {L : List DeedD} {d : DeedD} (h : FreshI now m L) (hl : (m.length : Int) + 1 ≤ 1000) (hn : d.now = now) (hok : putOk d.set d.rank d.sec now = true) :
    ∃ m2 last2 kept, putR 1000 last m d.set d.rank d.sec now = (m2, last2, kept, 0) ∧ FreshI now m2 (L ++ [d]) ∧ m2.length ≤ m.length + 1 ∧ last ≤ last2 ∧ last2 ≤ last + 1 ∧ (kept = false → 1 ≤ d.set.ttl → d.rank ≠ 4) := by
  have ht := rk_ttl hok
  have hrk : 1 ≤ d.rank ∧ d.rank ≤ 4 := by
    simp only [putOk, Bool.and_eq_true, decide_eq_true_eq] at hok
    exact ⟨hok.1.1.1.1.2, hok.1.1.1.2⟩
  have hgood : ∀ q ∈ L ++ [d], rightS q.set = true ∧ 1 ≤ q.rank ∧ q.rank ≤ 4 ∧ 0 ≤ q.now ∧ q.now < 4294967296 := fun q hq => by
    rcases List.mem_append.1 hq with hq | hq
    · exact h.good q hq
    · rw [List.mem_singleton.1 hq]; exact ⟨ht.2.2.2.2, hrk.1, hrk.2, by omega, by omega⟩
  have hstay : (∀ e ∈ m, e.1 = (nameLower d.set.name, d.set.kind) → d.set.ttl ≠ 0 → d.rank < e.2.rank) → FreshI now m (L ++ [d]) := fun hs => by
    refine ⟨fun e he => ?_, h.nodup, hgood, h.rank⟩
    obtain ⟨L1, q, L2, h1, h2⟩ := h.orig e he
    refine ⟨L1, q, L2 ++ [d], by rw [h1]; simp, h2.more fun e1 e2 e3 => ?_⟩
    rw [← h2.rank]
    exact hs e he (by rw [h2.key, e1, e2]) e3
  cases hst : putStay m d.set d.rank now with
  | true =>
    refine ⟨m, last, false, by rw [putR, if_neg (by rw [hok]; simp), if_pos hst], ?_, Nat.le_succ _, Int.le_refl _, by omega, ?_⟩
    · by_cases hz : min d.set.ttl 604800 = 0
      · exact hstay fun e _ _ h0 => absurd (by omega) h0
      · refine hstay fun e he hk h0 => ?_
        rw [putStay, decide_eq_false hz, Bool.false_or, findPut] at hst
        split at hst
        · rename_i o ho
          simp only [Bool.and_eq_true, decide_eq_true_eq] at hst
          have hom := List.mem_of_find?_eq_some ho
          have hok := isK_iff.1 (List.find?_some ho)
          have : e = o := by
            have hinj : ∀ (l : List Kv), (l.map (·.1)).Nodup → ∀ a ∈ l, ∀ b ∈ l, a.1 = b.1 → a = b := fun l hl a ha b hb hab => inj_map hl ha hb hab
            exact hinj m h.nodup e he o hom (hk.trans hok.symm)
          rw [this]; exact hst.2
        · cases hst
    · intro _ h1 h4
      by_cases hz : min d.set.ttl 604800 = 0
      · omega
      · rw [putStay, decide_eq_false hz, Bool.false_or, findPut] at hst
        split at hst
        · rename_i o ho
          simp only [Bool.and_eq_true, decide_eq_true_eq] at hst
          have := h.rank o (List.mem_of_find?_eq_some ho)
          omega
        · cases hst
  | false =>
    have hb : last ≤ putL m d.set last ∧ putL m d.set last ≤ last + 1 := by unfold putL; split <;> omega
    have httl : 1 ≤ d.set.ttl := by
      rw [putStay, Bool.or_eq_false_iff] at hst
      have := of_decide_eq_false hst.1
      omega
    refine ⟨_, _, true, by rw [putR, if_neg (by rw [hok]; simp), if_neg (by rw [hst]; simp)], ?_, (len_putM (by omega) (by omega)).2, hb.1, hb.2, fun h => by cases h⟩
    have hE : Orig now L d [] (putE m d.set d.rank d.sec now last) := ⟨rfl, rfl, rfl, by rw [hn]; rfl, httl, by omega, ht.2.2.2.2, by simp⟩
    have hmk : ∃ r : List Kv, putM 1000 m (nameLower d.set.name) d.set.kind (putE m d.set d.rank d.sec now last) = putE m d.set d.rank d.sec now last :: r ∧ (∀ x ∈ r, x ∈ m) ∧ (r.map (·.1)).Nodup ∧ ∀ x ∈ r, x.1 ≠ (nameLower d.set.name, d.set.kind) := by
      unfold putM
      cases hf : m.find? (isK (nameLower d.set.name) d.set.kind) with
      | some o => exact ⟨_, rfl, fun x hx => List.mem_of_mem_eraseP hx, erase_nodup h.nodup, erase_keys h.nodup⟩
      | none =>
        simp only []
        rw [if_pos (by omega)]
        exact ⟨m, rfl, fun x hx => hx, h.nodup, fun x hx e => by
          have := List.find?_eq_none.1 hf x hx
          exact this (isK_iff.2 e)⟩
    obtain ⟨r, hr, hrm, hrn, hrk2⟩ := hmk
    rw [hr]
    refine ⟨fun e he => ?_, cons_nodup hrn fun x hx => hrk2 x hx, hgood, fun e he => ?_⟩
    · rcases List.mem_cons.1 he with rfl | he
      · exact ⟨L, d, [], by simp, hE⟩
      · obtain ⟨L1, q, L2, h1, h2⟩ := h.orig e (hrm e he)
        refine ⟨L1, q, L2 ++ [d], by rw [h1]; simp, h2.more fun e1 e2 _ => ?_⟩
        exact absurd (by rw [h2.key, e1, e2]) (hrk2 e he)
    · rcases List.mem_cons.1 he with rfl | he
      · exact hrk.2
      · exact h.rank e (hrm e he)
/-- What Get keeps of it, and of what deed it tells. -/
theorem fresh_get {now : Int} {m : List Kv} {L : List DeedD} {n : ByteArray} {k : Int} (h : FreshI now m L) :
    FreshI now (getR m n k now).1 L ∧ (getR m n k now).1.length ≤ m.length ∧ ∀ x, (getR m n k now).2 = some x → now < x.til ∧ ∃ L1 d L2, L = L1 ++ d :: L2 ∧ Orig now L1 d L2 ((n, k), x) := by
  unfold getR
  cases hf : m.find? (isK n k) with
  | none => exact ⟨h, Nat.le_refl _, fun x hx => by cases hx⟩
  | some e =>
    simp only []
    have hem := List.mem_of_find?_eq_some hf
    have hek := isK_iff.1 (List.find?_some hf)
    split
    · exact ⟨h, Nat.le_refl _, fun x hx => by cases hx⟩
    · split
      · exact ⟨h.sub (fun x hx => List.mem_of_mem_eraseP hx) (erase_nodup h.nodup), List.length_eraseP_le, fun x hx => by cases hx⟩
      · refine ⟨h.sub (fun x hx => ?_) (cons_nodup (erase_nodup h.nodup) fun x hx => by rw [hek]; exact erase_keys h.nodup x hx), ?_, fun x hx => ?_⟩
        · rcases List.mem_cons.1 hx with rfl | hx
          · exact hem
          · exact List.mem_of_mem_eraseP hx
        · have := List.length_eraseP_of_mem hem (List.find?_some hf)
          have : 0 < m.length := List.length_pos_of_mem hem
          simp only [List.length_cons]; omega
        · obtain rfl := Option.some.inj hx
          obtain ⟨L1, d, L2, h1, h2⟩ := h.orig e hem
          refine ⟨by omega, L1, d, L2, h1, ?_⟩
          have : e = ((n, k), e.2) := by rw [← hek]
          rw [← this]; exact h2
/-- What the deed is, as it is told. -/
theorem Orig.told {now : Int} {L1 L2 : List DeedD} {d : DeedD} {n : ByteArray} {k : Int} {x : Ent} (h : Orig now L1 d L2 ((n, k), x)) (hn : now < x.til) :
    sameS d.set (x.told now).set = true ∧ d.rank = (x.told now).rank ∧ (x.told now).set.ttl = min d.set.ttl 604800 - (now - d.now) := by
  have h1 := h.til
  have h2 := h.now
  have h3 := h.ttl
  simp only at h1
  refine ⟨?_, h.rank.symm, ?_⟩
  · have hr : rightS x.set = true := by have := h.set; simp only at this; rw [this]; exact h.right
    have := sameS_symm (rightS_ttl (t := min (x.til - now) 604800) hr (by omega) (by omega))
    have hs := h.set
    simp only at hs
    rw [← hs]
    exact this
  · show min (x.til - now) 604800 = _
    omega
end Go.Proofs.YtkhpcagoggglcaaGreatDoor

/- A row of deeds that a caller keeps beside a cache. -/
namespace Go.Proofs.YtkhpcagoggglcaaGreatDoor
open Go.RowKit

theorem info_deed : (Tryz.prog.info? 32).map (fun i => (i.zero, i.size, i.bytes)) = some (some (.agg #[.int .i64 0, .string ⟨#[]⟩, .int .i64 0, .int .i64 0, .int .i64 0, .slice none 0 0, .slice none 0 0, .int .i64 0, .int .i64 0, .int .i64 0, .int .i64 0]), 11, 128) := by kernel_rfl
/-- A deed that was kept, with its set's two rows. -/
structure FD where
  d : DeedD
  dv : Value
  sv : Value
def FD.cells (x : FD) : List Value := (x.d.cells x.dv x.sv).toList
/-- A row of deeds of the call's own. -/
def OwnD (base : Nat) (v : Value) (l : List FD) (w : World) : Prop := w.ownsRow base 32 11 v l.length (l.flatMap FD.cells)
theorem ownD_cell {base : Nat} {g n cap : Nat} {l : List FD} {w : World} (h : OwnD base (.slice (some ⟨g, 0, none⟩) n cap) l w) (k : Nat) (hk : k < l.length) (i : Nat) (hi : i < 11) : w.cell? ⟨g, k * 11 + i, none⟩ = l[k].cells[i]? := by
  rcases h.2 with ⟨h0, _⟩ | ⟨g', cap', cur, e, hb, hg, hn, hm, hsz, htk⟩
  · cases h0
  · obtain ⟨rfl, rfl, rfl⟩ : g = g' ∧ n = l.length ∧ cap = cap' := by
      injection e with e1 e2 e3
      injection e1 with e1
      injection e1 with e1
      exact ⟨e1, e2, e3⟩
    rw [cell_of_row w g (k * 11 + i) cur 32 (0, 0) hg, ← flat_get FD.cells 11 l (fun x _ => rfl) k i hk hi, ← htk, List.getElem?_take_of_lt (by omega), Array.getElem?_toList]
theorem deed_one (x : FD) (h1 : x.dv.oneCell' = true) (h2 : x.sv.oneCell' = true) : ∀ u ∈ x.cells, u.oneCell' = true := by
  intro u hu
  simp only [FD.cells, DeedD.cells, List.mem_cons, List.not_mem_nil, or_false] at hu
  rcases hu with rfl | rfl | rfl | rfl | rfl | rfl | rfl | rfl | rfl | rfl | rfl <;> first | rfl | assumption
theorem ownD_app {ops : Array Oper} {rest : List Oper} {o : Oper} {a : Act} {Q : Exit → Act → World → Prop} {base : Nat} {v : Value} {l : List FD} {W : World} (HO : OwnD base v l W) (hbase : base ≤ W.heap.size) (x : FD) (h1 : x.dv.oneCell' = true) (h2 : x.sv.oneCell' = true) (g c : Nat)
    (hsrc : Blk W g (x.d.cells x.dv x.sv) 32) (hl : l.length ≤ 100000)
    (hgd : o.guard = none) (s y : Operand) (ho : o.op = .call { callee := .builtin .append, args := #[s, y], argTypes := #[22, 22] }) (hs : a.eval s = v) (hx : a.eval y = .slice (some ⟨g, 0, none⟩) 1 c)
    (h : ∀ v1 w1, OwnD base v1 (l ++ [x]) w1 → Bes (fun b => v.ownBlock = some b) W w1 → (∀ b, v1.ownBlock = some b → v.ownBlock = some b ∨ W.heap.size ≤ b) → (∃ g1 c1, v1 = .slice (some ⟨g1, 0, none⟩) (l.length + 1) c1) → wpList Tryz.prog ops Q rest (a.put o.dst v1) w1) : wpList Tryz.prog ops Q (o :: rest) a W := by
  obtain ⟨i0, hi, hzz⟩ := Option.map_eq_some_iff.1 info_deed
  simp only [Prod.mk.injEq] at hzz
  obtain ⟨hz0, hz1, hz2⟩ := hzz
  refine wpList_append_own_at W hgd s y 22 ho base 32 i0 _ 11 128 Tryz.underlying22 hi hz0 hz1 hz2 rfl (by omega) v l.length _ hs HO ⟨g, 0, none⟩ 1 c x.cells hx rfl
    (fun j u hj => by rw [show (⟨g, 0, none⟩ : Addr).add j = ⟨g, j, none⟩ from by unfold Addr.add; split <;> simp_all, hsrc.cell j, ← hj, FD.cells, Array.getElem?_toList]) (deed_one x h1 h2) (by simp only [maxLen]; omega) (by omega) hbase ?_
  intro v1 w1 hown hg _ hblk
  have hown' : OwnD base v1 (l ++ [x]) w1 := by
    unfold OwnD
    rw [List.length_append, List.flatMap_append, List.flatMap_singleton]; exact hown
  refine h v1 w1 hown' (Bes.of_grown hg) (fun b hb => ?_) ?_
  · rcases hblk with e | e
    · exact .inl (by rw [← e]; exact hb)
    · rw [e] at hb; injection hb with hb; exact .inr (by omega)
  · obtain ⟨g1, c1, e⟩ := Go.Joins.ownsRow_form hown (by omega)
    exact ⟨g1, c1, e⟩
/-- A cache, beside it the deeds that were kept: u is the world of the arguments, w0 the one that the row is built from. -/
structure FSt (u w0 : World) (c : Nat) (last : Int) (j : Nat) (v : Value) (O : Nat → Prop) (m : List Kv) (l : List FD) (now : Int) (w : World) : Prop where
  cache : CacheIX c O (fun b => v.ownBlock = some b) 1000 last m w
  new : ∀ b, O b → w0.heap.size ≤ b
  row : OwnD w0.heap.size v l w
  strs : ∀ x ∈ l, StrsAt x.dv x.d.set.data u ∧ StrsAt x.sv x.d.set.sigs u ∧ x.d.Wf
  law : FreshI now m (l.map FD.d)
  len : l.length ≤ j ∧ m.length ≤ j ∧ 0 ≤ last ∧ last ≤ j
  old : Below u.heap.size u w0
  below : Below w0.heap.size w0 w
theorem FSt.all {u w0 : World} {c : Nat} {last : Int} {j : Nat} {v : Value} {O : Nat → Prop} {m : List Kv} {l : List FD} {now : Int} {w : World} (h : FSt u w0 c last j v O m l now w) : Below u.heap.size u w := h.old.trans (h.below.mono h.old.size)
theorem FSt.next {u w0 : World} {c : Nat} {last : Int} {j : Nat} {v : Value} {O : Nat → Prop} {m : List Kv} {l : List FD} {now : Int} {w w' : World} (h : FSt u w0 c last j v O m l now w) (hb : Below w.heap.size w w') : FSt u w0 c last j v O m l now w' :=
  ⟨h.cache.below hb, h.new, ownsRow_bes h.row (Bes.of_below (S := fun _ => False) hb) (fun _ _ h => h), h.strs, h.law, h.len, h.old, h.below.trans (hb.mono h.below.size)⟩
theorem FSt.later {u w0 : World} {c : Nat} {last : Int} {j : Nat} {v : Value} {O : Nat → Prop} {m : List Kv} {l : List FD} {now now' : Int} {w : World} (h : FSt u w0 c last j v O m l now w) (hn : now ≤ now') : FSt u w0 c last j v O m l now' w :=
  ⟨h.cache, h.new, h.row, h.strs, h.law.later hn, h.len, h.old, h.below⟩
theorem FSt.more {u w0 : World} {c : Nat} {last : Int} {j j' : Nat} {v : Value} {O : Nat → Prop} {m : List Kv} {l : List FD} {now : Int} {w : World} (h : FSt u w0 c last j v O m l now w) (hn : j ≤ j') : FSt u w0 c last j' v O m l now w :=
  ⟨h.cache, h.new, h.row, h.strs, h.law, by have := h.len; exact ⟨by omega, by omega, by omega, by omega⟩, h.old, h.below⟩
/-- A step of the cache's own; the deeds' law is looked at behind. -/
theorem FSt.row_turn {u w0 : World} {c : Nat} {last last' : Int} {j : Nat} {v : Value} {O O' : Nat → Prop} {m m' : List Kv} {l : List FD} {now : Int} {w w' : World} (h : FSt u w0 c last j v O m l now w) (hB : BehindX c O (fun b => v.ownBlock = some b) 1000 last' m' w w' O') :
    CacheIX c O' (fun b => v.ownBlock = some b) 1000 last' m' w' ∧ (∀ b, O' b → w0.heap.size ≤ b) ∧ OwnD w0.heap.size v l w' ∧ Below w0.heap.size w0 w' := by
  obtain ⟨hc, ho, hbs⟩ := hB
  obtain ⟨tb, mb, L, e, hca⟩ := id h.cache
  exact ⟨hc, fun b hb => by
      rcases ho b hb with h1 | h1
      · exact h.new b h1
      · exact Nat.le_trans h.below.size h1, ownsRow_bes h.row hbs (fun b hb => hca.xno b hb), h.below.trans (hbs.toBelow h.new h.below.size)⟩
theorem FSt.get {u w0 : World} {c : Nat} {last : Int} {j : Nat} {v : Value} {O O' : Nat → Prop} {m : List Kv} {l : List FD} {now : Int} {w w' : World} {n : ByteArray} {k : Int} (h : FSt u w0 c last j v O m l now w)
    (hB : BehindX c O (fun b => v.ownBlock = some b) 1000 last (getR m n k now).1 w w' O') : FSt u w0 c last j v O' (getR m n k now).1 l now w' := by
  obtain ⟨h1, h2, _⟩ := fresh_get (n := n) (k := k) h.law
  obtain ⟨a1, a2, a3, a4⟩ := h.row_turn hB
  have := h.len
  exact ⟨a1, a2, a3, h.strs, h1, by omega, h.old, a4⟩
/-- A Put that was refused. -/
theorem FSt.same {u w0 : World} {c : Nat} {last : Int} {j : Nat} {v : Value} {O O' : Nat → Prop} {m : List Kv} {l : List FD} {now : Int} {w w' : World} (h : FSt u w0 c last j v O m l now w)
    (hB : BehindX c O (fun b => v.ownBlock = some b) 1000 last m w w' O') : FSt u w0 c last j v O' m l now w' := by
  obtain ⟨a1, a2, a3, a4⟩ := h.row_turn hB
  exact ⟨a1, a2, a3, h.strs, h.law, h.len, h.old, a4⟩
/-- Behind a Put that was not refused: the row is yet to grow. -/
structure FPt (u w0 : World) (c : Nat) (last : Int) (j : Nat) (v : Value) (O : Nat → Prop) (m : List Kv) (l : List FD) (q : FD) (now : Int) (w : World) : Prop where
  cache : CacheIX c O (fun b => v.ownBlock = some b) 1000 last m w
  new : ∀ b, O b → w0.heap.size ≤ b
  row : OwnD w0.heap.size v l w
  strs : ∀ x ∈ l ++ [q], StrsAt x.dv x.d.set.data u ∧ StrsAt x.sv x.d.set.sigs u ∧ x.d.Wf
  law : FreshI now m ((l ++ [q]).map FD.d)
  len : l.length + 1 ≤ j ∧ m.length ≤ j ∧ 0 ≤ last ∧ last ≤ j
  old : Below u.heap.size u w0
  below : Below w0.heap.size w0 w
theorem FPt.next {u w0 : World} {c : Nat} {last : Int} {j : Nat} {v : Value} {O : Nat → Prop} {m : List Kv} {l : List FD} {q : FD} {now : Int} {w w' : World} (h : FPt u w0 c last j v O m l q now w) (hb : Below w.heap.size w w') : FPt u w0 c last j v O m l q now w' :=
  ⟨h.cache.below hb, h.new, ownsRow_bes h.row (Bes.of_below (S := fun _ => False) hb) (fun _ _ h => h), h.strs, h.law, h.len, h.old, h.below.trans (hb.mono h.below.size)⟩
theorem FSt.put {u w0 : World} {c : Nat} {last last2 : Int} {j : Nat} {v : Value} {O O' : Nat → Prop} {m m2 : List Kv} {l : List FD} {q : FD} {now : Int} {w w' : World} (h : FSt u w0 c last j v O m l now w)
    (hB : BehindX c O (fun b => v.ownBlock = some b) 1000 last2 m2 w w' O') (hl : FreshI now m2 (l.map FD.d ++ [q.d])) (hm : m2.length ≤ m.length + 1) (h1 : last ≤ last2) (h2 : last2 ≤ last + 1) (hq : StrsAt q.dv q.d.set.data u ∧ StrsAt q.sv q.d.set.sigs u ∧ q.d.Wf) :
    FPt u w0 c last2 (j + 1) v O' m2 l q now w' := by
  obtain ⟨a1, a2, a3, a4⟩ := h.row_turn hB
  have := h.len
  refine ⟨a1, a2, a3, fun x hx => ?_, by rw [List.map_append]; exact hl, ⟨by omega, by omega, by omega, by omega⟩, h.old, a4⟩
  rcases List.mem_append.1 hx with hx | hx
  · exact h.strs x hx
  · rw [List.mem_singleton.1 hx]; exact hq
theorem FPt.app {u w0 : World} {c : Nat} {last : Int} {j : Nat} {v v1 : Value} {O : Nat → Prop} {m : List Kv} {l : List FD} {q : FD} {now : Int} {w w1 : World} (h : FPt u w0 c last j v O m l q now w)
    (hr : OwnD w0.heap.size v1 (l ++ [q]) w1) (hb : Bes (fun b => v.ownBlock = some b) w w1) (hv : ∀ b, v1.ownBlock = some b → v.ownBlock = some b ∨ w.heap.size ≤ b) : FSt u w0 c last j v1 O m (l ++ [q]) now w1 := by
  have hlt : ∀ b, v1.ownBlock = some b → b < w1.heap.size := fun b hb => (hr.lt b hb).2
  have := h.len
  exact ⟨h.cache.step hb hv hlt, h.new, hr, h.strs, h.law, by rw [List.length_append]; exact ⟨this.1, this.2.1, this.2.2.1, this.2.2.2⟩, h.old, h.below.trans (hb.toBelow (fun b hb => (h.row.lt b hb).1) h.below.size)⟩
/-- The world where a told set is held against a deed's. -/
structure FqSt (W0 : World) (g n sb xb : Nat) (rk nw : Int) (cs cx : Array Value) (W : World) : Prop where
  y7 : W.cell? ⟨g, n * 11 + 7, none⟩ = some (.int .i64 rk)
  y10 : W.cell? ⟨g, n * 11 + 10, none⟩ = some (.int .i64 nw)
  s : Blk W sb cs 30
  x : Blk W xb cx 37
  yl : g < W.heap.size
  below : Below W0.heap.size W0 W
theorem FqSt.next {W0 : World} {g n sb xb : Nat} {rk nw : Int} {cs cx : Array Value} {W W' : World} (h : FqSt W0 g n sb xb rk nw cs cx W) (hb : Below W.heap.size W W') : FqSt W0 g n sb xb rk nw cs cx W' :=
  ⟨by rw [hb.cell (p := ⟨g, n * 11 + 7, none⟩) h.yl]; exact h.y7, by rw [hb.cell (p := ⟨g, n * 11 + 10, none⟩) h.yl]; exact h.y10, h.s.below hb h.s.lt, h.x.below hb h.x.lt, Nat.lt_of_lt_of_le h.yl hb.size, h.below.trans (hb.mono h.below.size)⟩
theorem FqSt.s3 {W0 : World} {g n sb xb : Nat} {rk nw : Int} {s0 s1 s2 s3 s4 s5 : Value} {cx : Array Value} {W : World} (h : FqSt W0 g n sb xb rk nw #[s0, s1, s2, s3, s4, s5] cx W) : W.cell? ⟨sb, 3, none⟩ = some s3 := h.s.cell 3
theorem FqSt.x3 {W0 : World} {g n sb xb : Nat} {rk nw : Int} {x0 x1 x2 x3 x4 x5 x6 x7 x8 x9 : Value} {cs : Array Value} {W : World} (h : FqSt W0 g n sb xb rk nw cs #[x0, x1, x2, x3, x4, x5, x6, x7, x8, x9] W) : W.cell? ⟨xb, 3, none⟩ = some x3 := h.x.cell 3
theorem FqSt.x6 {W0 : World} {g n sb xb : Nat} {rk nw : Int} {x0 x1 x2 x3 x4 x5 x6 x7 x8 x9 : Value} {cs : Array Value} {W : World} (h : FqSt W0 g n sb xb rk nw cs #[x0, x1, x2, x3, x4, x5, x6, x7, x8, x9] W) : W.cell? ⟨xb, 6, none⟩ = some x6 := h.x.cell 6
end Go.Proofs.YtkhpcagoggglcaaGreatDoor

/- What sets are made of records, and records of a set: the plain law. -/
namespace Go.Proofs.YtkhpcagoggglcaaGreatDoor
open Go.RowKit

/-- A record. -/
structure RecD where
  name : ByteArray
  kind : Int
  cls : Int
  ttl : Int
  data : ByteArray
def RecD.cells (x : RecD) : Array Value := #[.string x.name, .int .i64 x.kind, .int .i64 x.cls, .int .i64 x.ttl, .string x.data]
def ttlR (n : Int) : Int := if n < 2147483648 then n else 0
def recOk (x : RecD) : Bool := nameRight x.name && dataRight x.kind x.data && btw x.cls 0 65535 && btw x.ttl 0 4294967295
def isSet (n : ByteArray) (k c : Int) (s : SetD) : Bool := decide (nameLower s.name = n) && decide (s.kind = k) && decide (s.cls = c)
def hasB (l : List ByteArray) (x : ByteArray) : Bool := l.any fun y => decide (y = x)
theorem hasB_iff {l : List ByteArray} {x : ByteArray} : hasB l x = true ↔ x ∈ l := by
  unfold hasB
  rw [List.any_eq_true]
  exact ⟨fun ⟨y, hy, e⟩ => by rw [← of_decide_eq_true e]; exact hy, fun h => ⟨x, h, by simp⟩⟩
theorem hasB_not {l : List ByteArray} {x : ByteArray} : hasB l x = false ↔ x ∉ l := by
  rw [← hasB_iff, Bool.not_eq_true]
def newS (x : RecD) : SetD := ⟨x.name, x.kind, x.cls, ttlR x.ttl, [], []⟩
def addS (s : SetD) (x : RecD) : SetD :=
  if hasB (s.data.map (dataLower x.kind)) (dataLower x.kind x.data) then { s with ttl := min s.ttl (ttlR x.ttl) }
  else if s.data.length = 200 then s else { s with data := s.data ++ [x.data], ttl := min s.ttl (ttlR x.ttl) }
def addG (s : SetD) (g : ByteArray) : SetD := if hasB s.sigs g then s else if s.sigs.length = 200 then s else { s with sigs := s.sigs ++ [g] }
def putS (l : List SetD) (x : RecD) : List SetD :=
  match l.findIdx? (isSet (nameLower x.name) x.kind x.cls) with
  | none => l ++ [addS (newS x) x]
  | some i => l.modify i fun s => addS s x
def signS (l : List SetD) (x : RecD) : List SetD :=
  match takeR sigT x.data with
  | none => l
  | some g => match l.findIdx? (isSet (nameLower x.name) g.covered x.cls) with
    | none => l
    | some i => l.modify i fun s => addG s x.data
def isPut (x : RecD) : Bool := recOk x && !decide (x.kind = 41) && !decide (x.kind = 46)
def isSign (x : RecD) : Bool := recOk x && decide (x.kind = 46)
def setsR (L : List RecD) : List SetD := (L.filter isSign).foldl signS ((L.filter isPut).foldl putS [])
def recordsR (s : SetD) : List RecD := if rightS s then s.data.map (fun d => ⟨s.name, s.kind, s.cls, s.ttl, d⟩) ++ s.sigs.map (fun d => ⟨s.name, 46, s.cls, s.ttl, d⟩) else []

theorem snoc_ind {α : Type} {p : List α → Prop} (h0 : p []) (h1 : ∀ l a, p l → p (l ++ [a])) (l : List α) : p l := by
  have : ∀ m : List α, p m.reverse := fun m => by
    induction m with
    | nil => exact h0
    | cons a m ih => rw [List.reverse_cons]; exact h1 _ a ih
  have h := this l.reverse
  rwa [List.reverse_reverse] at h
theorem find_set {p : SetD → Bool} : ∀ {l : List SetD} {i : Nat}, l.findIdx? p = some i → ∃ l1 s l2, l = l1 ++ s :: l2 ∧ l1.length = i ∧ p s = true ∧ ∀ f, l.modify i f = l1 ++ f s :: l2
  | [], i, h => by simp at h
  | s :: l, i, h => by
    rw [List.findIdx?_cons] at h
    split at h
    · rename_i hp
      obtain rfl := Option.some.inj h
      exact ⟨[], s, l, rfl, rfl, hp, fun f => rfl⟩
    · cases hf : l.findIdx? p with
      | none => rw [hf] at h; cases h
      | some j =>
        rw [hf] at h
        obtain rfl := Option.some.inj h
        obtain ⟨l1, t, l2, e, hl, hp, hm⟩ := find_set hf
        exact ⟨s :: l1, t, l2, by rw [e]; rfl, by simp [hl], hp, fun f => by rw [List.modify_succ_cons, hm f]; rfl⟩
theorem find_noset {p : SetD → Bool} {l : List SetD} (h : l.findIdx? p = none) : ∀ s ∈ l, p s = false := List.findIdx?_eq_none_iff.1 h
theorem uniq_mem (l : List ByteArray) : ∀ x, x ∈ uniq l ↔ x ∈ l := by
  induction l using snoc_ind with
  | h0 => simp [uniq]
  | h1 l a ih =>
    intro x
    rw [uniq_snoc]
    split
    · rename_i h
      have ha := (ih a).1 (hasB_iff.1 h)
      rw [ih x, List.mem_append, List.mem_singleton]
      exact ⟨.inl, fun h => by rcases h with h | rfl; exact h; exact ha⟩
    · rw [List.mem_append, List.mem_append, ih x]
theorem uniq_le (l : List ByteArray) : (uniq l).length ≤ l.length := by
  induction l using snoc_ind with
  | h0 => simp [uniq]
  | h1 l a ih =>
    rw [uniq_snoc]
    split <;> simp <;> omega
theorem uniq_nodup (l : List ByteArray) (h : (uniq l).length = l.length) : l.Nodup := by
  induction l using snoc_ind with
  | h0 => simp
  | h1 l a ih =>
    rw [uniq_snoc] at h
    have hl := uniq_le l
    split at h
    · simp at h; omega
    · rename_i hn
      simp at h
      have h1 := ih (by omega)
      rw [List.nodup_append]
      refine ⟨h1, by simp, fun x hx y hy => ?_⟩
      rw [List.mem_singleton.1 hy]
      rintro rfl
      exact hn (hasB_iff.2 ((uniq_mem l x).2 hx))
theorem rightS_facts {s : SetD} (h : rightS s = true) : nameRight s.name = true ∧ btw s.kind 0 65535 = true ∧ btw s.cls 0 65535 = true ∧ (0 ≤ s.ttl ∧ s.ttl ≤ 2147483647) ∧ s.kind ≠ 46 ∧ s.kind ≠ 41 ∧ (1 ≤ s.data.length ∧ s.data.length ≤ 200) ∧ s.sigs.length ≤ 200 ∧
    (∀ d ∈ s.data, dataRight s.kind d = true) ∧ (∀ g ∈ s.sigs, sigCov s.kind g = true) ∧ (s.data.map (dataLower s.kind)).Nodup := by
  have hl := rightS_len h
  simp only [rightS, Bool.and_eq_true, Bool.not_eq_true', decide_eq_true_eq, decide_eq_false_iff_not, List.all_eq_true] at h
  have ht := h.1.1.1.1.1.1.1.2
  simp only [btw, Bool.and_eq_true, decide_eq_true_eq] at ht
  exact ⟨h.1.1.1.1.1.1.1.1.1.1, h.1.1.1.1.1.1.1.1.1.2, h.1.1.1.1.1.1.1.1.2, ht, h.1.1.1.1.1.1.2, h.1.1.1.1.1.2, ⟨hl.2.1, hl.1⟩, hl.2.2, h.1.1.2, h.1.2, uniq_nodup _ (by rw [h.2, List.length_map])⟩
theorem sigCov_right {k : Int} {g : ByteArray} (h : sigCov k g = true) : dataRight 46 g = true ∧ ∃ x, takeR sigT g = some x ∧ x.covered = k := by
  unfold sigCov at h
  split at h
  · rename_i x hx
    have := (takeR_inv hx).1
    exact ⟨by simp [dataRight, formRight, hx, this], x, hx, of_decide_eq_true h⟩
  · cases h
theorem find_one {p : SetD → Bool} {s : SetD} (h : p s = true) : [s].findIdx? p = some 0 := by simp [List.findIdx?_cons, h]
theorem back_puts {s : SetD} (hk : (s.data.map (dataLower s.kind)).Nodup) (hl : s.data.length ≤ 200) (ht : s.ttl ≤ 2147483647) : ∀ (suf pre : List ByteArray), s.data = pre ++ suf →
    (suf.map fun d => (⟨s.name, s.kind, s.cls, s.ttl, d⟩ : RecD)).foldl putS [{ s with data := pre, sigs := [] }] = [{ s with sigs := [] }]
  | [], pre, h => by rw [List.append_nil] at h; rw [List.map_nil, List.foldl_nil, ← h]
  | d :: suf, pre, h => by
    rw [List.map_cons, List.foldl_cons]
    have hst : putS [{ s with data := pre, sigs := [] }] ⟨s.name, s.kind, s.cls, s.ttl, d⟩ = [{ s with data := pre ++ [d], sigs := [] }] := by
      unfold putS
      rw [find_one (by simp [isSet])]
      have hn : hasB (pre.map (dataLower s.kind)) (dataLower s.kind d) = false := by
        rw [hasB_not]
        rw [h, List.map_append, List.map_cons, List.nodup_append] at hk
        intro hm
        exact hk.2.2 _ hm _ (by simp) rfl
      have hlen : pre.length ≠ 200 := by
        rw [h, List.length_append, List.length_cons] at hl; omega
      have e : ttlR s.ttl = s.ttl := if_pos (by omega)
      simp [List.modify, List.modifyTailIdx, List.modifyTailIdx.go, addS, hn, hlen, e]
    rw [hst]
    exact back_puts hk hl ht suf (pre ++ [d]) (by rw [h]; simp)
theorem back_signs {s : SetD} (hk : s.sigs.Nodup) (hl : s.sigs.length ≤ 200) (hc : ∀ g ∈ s.sigs, sigCov s.kind g = true) : ∀ (suf pre : List ByteArray), s.sigs = pre ++ suf →
    (suf.map fun d => (⟨s.name, 46, s.cls, s.ttl, d⟩ : RecD)).foldl signS [{ s with sigs := pre }] = [s]
  | [], pre, h => by rw [List.append_nil] at h; rw [List.map_nil, List.foldl_nil, ← h]
  | d :: suf, pre, h => by
    rw [List.map_cons, List.foldl_cons]
    have hst : signS [{ s with sigs := pre }] ⟨s.name, 46, s.cls, s.ttl, d⟩ = [{ s with sigs := pre ++ [d] }] := by
      obtain ⟨_, x, hx, hxc⟩ := sigCov_right (hc d (by rw [h]; simp))
      unfold signS
      simp only [hx]
      rw [find_one (by simp [isSet, hxc])]
      have hn : hasB pre d = false := by
        rw [hasB_not]
        rw [h, List.nodup_append] at hk
        intro hm
        exact hk.2.2 _ hm _ (by simp) rfl
      have hlen : pre.length ≠ 200 := by
        rw [h, List.length_append, List.length_cons] at hl; omega
      simp [List.modify, List.modifyTailIdx, List.modifyTailIdx.go, addG, hn, hlen]
    rw [hst]
    exact back_signs hk hl hc suf (pre ++ [d]) (by rw [h]; simp)
theorem sets_back {s : SetD} (h : rightS s = true) (hn : s.sigs.Nodup) : setsR (recordsR s) = [s] := by
  obtain ⟨f1, f2, f3, f4, f5, f6, f7, f8, f9, f10, f11⟩ := rightS_facts h
  have hb : btw s.ttl 0 4294967295 = true := by simp [btw]; omega
  have e1 : (recordsR s).filter isPut = s.data.map fun d => ⟨s.name, s.kind, s.cls, s.ttl, d⟩ := by
    rw [recordsR, if_pos h, List.filter_append, List.filter_eq_self.2, List.filter_eq_nil_iff.2, List.append_nil]
    · intro x hx
      obtain ⟨d, hd, rfl⟩ := List.mem_map.1 hx
      simp [isPut]
    · intro x hx
      obtain ⟨d, hd, rfl⟩ := List.mem_map.1 hx
      simp [isPut, recOk, f1, f9 d hd, f3, hb, f5, f6]
  have e2 : (recordsR s).filter isSign = s.sigs.map fun d => ⟨s.name, 46, s.cls, s.ttl, d⟩ := by
    rw [recordsR, if_pos h, List.filter_append, List.filter_eq_nil_iff.2, List.filter_eq_self.2, List.nil_append]
    · intro x hx
      obtain ⟨d, hd, rfl⟩ := List.mem_map.1 hx
      simp [isSign, recOk, f1, (sigCov_right (f10 d hd)).1, f3, hb]
    · intro x hx
      obtain ⟨d, hd, rfl⟩ := List.mem_map.1 hx
      simp [isSign, f5]
  rw [setsR, e1, e2]
  obtain ⟨d, suf, hd⟩ : ∃ d suf, s.data = d :: suf := by
    cases hs : s.data with
    | nil => rw [hs] at f7; simp at f7
    | cons d suf => exact ⟨d, suf, rfl⟩
  have e3 : (s.data.map fun d => (⟨s.name, s.kind, s.cls, s.ttl, d⟩ : RecD)).foldl putS [] = [{ s with sigs := [] }] := by
    have hst : putS [] ⟨s.name, s.kind, s.cls, s.ttl, d⟩ = [{ s with data := [d], sigs := [] }] := by
      have e : ttlR s.ttl = s.ttl := if_pos (by omega)
      simp [putS, addS, newS, hasB, e]
    rw [hd, List.map_cons, List.foldl_cons, hst]
    have := back_puts (s := s) f11 f7.2 f4.2 suf [d] (by rw [hd]; rfl)
    rw [this]
    simp [hd]
  rw [e3]
  exact back_signs hn f8 f10 s.sigs [] rfl
end Go.Proofs.YtkhpcagoggglcaaGreatDoor

/- RrcacheFresh, walked: true. -/
namespace Go.Proofs.YtkhpcagoggglcaaGreatDoor
open Go.RowKit Go.BigFrame

theorem fresh_at {tl : List FD} {L1 L2 : List DeedD} {d1 : DeedD} (h : tl.map FD.d = L1 ++ d1 :: L2) {n : Nat} (hn : n < tl.length) (hp : L1.length ≤ n) : (n = L1.length ∧ tl[n].d = d1) ∨ (L1.length < n ∧ tl[n].d ∈ L2) := by
  have e : (tl.map FD.d)[n]? = some tl[n].d := by rw [List.getElem?_map, List.getElem?_eq_getElem hn]; rfl
  rw [h, List.getElem?_append_right hp] at e
  by_cases h0 : n = L1.length
  · subst h0
    rw [Nat.sub_self, List.getElem?_cons_zero] at e
    exact .inl ⟨rfl, (Option.some.inj e).symm⟩
  · obtain ⟨i, hi⟩ : ∃ i, n - L1.length = i + 1 := ⟨n - L1.length - 1, by omega⟩
    rw [hi, List.getElem?_cons_succ] at e
    exact .inr ⟨by omega, List.mem_of_getElem? e⟩
theorem right_name {a : SetD} (h : rightS a = true) : nameRight a.name = true := by
  simp only [rightS, Bool.and_eq_true] at h
  exact h.1.1.1.1.1.1.1.1.1.1
theorem wf_now {n : Int} (h0 : 0 ≤ n) (h1 : n < 4294967296) : (Lit.int .i64 n).wf = true := by
  simp only [Lit.wf, Bool.and_eq_true, decide_eq_true_eq]
  have e1 : IntKind.i64.min = -9223372036854775808 := by decide
  have e2 : IntKind.i64.max = 9223372036854775807 := by decide
  omega
theorem deed_now {d : DeedD} {n : Int} (h : d.Wf) (h0 : 0 ≤ n) (h1 : n < 4294967296) : DeedD.Wf { d with now := n } := ⟨h.1, h.2.1, by
  simp only [Lit.wf, Bool.and_eq_true, decide_eq_true_eq]
  have e1 : IntKind.i64.min = -9223372036854775808 := by decide
  have e2 : IntKind.i64.max = 9223372036854775807 := by decide
  omega, h.2.2.2⟩
set_option maxRecDepth 100000 in
set_option maxHeartbeats 4000000 in
theorem fresh_any (l : List DeedD) (v : Value) (kind : Int) (w : World) (hk : (Lit.int .i64 kind).wf = true) (hv : DeedsAt v l w) : Calls Tryz.prog 3 #[v, .int .i64 kind] w (BoolB true w) := by
  obtain ⟨A, cp, rfl, hlen, hd⟩ := hv
  have HD := Lib.hid hd
  have HKD := Lib.hid (wf_bd hk)
  clear hd hk
  go_enter Tryz.func3, Tryz.ntmps3
  go_wp2_with (go_at_call 5; refine (Hid.out (p := _) ?_))
  refine Lib.hid ?_
  refine (examples16 _).mono ?_
  rintro e w1 ⟨rfl, hb1⟩
  have HB1 := Lib.hid hb1
  clear hb1
  simp only []
  go_wp2_with (go_at_call 6; refine (Hid.out (p := _) ?_))
  refine Lib.hid ?_
  refine (rc_new 1000 _ (by omega) (by omega)).mono ?_
  rintro e w2 ⟨hb2, c, O, rfl, hc, ho⟩
  have hV : FSt w w1 c 0 0 (.slice none 0 0) O [] [] 0 w2 := ⟨hc.step (Bes.refl _ _) (fun b h => by simp [Value.ownBlock] at h) (fun b h => by simp [Value.ownBlock] at h), ho, World.ownsRow_nil _ _ _ _, by simp, fresh_nil, ⟨by simp, by simp, by omega, by omega⟩, HB1.out, hb2⟩
  have HV0 := Lib.hid hV
  clear hb2 hc ho hV
  simp only []
  go_wp2_with fail
  go_loopw [8, 9, 10] (fun nv sv iv wr => ∃ (j : Nat) (now : Int) (SA : Option Addr) (sc : Nat) (fl : List FD) (O : Nat → Prop) (m : List Kv) (last : Int), nv = .int .i64 now ∧ sv = .slice SA fl.length sc ∧ iv = .int .i64 j ∧ j ≤ l.length ∧ j ≤ 60 ∧ 0 ≤ now ∧ now < 4294967296 ∧ Hid (FSt w w1 c last j (.slice SA fl.length sc) O m fl now wr)) (fun _ _ iv _ => 60 - (intOf iv).toNat)
  case atStart => exact ⟨0, 0, none, 0, [], O, [], 0, rfl, rfl, rfl, Nat.zero_le _, by omega, by omega, by omega, HV0⟩
  case round =>
    clear HV0
    obtain ⟨j, now, SA, sc, fl, O1, m, last, rfl, rfl, rfl, hj, hj60, hn0, hn1, HV⟩ := hrel
    by_cases hlt : j < l.length
    case neg =>
      obtain rfl : j = l.length := by omega
      go_wp2_with fail
      go_ret
      exact ⟨rfl, HV.out.all⟩
    by_cases h60 : j < 60
    case neg =>
      obtain rfl : j = 60 := by omega
      have q1 : ((60 : Nat) : Int) < (l.length : Int) := by omega
      go_wp2_with fail
      go_ret
      exact ⟨rfl, HV.out.all⟩
    obtain ⟨g, f, rfl, hdd⟩ := HD.out (by omega)
    obtain ⟨dv, sv, hda⟩ := hdd j hlt
    have q1 : (j : Int) < (l.length : Int) := by omega
    have q2 : (j : Int) < 60 := by omega
    generalize l[j] = d at hda
    have HDU := Lib.hid hda
    replace hda := hda.below HV.out.all
    obtain ⟨DA, dc, rfl, _⟩ := id hda.data
    obtain ⟨DB, dd, rfl, _⟩ := id hda.sigs
    have k0 : wr.cell? ⟨g, f + j * 11, none⟩ = some (.int .i64 d.kind) := hda.cells 0 (by omega)
    have k1 : wr.cell? ⟨g, f + j * 11 + 1, none⟩ = some (.string d.set.name) := hda.cells 1 (by omega)
    have k2 : wr.cell? ⟨g, f + j * 11 + 2, none⟩ = some (.int .i64 d.set.kind) := hda.cells 2 (by omega)
    have k3 : wr.cell? ⟨g, f + j * 11 + 3, none⟩ = some (.int .i64 d.set.cls) := hda.cells 3 (by omega)
    have k4 : wr.cell? ⟨g, f + j * 11 + 4, none⟩ = some (.int .i64 d.set.ttl) := hda.cells 4 (by omega)
    have k5 : wr.cell? ⟨g, f + j * 11 + 5, none⟩ = some (.slice DA d.set.data.length dc) := hda.cells 5 (by omega)
    have k6 : wr.cell? ⟨g, f + j * 11 + 6, none⟩ = some (.slice DB d.set.sigs.length dd) := hda.cells 6 (by omega)
    have k7 : wr.cell? ⟨g, f + j * 11 + 7, none⟩ = some (.int .i64 d.rank) := hda.cells 7 (by omega)
    have k8 : wr.cell? ⟨g, f + j * 11 + 8, none⟩ = some (.int .i64 d.sec) := hda.cells 8 (by omega)
    have k9 : wr.cell? ⟨g, f + j * 11 + 9, none⟩ = some (.int .i64 d.ver) := hda.cells 9 (by omega)
    have k10 : wr.cell? ⟨g, f + j * 11 + 10, none⟩ = some (.int .i64 d.now) := hda.cells 10 (by omega)
    have kl := hda.lt
    obtain ⟨p1, hp1⟩ : ∃ p1, pickR d.now 100 = p1 := ⟨_, rfl⟩
    have bp := pickR_bd d.now 100 (by decide)
    have HPD := Lib.hid (fun W => pick_any d.now 100 W (wf_bd hda.wf.2.2.1) (by decide) (by decide))
    rw [hp1] at HPD bp
    obtain ⟨bp1, bp2⟩ := bp
    have r1 : IntKind.i64.wrap (now + p1) = now + p1 := IntWalk.i64_in _ (by omega)
    have HDA := Lib.hid hda
    clear hdd hda hp1
    go_upto_region 12 with (go_at_call 7; refine (HPD.out _).mono ?_; rintro e W0 ⟨rfl, rfl⟩)
    obtain ⟨now2, hn2⟩ : ∃ now2, min 4294967295 (now + p1) = now2 := ⟨_, rfl⟩
    rw [hn2]
    obtain ⟨n2a, n2b, n2c⟩ : 0 ≤ now2 ∧ now2 < 4294967296 ∧ now ≤ now2 := by omega
    have hk := Blk.new wr #[.int .i64 d.kind, .string d.set.name, .int .i64 d.set.kind, .int .i64 d.set.cls, .int .i64 d.set.ttl, .slice DA d.set.data.length dc, .slice DB d.set.sigs.length dd, .int .i64 d.rank, .int .i64 d.sec, .int .i64 d.ver, .int .i64 d.now] 32
    have hal := (Below.refl wr.heap.size wr).alloc (Nat.le_refl _) (.cells #[.int .i64 d.kind, .string d.set.name, .int .i64 d.set.kind, .int .i64 d.set.cls, .int .i64 d.set.ttl, .slice DA d.set.data.length dc, .slice DB d.set.sigs.length dd, .int .i64 d.rank, .int .i64 d.sec, .int .i64 d.ver, .int .i64 d.now] 32)
    generalize (wr.alloc (.cells #[.int .i64 d.kind, .string d.set.name, .int .i64 d.set.kind, .int .i64 d.set.cls, .int .i64 d.set.ttl, .slice DA d.set.data.length dc, .slice DB d.set.sigs.length dd, .int .i64 d.rank, .int .i64 d.sec, .int .i64 d.ver, .int .i64 d.now] 32)) = W1 at hk hal ⊢
    have zf := fun i => hk.free i
    have z10 := hk.cell 10
    have zl := hk.lt
    have HK1 := Lib.hid (And.intro hk hal)
    clear k0 k1 k2 k3 k4 k5 k6 k7 k8 k9 k10 kl hk hal hn2
    go_upto_region 13 with (fail)
    obtain ⟨db, hdb⟩ : ∃ db, wr.heap.size = db := ⟨_, rfl⟩
    have hk2 : Blk (W1.setCell ⟨wr.heap.size, 10, none⟩ (.int .i64 now2)) wr.heap.size #[.int .i64 d.kind, .string d.set.name, .int .i64 d.set.kind, .int .i64 d.set.cls, .int .i64 d.set.ttl, .slice DA d.set.data.length dc, .slice DB d.set.sigs.length dd, .int .i64 d.rank, .int .i64 d.sec, .int .i64 d.ver, .int .i64 now2] 32 := by simpa using HK1.out.1.set 10 (.int .i64 now2)
    have hal2 := HK1.out.2.setCell (p := ⟨wr.heap.size, 10, none⟩) (Nat.le_refl _) (.int .i64 now2)
    generalize (W1.setCell ⟨wr.heap.size, 10, none⟩ (.int .i64 now2)) = W2 at hk2 hal2 ⊢
    have hV2 := (HV.out.later n2c).next hal2
    have hno : ¬ O1 wr.heap.size := fun h => absurd (HV.out.cache.lt h) (Nat.lt_irrefl _)
    have hln := hV2.len
    have hwf := deed_now HDA.out.wf n2a n2b
    have hpt := rc_putX c O1 _ 1000 last m d.set (.slice DA d.set.data.length dc) (.slice DB d.set.sigs.length dd) d.rank d.sec now2 W2 hV2.cache (HDA.out.data.below hal2) (HDA.out.sigs.below hal2) hwf.2.2.1 ⟨by omega, by omega, by omega⟩ ⟨by omega, by omega⟩
    rw [hdb] at hk2 hno ⊢
    have e1 := hk2.cell 1; have e2 := hk2.cell 2; have e3 := hk2.cell 3; have e4 := hk2.cell 4; have e5 := hk2.cell 5; have e6 := hk2.cell 6; have e7 := hk2.cell 7; have e8 := hk2.cell 8; have e10 := hk2.cell 10
    have el := hk2.lt
    have HV2 := Lib.hid hV2; have HK2 := Lib.hid (And.intro hk2 hno)
    have nm60 : m.length ≤ 60 := by omega
    simp only [SetD.v, SetD.cells] at hpt
    clear hk2 hal2 hV2 hno hln hwf zf z10 zl HK1 hdb HV
    obtain ⟨R, hR⟩ : ∃ R, putR 1000 last m d.set d.rank d.sec now2 = R := ⟨_, rfl⟩
    obtain ⟨m2, last2, kept, er⟩ := R
    have hdis : (er = 1 ∧ kept = false ∧ m2 = m ∧ last2 = last) ∨ (er = 0 ∧ FreshI now2 m2 (fl.map FD.d ++ [{ d with now := now2 }]) ∧ m2.length ≤ m.length + 1 ∧ last ≤ last2 ∧ last2 ≤ last + 1 ∧ (kept = false → 1 ≤ d.set.ttl → d.rank ≠ 4)) := by
      cases hok : putOk d.set d.rank d.sec now2 with
      | false =>
        rw [fresh_bad hok] at hR
        cases hR
        exact .inl ⟨rfl, rfl, rfl, rfl⟩
      | true =>
        obtain ⟨m3, last3, kept3, heq, hfr, hm2, hla1, hla2, hkt⟩ := fresh_put (d := { d with now := now2 }) (last := last) HV2.out.law (by omega) rfl hok
        simp only at heq
        rw [heq] at hR
        cases hR
        exact .inr ⟨rfl, hfr, hm2, hla1, hla2, hkt⟩
    rw [hR] at hpt
    have HPT := Lib.hid hpt; have HDS := Lib.hid hdis
    clear hpt hdis hR
    go_wp2_with (go_at_call 8; refine (Hid.out (p := _) ?_))
    refine Lib.hid ?_
    refine HPT.out.mono ?_
    rintro e W3 ⟨rfl, O3, hB⟩
    have hk3 := blk_bes HK2.out.1 hB.2.2 HK2.out.2
    have HB3 := Lib.hid hB; have HK3 := Lib.hid hk3
    have f2 := hk3.cell 2; have f4 := hk3.cell 4; have f7 := hk3.cell 7
    have fL := hk3.lt
    clear HPT hB hk3 e1 e2 e3 e4 e5 e6 e7 e8 e10 el
    simp only []
    go_upto_region 14 with (fail)
    go_cut [77] (fun s77 wx => s77 = .bool false ∧ W3 = wx)
    case first =>
      rcases HDS.out with ⟨rfl, rfl, _, _⟩ | ⟨rfl, _, _, _, _, hkt⟩
      · go_wp2_with fail
        go_meet
        exact ⟨rfl, rfl⟩
      · cases kept with
        | true =>
          clear hkt
          go_wp2_with fail
          go_meet
          exact ⟨rfl, rfl⟩
        | false =>
          by_cases ht : 0 < d.set.ttl
          · have q7 : decide (0 < d.set.ttl) = true := decide_eq_true ht
            have q8 : (d.rank == 4) = false := by rw [beq_eq_false_iff_ne]; exact hkt rfl (by omega)
            clear hkt ht
            go_wp2_with fail
            go_meet
            exact ⟨rfl, rfl⟩
          · have q7 : decide (0 < d.set.ttl) = false := decide_eq_false ht
            clear hkt ht
            go_wp2_with fail
            go_meet
            exact ⟨rfl, rfl⟩
    case rest =>
      obtain ⟨rfl, rfl⟩ := hcut
      clear f2 f4 f7 fL
      go_upto_if 79 with (fail)
      go_cut [9] (fun s9 wx => ∃ (TA : Option Addr) (TC : Nat) (TL : List FD), s9 = .slice TA TL.length TC ∧ Hid (FSt w w1 c last2 (j + 1) (.slice TA TL.length TC) O3 m2 TL now2 wx))
      case first =>
        rcases HDS.out with ⟨rfl, rfl, rfl, rfl⟩ | ⟨rfl, hfr, hm2, hla1, hla2, hkt⟩
        · go_wp2_with fail
          go_meet
          exact ⟨SA, sc, fl, rfl, Lib.hid ((HV2.out.same HB3.out).more (Nat.le_succ _))⟩
        · have hP := HV2.out.put (q := ⟨{ d with now := now2 }, .slice DA d.set.data.length dc, .slice DB d.set.sigs.length dd⟩) HB3.out hfr hm2 hla1 hla2 ⟨HDU.out.data, HDU.out.sigs, deed_now HDU.out.wf n2a n2b⟩
          have hk3 := HK3.out
          have HP := Lib.hid hP
          have f0 := hk3.cell 0; have f1 := hk3.cell 1; have f2 := hk3.cell 2; have f3 := hk3.cell 3; have f4 := hk3.cell 4; have f5 := hk3.cell 5; have f6 := hk3.cell 6; have f7 := hk3.cell 7; have f8 := hk3.cell 8; have f9 := hk3.cell 9; have f10 := hk3.cell 10
          have fL := hk3.lt
          clear hP hk3 hfr hm2 hla1 hla2 hkt
          go_wp2_with (at_builtin; refine (Hid.out (p := _) ?_))
          refine Lib.hid ?_
          have hal6 := (Below.refl W3.heap.size W3).alloc (Nat.le_refl _) (.cells #[.int .i64 d.kind, .string d.set.name, .int .i64 d.set.kind, .int .i64 d.set.cls, .int .i64 d.set.ttl, .slice DA d.set.data.length dc, .slice DB d.set.sigs.length dd, .int .i64 d.rank, .int .i64 d.sec, .int .i64 d.ver, .int .i64 now2] 32)
          have hk6 := Blk.new W3 #[.int .i64 d.kind, .string d.set.name, .int .i64 d.set.kind, .int .i64 d.set.cls, .int .i64 d.set.ttl, .slice DA d.set.data.length dc, .slice DB d.set.sigs.length dd, .int .i64 d.rank, .int .i64 d.sec, .int .i64 d.ver, .int .i64 now2] 32
          generalize (W3.alloc (.cells #[.int .i64 d.kind, .string d.set.name, .int .i64 d.set.kind, .int .i64 d.set.cls, .int .i64 d.set.ttl, .slice DA d.set.data.length dc, .slice DB d.set.sigs.length dd, .int .i64 d.rank, .int .i64 d.sec, .int .i64 d.ver, .int .i64 now2] 32)) = W4 at hal6 hk6 ⊢
          have hP4 := HP.out.next hal6
          obtain ⟨sb, hsb⟩ : ∃ sb, W3.heap.size = sb := ⟨_, rfl⟩
          rw [hsb] at hk6 ⊢
          refine ownD_app hP4.row hP4.below.size ⟨{ d with now := now2 }, .slice DA d.set.data.length dc, .slice DB d.set.sigs.length dd⟩ rfl rfl sb 1 hk6 (by have := hP4.len; omega) rfl _ _ rfl rfl rfl ?_
          intro v1 W5 hr hbs hv ⟨g7, c7, hv7⟩
          subst hv7
          have hF := hP4.app hr hbs hv
          obtain ⟨tl, htl⟩ : ∃ tl, fl ++ [(⟨{ d with now := now2 }, .slice DA d.set.data.length dc, .slice DB d.set.sigs.length dd⟩ : FD)] = tl := ⟨_, rfl⟩
          have hll : fl.length + 1 = tl.length := by rw [← htl, List.length_append]; rfl
          rw [htl, hll] at hF
          rw [hll]
          have HF := Lib.hid hF
          clear hal6 hk6 hP4 hsb hr hbs hv hF htl hll HP f0 f1 f2 f3 f4 f5 f6 f7 f8 f9 f10 fL
          go_wp2_with fail
          go_meet
          exact ⟨some ⟨g7, 0, none⟩, c7, tl, rfl, HF⟩
      case rest =>
        obtain ⟨ta, tc, tl, rfl, HF⟩ := hcut
        by_cases hz : tl.length = 0
        · have q5 : ((tl.length : Int) == 0) = true := by rw [beq_iff_eq]; omega
          go_wp2_with fail
          go_roundw
          case rel => exact ⟨j + 1, now2, ta, tc, tl, O3, m2, last2, rfl, rfl, by go_num, by omega, by omega, n2a, n2b, HF⟩
          case measure => simp [intOf]; omega
        · have q5 : ((tl.length : Int) == 0) = false := by rw [beq_eq_false_iff_ne]; omega
          as_aux_lemma =>
            go_wp2_with (go_at_call 7; refine (Hid.out (p := _) ?_))
            refine Lib.hid ?_
            obtain ⟨qi, hqi⟩ : ∃ qi, pickR kind (tl.length : Int) = qi := ⟨_, rfl⟩
            have nl60 : tl.length ≤ 60 := by have := HF.out.len; omega
            have bq := pickR_bd kind (tl.length : Int) (by omega)
            have hpk := pick_any kind (tl.length : Int) wc HKD.out (by omega) (by omega)
            rw [hqi] at bq hpk
            obtain ⟨qn, rfl⟩ := Int.eq_ofNat_of_zero_le bq.1
            have hqn : qn < tl.length := by omega
            have q6 : (qn : Int) < (tl.length : Int) := by omega
            refine hpk.mono ?_
            rintro e wc' ⟨rfl, rfl⟩
            clear hpk hqi bq
            obtain ⟨g2, c2, hg2⟩ := Go.Joins.ownsRow_form HF.out.row (by omega)
            obtain ⟨rfl, _⟩ : ta = some ⟨g2, 0, none⟩ ∧ tc = c2 := by injection hg2 with h1 h2 h3; exact ⟨h1, h3⟩
            have hlg := (HF.out.row.lt g2 rfl).2
            have hyc := fun i (hi : i < 11) => ownD_cell HF.out.row qn hqn i hi
            have hqs := HF.out.strs _ (List.getElem_mem hqn)
            have hqg := HF.out.law.good _ (List.mem_map.2 ⟨_, List.getElem_mem hqn, rfl⟩)
            generalize tl[qn] = q at hyc hqs hqg
            obtain ⟨q, qdv, qsv⟩ := q
            obtain ⟨QA, qc, hq1, _⟩ := id hqs.1
            obtain ⟨QB, qd, hq2, _⟩ := id hqs.2.1
            simp only at hq1 hq2
            subst hq1 hq2
            have y0 : wc.cell? ⟨g2, qn * 11, none⟩ = some (.int .i64 q.kind) := hyc 0 (by omega)
            have y1 : wc.cell? ⟨g2, qn * 11 + 1, none⟩ = some (.string q.set.name) := hyc 1 (by omega)
            have y2 : wc.cell? ⟨g2, qn * 11 + 2, none⟩ = some (.int .i64 q.set.kind) := hyc 2 (by omega)
            have y3 : wc.cell? ⟨g2, qn * 11 + 3, none⟩ = some (.int .i64 q.set.cls) := hyc 3 (by omega)
            have y4 : wc.cell? ⟨g2, qn * 11 + 4, none⟩ = some (.int .i64 q.set.ttl) := hyc 4 (by omega)
            have y5 : wc.cell? ⟨g2, qn * 11 + 5, none⟩ = some (.slice QA q.set.data.length qc) := hyc 5 (by omega)
            have y6 : wc.cell? ⟨g2, qn * 11 + 6, none⟩ = some (.slice QB q.set.sigs.length qd) := hyc 6 (by omega)
            have y7 : wc.cell? ⟨g2, qn * 11 + 7, none⟩ = some (.int .i64 q.rank) := hyc 7 (by omega)
            have y8 : wc.cell? ⟨g2, qn * 11 + 8, none⟩ = some (.int .i64 q.sec) := hyc 8 (by omega)
            have y9 : wc.cell? ⟨g2, qn * 11 + 9, none⟩ = some (.int .i64 q.ver) := hyc 9 (by omega)
            have y10 : wc.cell? ⟨g2, qn * 11 + 10, none⟩ = some (.int .i64 q.now) := hyc 10 (by omega)
            have HQS := Lib.hid hqs
            have HQG := Lib.hid hqg
            have HN2 := Lib.hid (show (Lit.int .i64 now2).wf = true from wf_now (by omega) (by omega))
            clear hyc hqs hqg
            simp only []
            go_wp2_with (go_at_call 9; refine (Hid.out (p := _) ?_))
            refine Lib.hid ?_
            have hkq := Blk.new wc #[.int .i64 q.kind, .string q.set.name, .int .i64 q.set.kind, .int .i64 q.set.cls, .int .i64 q.set.ttl, .slice QA q.set.data.length qc, .slice QB q.set.sigs.length qd, .int .i64 q.rank, .int .i64 q.sec, .int .i64 q.ver, .int .i64 q.now] 32
            have halq := (Below.refl wc.heap.size wc).alloc (Nat.le_refl _) (.cells #[.int .i64 q.kind, .string q.set.name, .int .i64 q.set.kind, .int .i64 q.set.cls, .int .i64 q.set.ttl, .slice QA q.set.data.length qc, .slice QB q.set.sigs.length qd, .int .i64 q.rank, .int .i64 q.sec, .int .i64 q.ver, .int .i64 q.now] 32)
            generalize (wc.alloc (.cells #[.int .i64 q.kind, .string q.set.name, .int .i64 q.set.kind, .int .i64 q.set.cls, .int .i64 q.set.ttl, .slice QA q.set.data.length qc, .slice QB q.set.sigs.length qd, .int .i64 q.rank, .int .i64 q.sec, .int .i64 q.ver, .int .i64 q.now] 32)) = W6 at hkq halq ⊢
            have hF6 := HF.out.next halq
            have hnq : ¬ O3 wc.heap.size := fun h => absurd (HF.out.cache.lt h) (Nat.lt_irrefl _)
            obtain ⟨qb, hqb⟩ : ∃ qb, wc.heap.size = qb := ⟨_, rfl⟩
            rw [hqb] at hkq hnq ⊢
            have HKQ := Lib.hid (And.intro hkq hnq)
            obtain ⟨r, hr⟩ : ∃ r, getR m2 (nameLower q.set.name) q.set.kind now2 = r := ⟨_, rfl⟩
            obtain ⟨m3, o⟩ := r
            have hgt := rc_getX c O3 _ 1000 last2 m2 q.set.name q.set.kind now2 W6 hF6.cache HQS.out.2.2.1 HQS.out.2.2.2.1 HN2.out
            have hvg := fresh_get (n := nameLower q.set.name) (k := q.set.kind) hF6.law
            have hvn := fun W3 O3 => hF6.get (n := nameLower q.set.name) (k := q.set.kind) (w' := W3) (O' := O3)
            rw [hr] at hgt hvg hvn
            have HVG := Lib.hid hvg.2.2; have HVN := Lib.hid hvn
            clear y0 y1 y2 y3 y4 y5 y6 y7 y8 y9 y10 hkq halq hF6 hnq hqb hr hvg hvn hlg HF
            cases o with
            | none =>
              refine hgt.mono ?_
              rintro e W7 ⟨O7, hB, rfl⟩
              have HF7 := Lib.hid ((HVN.out W7 O7 hB).next ((Below.refl W7.heap.size W7).alloc (Nat.le_refl _) (.cells #[.string ⟨#[]⟩, .int .i64 0, .int .i64 0, .int .i64 0, .slice none 0 0, .slice none 0 0, .int .i64 0, .int .i64 0, .int .i64 0, .int .i64 0] 37)))
              clear hB HVG HVN hgt
              simp only [Ent.v, Ent.cells, zeroEnt]
              go_wp2_with fail
              go_roundw
              case rel => exact ⟨j + 1, now2, some ⟨g2, 0, none⟩, tc, tl, O7, m3, last2, rfl, rfl, by go_num, by omega, by omega, n2a, n2b, HF7⟩
              case measure => simp [intOf]; omega
            | some x =>
              refine hgt.mono ?_
              rintro e W7 ⟨O7, hB, xdv, xsv, rfl, hxd, hxs⟩
              have hF7 := HVN.out W7 O7 hB
              obtain ⟨hxt, L1, d1, L2, hL, hO⟩ := HVG.out x rfl
              have htold := hO.told hxt
              have hk7 := blk_bes HKQ.out.1 hB.2.2 HKQ.out.2
              obtain ⟨XA, xc, rfl, _⟩ := id hxd
              obtain ⟨XB, xd, rfl, _⟩ := id hxs
              simp only [Ent.told, Ent.v, Ent.cells] at htold ⊢
              obtain ⟨TX, hTX⟩ : ∃ TX, min (x.til - now2) 604800 = TX := ⟨_, rfl⟩
              rw [hTX] at htold ⊢
              have HXS := Lib.hid (And.intro hxd.at hxs.at)
              have HTO := Lib.hid htold; have HOR := Lib.hid hO; have HL := Lib.hid hL; have HF7 := Lib.hid hF7; have HK7 := Lib.hid hk7
              clear hB HVG HVN hgt hxd hxs htold hO hL hF7 hk7 HKQ hTX hxt
              go_upto_region 22 with (fail)
              have hx := Blk.new W7 #[.string x.set.name, .int .i64 x.set.kind, .int .i64 x.set.cls, .int .i64 TX, .slice XA x.set.data.length xc, .slice XB x.set.sigs.length xd, .int .i64 x.rank, .int .i64 x.sec, .int .i64 x.ver, .int .i64 x.til] 37
              have halx := (Below.refl W7.heap.size W7).alloc (Nat.le_refl _) (.cells #[.string x.set.name, .int .i64 x.set.kind, .int .i64 x.set.cls, .int .i64 TX, .slice XA x.set.data.length xc, .slice XB x.set.sigs.length xd, .int .i64 x.rank, .int .i64 x.sec, .int .i64 x.ver, .int .i64 x.til] 37)
              generalize (W7.alloc (.cells #[.string x.set.name, .int .i64 x.set.kind, .int .i64 x.set.cls, .int .i64 TX, .slice XA x.set.data.length xc, .slice XB x.set.sigs.length xd, .int .i64 x.rank, .int .i64 x.sec, .int .i64 x.ver, .int .i64 x.til] 37)) = W8 at hx halx ⊢
              have HF8 := Lib.hid (HF7.out.next halx)
              have HQ8 := Lib.hid (HK7.out.below halx HK7.out.lt)
              have HX8 := Lib.hid (And.intro (HXS.out.1.below halx) (HXS.out.2.below halx))
              obtain ⟨xb, hxb⟩ : ∃ xb, W7.heap.size = xb := ⟨_, rfl⟩
              rw [hxb] at hx ⊢
              have HXB := Lib.hid hx
              clear hx halx hxb HXS HF7 HK7
              have hlen9 : L1.length < tl.length := by have := congrArg List.length HL.out; simp at this; omega
              have r9 : IntKind.i64.wrap ((tl.length : Int) - 1) = (tl.length : Int) - 1 := IntWalk.i64_in _ (by omega)
              go_wp2_with fail
              go_loopw [17, 18] (fun fv kv wr2 => ∃ (fb : Bool) (k : Int), fv = .bool fb ∧ kv = .int .i64 k ∧ -1 ≤ k ∧ k < (tl.length : Int) ∧ Hid (fb = true ∨ (L1.length : Int) ≤ k) ∧ Hid (Below W8.heap.size W8 wr2)) (fun _ kv _ => (intOf kv + 1).toNat)
              case atStart => exact ⟨false, (tl.length : Int) - 1, rfl, rfl, by omega, by omega, Lib.hid (.inr (by omega)), Lib.hid (Below.refl _ _)⟩
              case round =>
                obtain ⟨fb, k, rfl, rfl, hk1, hk2, HFB, HB9⟩ := hrel
                cases fb with
                | true =>
                  by_cases hk0 : 0 ≤ k
                  · have s1 : decide (0 ≤ k) = true := decide_eq_true hk0
                    go_wp2_with fail
                    go_roundw
                    case rel => exact ⟨j + 1, now2, some ⟨g2, 0, none⟩, tc, tl, O7, m3, last2, rfl, rfl, by go_num, by omega, by omega, n2a, n2b, Lib.hid (HF8.out.next HB9.out)⟩
                    case measure => simp [intOf]; omega
                  · have s1 : decide (0 ≤ k) = false := decide_eq_false hk0
                    go_wp2_with fail
                    go_roundw
                    case rel => exact ⟨j + 1, now2, some ⟨g2, 0, none⟩, tc, tl, O7, m3, last2, rfl, rfl, by go_num, by omega, by omega, n2a, n2b, Lib.hid (HF8.out.next HB9.out)⟩
                    case measure => simp [intOf]; omega
                | false =>
                  have hp : (L1.length : Int) ≤ k := by
                    rcases HFB.out with h | h
                    · cases h
                    · exact h
                  obtain ⟨n, rfl⟩ := Int.eq_ofNat_of_zero_le (show 0 ≤ k by omega)
                  have hn : n < tl.length := by omega
                  have s1 : decide (0 ≤ (n : Int)) = true := decide_eq_true (by omega)
                  have s2 : (n : Int) < (tl.length : Int) := by omega
                  have r10 : IntKind.i64.wrap ((n : Int) - 1) = (n : Int) - 1 := IntWalk.i64_in _ (by omega)
                  have hlg := (HF8.out.row.lt g2 rfl).2
                  have hyc := fun i (hi : i < 11) => (HB9.out.cell (p := ⟨g2, n * 11 + i, none⟩) hlg).trans (ownD_cell HF8.out.row n hn i hi)
                  have hss := HF8.out.strs _ (List.getElem_mem hn)
                  have hsg := HF8.out.law.good _ (List.mem_map.2 ⟨_, List.getElem_mem hn, rfl⟩)
                  have hwh := fresh_at HL.out hn (by omega)
                  generalize tl[n] = s at hyc hss hsg hwh
                  obtain ⟨s, sdv, ssv⟩ := s
                  obtain ⟨SD, sd, hs1, _⟩ := id hss.1
                  obtain ⟨SG, sg, hs2, _⟩ := id hss.2.1
                  simp only at hs1 hs2
                  subst hs1 hs2
                  have z1 : wr.cell? ⟨g2, n * 11 + 1, none⟩ = some (.string s.set.name) := hyc 1 (by omega)
                  have z2 : wr.cell? ⟨g2, n * 11 + 2, none⟩ = some (.int .i64 s.set.kind) := hyc 2 (by omega)
                  have z3 : wr.cell? ⟨g2, n * 11 + 3, none⟩ = some (.int .i64 s.set.cls) := hyc 3 (by omega)
                  have z4 : wr.cell? ⟨g2, n * 11 + 4, none⟩ = some (.int .i64 s.set.ttl) := hyc 4 (by omega)
                  have z5 : wr.cell? ⟨g2, n * 11 + 5, none⟩ = some (.slice SD s.set.data.length sd) := hyc 5 (by omega)
                  have z6 : wr.cell? ⟨g2, n * 11 + 6, none⟩ = some (.slice SG s.set.sigs.length sg) := hyc 6 (by omega)
                  have zl : g2 < wr.heap.size := Nat.lt_of_lt_of_le hlg HB9.out.size
                  have hq9 := HQ8.out.below HB9.out HQ8.out.lt
                  have c1 := hq9.cell 1; have c2 := hq9.cell 2
                  have cl := hq9.lt
                  have HYC := Lib.hid hyc; have HSS := Lib.hid hss; have HSG := Lib.hid hsg; have HWH := Lib.hid hwh
                  clear hyc hss hsg hwh hq9
                  by_cases hkd : s.set.kind = q.set.kind
                  case neg =>
                    have t1 : (s.set.kind != q.set.kind) = true := by rw [bne_iff_ne]; exact hkd
                    have n0 : L1.length < n := by
                      rcases HWH.out with ⟨_, h⟩ | ⟨h, _⟩
                      · refine absurd ?_ hkd
                        have h1 := congrArg Prod.snd HOR.out.key
                        simp only at h h1
                        rw [h]; exact h1.symm
                      · exact h
                    go_wp2_with fail
                    go_roundw
                    case rel => exact ⟨false, (n : Int) - 1, rfl, rfl, by omega, by omega, Lib.hid (.inr (by omega)), Lib.hid (HB9.out.alloc HB9.out.size _)⟩
                    case measure => simp [intOf]
                  case pos =>
                    have t1 : (s.set.kind != q.set.kind) = false := by rw [bne_eq_false_iff_eq]; exact hkd
                    cases hne : nameEq s.set.name q.set.name with
                    | false =>
                      have n0 : L1.length < n := by
                        rcases HWH.out with ⟨_, h⟩ | ⟨h, _⟩
                        · exfalso
                          have h1 := congrArg Prod.fst HOR.out.key
                          simp only at h h1
                          have : nameEq s.set.name q.set.name = true := nameEq_iff.2 ⟨right_name HSG.out.1, right_name HQG.out.1, by rw [h]; exact h1.symm⟩
                          rw [this] at hne; cases hne
                        · exact h
                      have heq := fun W => name_equal s.set.name q.set.name W
                      rw [hne] at heq
                      have HEQ := Lib.hid heq
                      clear heq hne
                      go_wp2_with (go_at_call 10; refine (Hid.out (p := _) ?_))
                      refine Lib.hid ?_
                      refine (HEQ.out _).mono ?_
                      rintro e W9 ⟨rfl, hb9⟩
                      have HB10 := Lib.hid ((HB9.out.alloc HB9.out.size (.cells #[.string s.set.name, .int .i64 q.set.kind, .int .i64 s.set.cls, .int .i64 s.set.ttl, .slice SD s.set.data.length sd, .slice SG s.set.sigs.length sg] 30)).trans (hb9.mono (HB9.out.alloc HB9.out.size _).size))
                      clear hb9 z1 z2 z3 z4 z5 z6 c1 c2 cl
                      simp only []
                      go_wp2_with fail
                      go_roundw
                      case rel => exact ⟨false, (n : Int) - 1, rfl, rfl, by omega, by omega, Lib.hid (.inr (by omega)), HB10⟩
                      case measure => simp [intOf]
                    | true =>
                      have HNE := Lib.hid hne
                      have heq := fun W => name_equal s.set.name q.set.name W
                      rw [hne] at heq
                      have HEQ := Lib.hid heq
                      clear heq hne
                      by_cases hz9 : s.set.ttl = 0
                      · have t2 : (s.set.ttl == 0) = true := by rw [beq_iff_eq]; exact hz9
                        have n0 : L1.length < n := by
                          rcases HWH.out with ⟨_, h⟩ | ⟨h, _⟩
                          · exfalso
                            have h1 := HOR.out.ttl
                            simp only at h
                            rw [← h] at h1
                            omega
                          · exact h
                        clear hz9
                        go_wp2_with (go_at_call 10; refine (Hid.out (p := _) ?_))
                        refine Lib.hid ?_
                        have hs9 := Blk.new wr #[.string s.set.name, .int .i64 q.set.kind, .int .i64 s.set.cls, .int .i64 s.set.ttl, .slice SD s.set.data.length sd, .slice SG s.set.sigs.length sg] 30
                        refine (HEQ.out _).mono ?_
                        rintro e W9 ⟨rfl, hb9⟩
                        have hs10 := hs9.below hb9 hs9.lt
                        have v3 := hs10.cell 3
                        have vl := hs10.lt
                        have HB10 := Lib.hid ((HB9.out.alloc HB9.out.size (.cells #[.string s.set.name, .int .i64 q.set.kind, .int .i64 s.set.cls, .int .i64 s.set.ttl, .slice SD s.set.data.length sd, .slice SG s.set.sigs.length sg] 30)).trans (hb9.mono (HB9.out.alloc HB9.out.size _).size))
                        clear hb9 hs9 hs10 z1 z2 z3 z4 z5 z6 c1 c2 cl
                        simp only []
                        go_wp2_with fail
                        go_roundw
                        case rel => exact ⟨false, (n : Int) - 1, rfl, rfl, by omega, by omega, Lib.hid (.inr (by omega)), HB10⟩
                        case measure => simp [intOf]
                      · have t2 : (s.set.ttl == 0) = false := by rw [beq_eq_false_iff_ne]; exact hz9
                        have HZ9 := Lib.hid hz9
                        have HKD9 := Lib.hid hkd
                        clear hz9 hkd
                        go_wp2_with (go_at_call 10; refine (Hid.out (p := _) ?_))
                        refine Lib.hid ?_
                        have hs9 := Blk.new wr #[.string s.set.name, .int .i64 s.set.kind, .int .i64 s.set.cls, .int .i64 s.set.ttl, .slice SD s.set.data.length sd, .slice SG s.set.sigs.length sg] 30
                        refine (HEQ.out _).mono ?_
                        rintro e W9 ⟨rfl, hb9⟩
                        have hs10 := hs9.below hb9 hs9.lt
                        have v3 := hs10.cell 3
                        have vl := hs10.lt
                        have hB10 := ((HB9.out.alloc HB9.out.size (.cells #[.string s.set.name, .int .i64 s.set.kind, .int .i64 s.set.cls, .int .i64 s.set.ttl, .slice SD s.set.data.length sd, .slice SG s.set.sigs.length sg] 30)).trans (hb9.mono (HB9.out.alloc HB9.out.size _).size))
                        have HB10 := Lib.hid hB10
                        obtain ⟨sb9, hsb9⟩ : ∃ sb9, wr.heap.size = sb9 := ⟨_, rfl⟩
                        have hlgr := (HF8.out.row.lt g2 rfl).2
                        have hq0 : FqSt W8 g2 n sb9 xb s.rank s.now #[.string s.set.name, .int .i64 s.set.kind, .int .i64 s.set.cls, .int .i64 s.set.ttl, .slice SD s.set.data.length sd, .slice SG s.set.sigs.length sg] #[.string x.set.name, .int .i64 x.set.kind, .int .i64 x.set.cls, .int .i64 TX, .slice XA x.set.data.length xc, .slice XB x.set.sigs.length xd, .int .i64 x.rank, .int .i64 x.sec, .int .i64 x.ver, .int .i64 x.til] W9 :=
                          ⟨(hB10.cell (p := ⟨g2, n * 11 + 7, none⟩) hlgr).trans ((HB9.out.cell (p := ⟨g2, n * 11 + 7, none⟩) hlgr).symm.trans (HYC.out 7 (by omega))), (hB10.cell (p := ⟨g2, n * 11 + 10, none⟩) hlgr).trans ((HB9.out.cell (p := ⟨g2, n * 11 + 10, none⟩) hlgr).symm.trans (HYC.out 10 (by omega))), by rw [← hsb9]; exact hs10, HXB.out.below hB10 HXB.out.lt, Nat.lt_of_lt_of_le hlgr hB10.size, hB10⟩
                        have hsm := fun W (hW : Below W8.heap.size W8 W) => same_any s.set { x.set with ttl := TX } (.slice SD s.set.data.length sd) (.slice SG s.set.sigs.length sg) (.slice XA x.set.data.length xc) (.slice XB x.set.sigs.length xd) W (HSS.out.1.below (HF8.out.all.trans (hW.mono HF8.out.all.size))) (HSS.out.2.1.below (HF8.out.all.trans (hW.mono HF8.out.all.size))) (HX8.out.1.below hW) (HX8.out.2.below hW)
                        obtain ⟨sm, hsmv⟩ : ∃ sm, sameS s.set { x.set with ttl := TX } = sm := ⟨_, rfl⟩
                        rw [hsmv] at hsm
                        simp only [SetD.v, SetD.cells] at hsm
                        have HSM := Lib.hid hsm
                        have hfin : (sm && decide (s.rank = x.rank) && decide (TX = min s.set.ttl 604800 - (now2 - s.now))) = false → L1.length < n ∧ s.rank < x.rank := by
                          intro hf
                          rcases HWH.out with ⟨_, h⟩ | ⟨h, hm⟩
                          · exfalso
                            have ht := HTO.out
                            rw [← h] at ht
                            rw [← hsmv, ht.1, decide_eq_true ht.2.1, decide_eq_true ht.2.2] at hf
                            cases hf
                          · refine ⟨h, ?_⟩
                            have hk := HOR.out.key
                            have hr := HOR.out.rank
                            simp only at hk hr
                            rw [hr]
                            refine HOR.out.since _ hm ?_ ?_ HZ9.out
                            · rw [HKD9.out]; exact congrArg Prod.snd hk
                            · rw [(nameEq_iff.1 HNE.out).2.2]; exact congrArg Prod.fst hk
                        have HFIN := Lib.hid hfin
                        clear hb9 hs9 hs10 hB10 hsm hsmv hfin z1 z2 z3 z4 z5 z6 c1 c2 cl
                        rw [hsb9] at v3 vl ⊢
                        simp only []
                        go_wp2_with fail
                        obtain ⟨RB, hRB⟩ : ∃ RB, decide (s.rank = x.rank) = RB := ⟨_, rfl⟩
                        obtain ⟨TB, hTB⟩ : ∃ TB, decide (TX = min s.set.ttl 604800 - (now2 - s.now)) = TB := ⟨_, rfl⟩
                        have t5 : (s.rank == x.rank) = RB := hRB
                        have t6 : (TX == min s.set.ttl 604800 - (now2 - s.now)) = TB := hTB
                        have hf2 := HFIN.out
                        rw [hRB, hTB] at hf2
                        have HFIN2 := Lib.hid hf2
                        clear hf2
                        have hsg2 := HSG.out
                        have hst9 := (rightS_facts hsg2.1).2.2.2.1
                        obtain ⟨u1, u2⟩ : 0 ≤ s.now ∧ s.now < 4294967296 := ⟨hsg2.2.2.2.1, hsg2.2.2.2.2⟩
                        obtain ⟨u3, u4⟩ : 0 ≤ s.set.ttl ∧ s.set.ttl ≤ 2147483647 := hst9
                        have w5 : IntKind.i64.wrap (now2 - s.now) = now2 - s.now := IntWalk.i64_in _ (by omega)
                        have w6 : IntKind.i64.wrap (min s.set.ttl 604800 - (now2 - s.now)) = min s.set.ttl 604800 - (now2 - s.now) := IntWalk.i64_in _ (by omega)
                        have HQ0 := Lib.hid hq0
                        clear hq0 hRB hTB v3 vl hlgr hsg2
                        cases sm with
                        | false =>
                          as_aux_lemma =>
                            refine wp_region_quiet (C := FqSt W8 g2 n sb9 xb s.rank s.now #[.string s.set.name, .int .i64 s.set.kind, .int .i64 s.set.cls, .int .i64 s.set.ttl, .slice SD s.set.data.length sd, .slice SG s.set.sigs.length sg] #[.string x.set.name, .int .i64 x.set.kind, .int .i64 x.set.cls, .int .i64 TX, .slice XA x.set.data.length xc, .slice XB x.set.sigs.length xd, .int .i64 x.rank, .int .i64 x.sec, .int .i64 x.ver, .int .i64 x.til]) (by as_aux_lemma => kernel_rfl) (by as_aux_lemma => kernel_rfl) (HQ0.out.next ⟨rfl, rfl, rfl, Nat.le_refl _, fun _ _ => rfl⟩) ?_
                            simp only []
                            go_big_quiet_want
                            refine qs_load _ _ rfl ⟨sb9, 0, none⟩ _ rfl (fun W hW => set_load hW.s) ?_
                            simp (maxSteps := 1000000) only [Act.put, List.setIfInBounds_toArray, List.set_cons_succ, List.set_cons_zero]
                            go_big_quiet_on
                            first
                              | go_big_quiet_skip
                              | (go_big_quiet_want
                                 apply qs_run
                                 · intro W hW
                                   simp [go_sem, Act.eval]
                                   try rfl
                                 simp (maxSteps := 1000000) only [Act.put, List.setIfInBounds_toArray, List.set_cons_succ, List.set_cons_zero]
                                 go_big_quiet_on)
                            go_big_quiet_want
                            refine qs_load _ _ rfl ⟨xb, 0, none⟩ _ rfl (fun W hW => set_load_at hW.x) ?_
                            simp (maxSteps := 1000000) only [Act.put, List.setIfInBounds_toArray, List.set_cons_succ, List.set_cons_zero]
                            go_big_quiet_on
                            go_big_quiet_want
                            refine qs_call 11 _ _ (fun W hW => ?run) (fun W hW => (HSM.out W hW.below).mono fun e w' h => ⟨h.1, hW.next h.2⟩) ?_
                            case run => simp [go_sem, Act.eval]
                            simp (maxSteps := 1000000) only [Act.put, List.setIfInBounds_toArray, List.set_cons_succ, List.set_cons_zero]
                            go_big_quiet_on
                            repeat
                              first
                                | go_big_quiet_skip
                                | (go_big_quiet_want
                                   apply qs_run
                                   · intro W hW
                                     simp [go_sem, Act.eval]
                                     try rfl
                                   simp (maxSteps := 1000000) only [Act.put, List.setIfInBounds_toArray, List.set_cons_succ, List.set_cons_zero]
                                   go_big_quiet_on)
                            refine wpQuiet_nil ?_
                            intro W10 hW10
                            clear t5 t6 w5 w6
                            have hfn := HFIN2.out rfl
                            have y7 := hW10.y7; have x6 := hW10.x6; have yl9 := hW10.yl; have xl9 := hW10.x.lt
                            have t9 : decide (x.rank ≤ s.rank) = false := decide_eq_false (by omega)
                            have HB11 := Lib.hid hW10.below
                            have n0 := hfn.1
                            clear hfn hW10
                            go_wp2_with fail
                            go_quiet (fail)
                            go_wp2_with fail
                            go_roundw
                            case rel => exact ⟨false, (n : Int) - 1, rfl, rfl, by omega, by omega, Lib.hid (.inr (by omega)), Lib.hid ⟨HB11.out.os, HB11.out.tape, HB11.out.output, HB11.out.size, HB11.out.block⟩⟩
                            case measure => simp [intOf]
                        | true =>
                          cases RB with
                          | false =>
                            as_aux_lemma =>
                              refine wp_region_quiet (C := FqSt W8 g2 n sb9 xb s.rank s.now #[.string s.set.name, .int .i64 s.set.kind, .int .i64 s.set.cls, .int .i64 s.set.ttl, .slice SD s.set.data.length sd, .slice SG s.set.sigs.length sg] #[.string x.set.name, .int .i64 x.set.kind, .int .i64 x.set.cls, .int .i64 TX, .slice XA x.set.data.length xc, .slice XB x.set.sigs.length xd, .int .i64 x.rank, .int .i64 x.sec, .int .i64 x.ver, .int .i64 x.til]) (by as_aux_lemma => kernel_rfl) (by as_aux_lemma => kernel_rfl) (HQ0.out.next ⟨rfl, rfl, rfl, Nat.le_refl _, fun _ _ => rfl⟩) ?_
                              simp only []
                              go_big_quiet_want
                              refine qs_load _ _ rfl ⟨sb9, 0, none⟩ _ rfl (fun W hW => set_load hW.s) ?_
                              simp (maxSteps := 1000000) only [Act.put, List.setIfInBounds_toArray, List.set_cons_succ, List.set_cons_zero]
                              go_big_quiet_on
                              first
                                | go_big_quiet_skip
                                | (go_big_quiet_want
                                   apply qs_run
                                   · intro W hW
                                     simp [go_sem, Act.eval]
                                     try rfl
                                   simp (maxSteps := 1000000) only [Act.put, List.setIfInBounds_toArray, List.set_cons_succ, List.set_cons_zero]
                                   go_big_quiet_on)
                              go_big_quiet_want
                              refine qs_load _ _ rfl ⟨xb, 0, none⟩ _ rfl (fun W hW => set_load_at hW.x) ?_
                              simp (maxSteps := 1000000) only [Act.put, List.setIfInBounds_toArray, List.set_cons_succ, List.set_cons_zero]
                              go_big_quiet_on
                              go_big_quiet_want
                              refine qs_call 11 _ _ (fun W hW => ?run) (fun W hW => (HSM.out W hW.below).mono fun e w' h => ⟨h.1, hW.next h.2⟩) ?_
                              case run => simp [go_sem, Act.eval]
                              simp (maxSteps := 1000000) only [Act.put, List.setIfInBounds_toArray, List.set_cons_succ, List.set_cons_zero]
                              go_big_quiet_on
                              repeat
                                first
                                  | go_big_quiet_skip
                                  | (go_big_quiet_want
                                     apply qs_run
                                     · intro W hW
                                       simp [go_sem, Act.eval, s2, t5, hW.y7, hW.x6]
                                       try rfl
                                     simp (maxSteps := 1000000) only [Act.put, List.setIfInBounds_toArray, List.set_cons_succ, List.set_cons_zero]
                                     go_big_quiet_on)
                              refine wpQuiet_nil ?_
                              intro W10 hW10
                              clear t5 t6 w5 w6
                              have hfn := HFIN2.out rfl
                              have y7 := hW10.y7; have x6 := hW10.x6; have yl9 := hW10.yl; have xl9 := hW10.x.lt
                              have t9 : decide (x.rank ≤ s.rank) = false := decide_eq_false (by omega)
                              have HB11 := Lib.hid hW10.below
                              have n0 := hfn.1
                              clear hfn hW10
                              go_wp2_with fail
                              go_quiet (fail)
                              go_wp2_with fail
                              go_roundw
                              case rel => exact ⟨false, (n : Int) - 1, rfl, rfl, by omega, by omega, Lib.hid (.inr (by omega)), Lib.hid ⟨HB11.out.os, HB11.out.tape, HB11.out.output, HB11.out.size, HB11.out.block⟩⟩
                              case measure => simp [intOf]
                          | true =>
                            cases TB with
                            | false =>
                              as_aux_lemma =>
                                refine wp_region_quiet (C := FqSt W8 g2 n sb9 xb s.rank s.now #[.string s.set.name, .int .i64 s.set.kind, .int .i64 s.set.cls, .int .i64 s.set.ttl, .slice SD s.set.data.length sd, .slice SG s.set.sigs.length sg] #[.string x.set.name, .int .i64 x.set.kind, .int .i64 x.set.cls, .int .i64 TX, .slice XA x.set.data.length xc, .slice XB x.set.sigs.length xd, .int .i64 x.rank, .int .i64 x.sec, .int .i64 x.ver, .int .i64 x.til]) (by as_aux_lemma => kernel_rfl) (by as_aux_lemma => kernel_rfl) (HQ0.out.next ⟨rfl, rfl, rfl, Nat.le_refl _, fun _ _ => rfl⟩) ?_
                                simp only []
                                go_big_quiet_want
                                refine qs_load _ _ rfl ⟨sb9, 0, none⟩ _ rfl (fun W hW => set_load hW.s) ?_
                                simp (maxSteps := 1000000) only [Act.put, List.setIfInBounds_toArray, List.set_cons_succ, List.set_cons_zero]
                                go_big_quiet_on
                                first
                                  | go_big_quiet_skip
                                  | (go_big_quiet_want
                                     apply qs_run
                                     · intro W hW
                                       simp [go_sem, Act.eval]
                                       try rfl
                                     simp (maxSteps := 1000000) only [Act.put, List.setIfInBounds_toArray, List.set_cons_succ, List.set_cons_zero]
                                     go_big_quiet_on)
                                go_big_quiet_want
                                refine qs_load _ _ rfl ⟨xb, 0, none⟩ _ rfl (fun W hW => set_load_at hW.x) ?_
                                simp (maxSteps := 1000000) only [Act.put, List.setIfInBounds_toArray, List.set_cons_succ, List.set_cons_zero]
                                go_big_quiet_on
                                go_big_quiet_want
                                refine qs_call 11 _ _ (fun W hW => ?run) (fun W hW => (HSM.out W hW.below).mono fun e w' h => ⟨h.1, hW.next h.2⟩) ?_
                                case run => simp [go_sem, Act.eval]
                                simp (maxSteps := 1000000) only [Act.put, List.setIfInBounds_toArray, List.set_cons_succ, List.set_cons_zero]
                                go_big_quiet_on
                                repeat
                                  first
                                    | go_big_quiet_skip
                                    | (go_big_quiet_want
                                       apply qs_run
                                       · intro W hW
                                         simp [go_sem, Act.eval, s2, t5, t6, w5, w6, hW.y7, hW.y10, hW.s3, hW.x3, hW.x6]
                                         try rfl
                                       simp (maxSteps := 1000000) only [Act.put, List.setIfInBounds_toArray, List.set_cons_succ, List.set_cons_zero]
                                       go_big_quiet_on)
                                refine wpQuiet_nil ?_
                                intro W10 hW10
                                clear t5 t6 w5 w6
                                have hfn := HFIN2.out rfl
                                have y7 := hW10.y7; have x6 := hW10.x6; have yl9 := hW10.yl; have xl9 := hW10.x.lt
                                have t9 : decide (x.rank ≤ s.rank) = false := decide_eq_false (by omega)
                                have HB11 := Lib.hid hW10.below
                                have n0 := hfn.1
                                clear hfn hW10
                                go_wp2_with fail
                                go_quiet (fail)
                                go_wp2_with fail
                                go_roundw
                                case rel => exact ⟨false, (n : Int) - 1, rfl, rfl, by omega, by omega, Lib.hid (.inr (by omega)), Lib.hid ⟨HB11.out.os, HB11.out.tape, HB11.out.output, HB11.out.size, HB11.out.block⟩⟩
                                case measure => simp [intOf]
                            | true =>
                              as_aux_lemma =>
                                refine wp_region_quiet (C := FqSt W8 g2 n sb9 xb s.rank s.now #[.string s.set.name, .int .i64 s.set.kind, .int .i64 s.set.cls, .int .i64 s.set.ttl, .slice SD s.set.data.length sd, .slice SG s.set.sigs.length sg] #[.string x.set.name, .int .i64 x.set.kind, .int .i64 x.set.cls, .int .i64 TX, .slice XA x.set.data.length xc, .slice XB x.set.sigs.length xd, .int .i64 x.rank, .int .i64 x.sec, .int .i64 x.ver, .int .i64 x.til]) (by as_aux_lemma => kernel_rfl) (by as_aux_lemma => kernel_rfl) (HQ0.out.next ⟨rfl, rfl, rfl, Nat.le_refl _, fun _ _ => rfl⟩) ?_
                                simp only []
                                go_big_quiet_want
                                refine qs_load _ _ rfl ⟨sb9, 0, none⟩ _ rfl (fun W hW => set_load hW.s) ?_
                                simp (maxSteps := 1000000) only [Act.put, List.setIfInBounds_toArray, List.set_cons_succ, List.set_cons_zero]
                                go_big_quiet_on
                                first
                                  | go_big_quiet_skip
                                  | (go_big_quiet_want
                                     apply qs_run
                                     · intro W hW
                                       simp [go_sem, Act.eval]
                                       try rfl
                                     simp (maxSteps := 1000000) only [Act.put, List.setIfInBounds_toArray, List.set_cons_succ, List.set_cons_zero]
                                     go_big_quiet_on)
                                go_big_quiet_want
                                refine qs_load _ _ rfl ⟨xb, 0, none⟩ _ rfl (fun W hW => set_load_at hW.x) ?_
                                simp (maxSteps := 1000000) only [Act.put, List.setIfInBounds_toArray, List.set_cons_succ, List.set_cons_zero]
                                go_big_quiet_on
                                go_big_quiet_want
                                refine qs_call 11 _ _ (fun W hW => ?run) (fun W hW => (HSM.out W hW.below).mono fun e w' h => ⟨h.1, hW.next h.2⟩) ?_
                                case run => simp [go_sem, Act.eval]
                                simp (maxSteps := 1000000) only [Act.put, List.setIfInBounds_toArray, List.set_cons_succ, List.set_cons_zero]
                                go_big_quiet_on
                                repeat
                                  first
                                    | go_big_quiet_skip
                                    | (go_big_quiet_want
                                       apply qs_run
                                       · intro W hW
                                         simp [go_sem, Act.eval, s2, t5, t6, w5, w6, hW.y7, hW.y10, hW.s3, hW.x3, hW.x6]
                                         try rfl
                                       simp (maxSteps := 1000000) only [Act.put, List.setIfInBounds_toArray, List.set_cons_succ, List.set_cons_zero]
                                       go_big_quiet_on)
                                refine wpQuiet_nil ?_
                                intro W10 hW10
                                clear t5 t6 w5 w6
                                have HB11 := Lib.hid hW10.below
                                clear hW10
                                go_wp2_with fail
                                go_quiet (fail)
                                go_wp2_with fail
                                go_roundw
                                case rel => exact ⟨true, (n : Int) - 1, rfl, rfl, by omega, by omega, Lib.hid (.inl rfl), Lib.hid ⟨HB11.out.os, HB11.out.tape, HB11.out.output, HB11.out.size, HB11.out.block⟩⟩
                                case measure => simp [intOf]
end Go.Proofs.YtkhpcagoggglcaaGreatDoor
