/-
  What is proved: the contract of a Tick, on a disk that tells no errors.
-/
import Derived.Test.YtkafmfdipmhleaaGreatDoorEnd
import Derived.Deep.CutBlock
namespace Go.Proofs.YtkafmfdipmhleaaGreatDoor
open Go.RowKit Go.Maps

theorem below_toK {B : Nat} {w w' : World} (h : Below B w w') (hB : w.heap.size ≤ B) (K : List Nat) : FrK K w w' :=
  ⟨h.os, h.tape, h.output, h.size, fun k o ho _ => (h.block k (Nat.lt_of_lt_of_le (lt_of_hp ho) hB)).trans ho⟩
theorem StAt.keepK {w w' : World} {K : List Nat} {q : Pl} {bl : List Nat} {s : StM} (h : StAt w q bl s) (hf : FrK K w w') (hK : ∀ k ∈ [80, 133, 103, 104, 108, 45, 47, 49, 4, 0, 89, 55], k ∉ K) : StAt w' q bl s :=
  ⟨hf.block _ _ h.eng (hK 80 (by simp)), h.jn.keepK hf (hK _ (by simp)), h.dk.keepK hf (hK _ (by simp)) (hK _ (by simp)) (hK _ (by simp)), h.pt.keepK hf (hK _ (by simp)) (hK _ (by simp)) (hK _ (by simp)) (hK _ (by simp)),
   map_keepK h.mp hf (hK _ (by simp)), h.len, sgs_keepK h.sg hf (hK _ (by simp)) (hK _ (by simp)), h.nd, h.lo⟩
/-- The keys, in order, are the sagas' numbers. -/
theorem keys_sorted {l : List SagaM} {bl : List Nat} (hl : bl.length = l.length) (ho : l.Pairwise (fun a b => a.id < b.id)) {ss : List Int} (hp : ss.Perm (intKeys (dataOf (ilOf l bl)))) :
    ss.mergeSort (fun x y => decide (x ≤ y)) = l.map (·.id) := by
  have e : intKeys (dataOf (ilOf l bl)) = l.map (·.id) := by
    rw [intKeys_dataOf]
    unfold ilOf
    exact List.map_fst_zip (l₁ := l.map (·.id)) (l₂ := bl) (by simp; omega)
  rw [e] at hp
  have h1 : (l.map (·.id)).Pairwise (· ≤ ·) := (List.pairwise_map.2 (ho.imp (fun h => Int.le_of_lt h)))
  have h2 : (ss.mergeSort (fun x y => decide (x ≤ y))).Pairwise (fun a b => decide (a ≤ b) = true) := List.pairwise_mergeSort (by intro a b c; simp; omega) (by intro a b; simp; omega) ss
  exact List.Perm.eq_of_pairwise (le := (· ≤ ·)) (fun a b _ _ h1 h2 => Int.le_antisymm h1 h2) (h2.imp (fun h => by simpa using h)) h1 ((List.mergeSort_perm ss _).trans hp)
theorem ints_at {w : World} {B g n cap : Nat} {ids : List Int} (h : w.ownsRow B 3 1 (.slice (some ⟨g, 0, none⟩) n cap) n (ids.map encZ)) (k : Nat) (x : Int) (hx : ids[k]? = some x) : w.cell? ⟨g, k, none⟩ = some (.int .i64 x) := by
  have := h.cellAt k (by have := h.1; simp at this; have := (List.getElem?_eq_some_iff.1 hx).1; omega)
  rw [this, List.getElem?_map, hx]; rfl
theorem len_of_ord (l : List SagaM) (a N : Int) (ho : l.Pairwise (fun x y => x.id < y.id)) (h : ∀ g ∈ l, a < g.id ∧ g.id ≤ N) (hN : a ≤ N) : (l.length : Int) ≤ N - a := by
  induction l generalizing a with
  | nil => simp; omega
  | cons x l ih =>
    have hx := h x (by simp)
    have hp := List.pairwise_cons.1 ho
    have := ih x.id hp.2 (fun g hg => ⟨hp.1 g hg, (h g (by simp [hg])).2⟩) hx.2
    simp only [List.length_cons]
    omega
theorem inv_len {s : StM} (h : s.inv) : s.sagas.length ≤ 1000 := by
  have := len_of_ord s.sagas 0 1000 h.ord (fun g hg => by have := h.ok g hg; exact ⟨by have := this.1; omega, this.2.1⟩) (by omega)
  omega
theorem blk_of (l : List SagaM) (bl : List Nat) (hl : bl.length = l.length) (ho : l.Pairwise (fun a b => a.id < b.id)) (k : Nat) (g : SagaM) (hg : l[k]? = some g) : ∃ b, bl[k]? = some b ∧ blkOfId (ilOf l bl) g.id = some b := by
  induction l generalizing bl k with
  | nil => simp at hg
  | cons x l ih =>
    cases bl with
    | nil => simp at hl
    | cons y bl =>
      have hp := List.pairwise_cons.1 ho
      cases k with
      | zero =>
        simp at hg
        subst hg
        exact ⟨y, rfl, by simp [blkOfId, ilOf]⟩
      | succ k =>
        have hg' : l[k]? = some g := by simpa using hg
        obtain ⟨b, h1, h2⟩ := ih bl (by simpa using hl) hp.2 k hg'
        refine ⟨b, by simpa using h1, ?_⟩
        have hne : x.id ≠ g.id := by have := hp.1 g (List.mem_of_getElem? hg'); omega
        simp only [blkOfId, ilOf, List.map_cons, List.zip_cons_cons, List.find?_cons, decide_eq_false hne] at h2 ⊢
        exact h2
theorem step_ids (s : StM) (k : Nat) : (s.stepOne k).sagas.map (·.id) = s.sagas.map (·.id) := by
  have key : ∀ (g g' : SagaM), s.sagas[k]? = some g → g'.id = g.id → (s.sagas.set k g').map (·.id) = s.sagas.map (·.id) := by
    intro g g' hg hid
    apply List.ext_getElem?
    intro i
    by_cases e : i = k
    · subst e
      have hl := (List.getElem?_eq_some_iff.1 hg).1
      rw [List.getElem?_map, List.getElem?_map, List.getElem?_set_self hl, hg]
      simp [hid]
    · rw [List.getElem?_map, List.getElem?_map, List.getElem?_set_ne (fun h => e h.symm)]
  cases hg : s.sagas[k]? with
  | none => simp only [StM.stepOne, hg]
  | some g =>
    by_cases hw : g.waits s.clock = false
    · simp only [StM.stepOne, hg, hw, if_true]
    · by_cases hm : g.moves (g.reply s.p) = false
      · simp only [StM.stepOne, hg, hw, hm, if_true, if_false]
        exact key g _ hg rfl
      · simp only [StM.stepOne, hg, hw, hm, if_false]
        exact key g _ hg (moved_id g _)
theorem fold_ids (l : List Nat) (s : StM) : (l.foldl StM.stepOne s).sagas.map (·.id) = s.sagas.map (·.id) := by
  induction l generalizing s with
  | nil => rfl
  | cons a l ih => rw [List.foldl_cons, ih, step_ids]
theorem step_lo (s : StM) (k : Nat) : (s.stepOne k).p.lo = s.p.lo := by
  unfold StM.stepOne
  cases s.sagas[k]? with
  | none => rfl
  | some g =>
    simp only
    split
    · rfl
    · split <;> rfl
theorem fold_lo (l : List Nat) (s : StM) : (l.foldl StM.stepOne s).p.lo = s.p.lo := by
  induction l generalizing s with
  | nil => rfl
  | cons a l ih => rw [List.foldl_cons, ih, step_lo]
theorem tick_lo (s : StM) : s.tick.p.lo = s.p.lo := fold_lo _ { s with clock := s.clock + 1 }
theorem own_keepK {w w' : World} {K : List Nat} {B e size n : Nat} {v : Value} {xs : List Value} (h : w.ownsRow B e size v n xs) (hf : FrK K w w') (he : e + 1 ∉ K) : w'.ownsRow B e size v n xs := by
  obtain ⟨h1, h2⟩ := h
  refine ⟨h1, ?_⟩
  rcases h2 with h2 | ⟨g, cap, cur, hv, hg, hh, r⟩
  · exact .inl h2
  · exact .inr ⟨g, cap, cur, hv, hg, hf.block g _ hh he, r⟩
theorem ids_shape {w : World} {B n : Nat} {v : Value} {xs : List Value} (h : w.ownsRow B 3 1 v n xs) : ∃ va vc, v = .slice va n vc ∧ (n = 0 ∨ ∃ g, va = some ⟨g, 0, none⟩) := by
  rcases h.2 with ⟨h1, h2⟩ | ⟨g, cap, cur, h1, _⟩
  · exact ⟨none, 0, by rw [h1, h2], .inl h2⟩
  · exact ⟨some ⟨g, 0, none⟩, cap, h1, .inr ⟨g, rfl⟩⟩
set_option maxRecDepth 100000 in
set_option maxHeartbeats 4000000 in
theorem Tick_calls {w : World} {q : Pl} {bl : List Nat} {s : StM} {m : Nat} (hs : StAt w q bl s) (hi : s.inv) (hf : s.fine (m + s.sagas.length)) (hck : -9223372036854775808 ≤ s.clock + 1 ∧ s.clock + 1 ≤ 9223372036854775807) :
    Calls Tryz.prog 20 #[.pointer (some ⟨q.xb, 0, none⟩)] w fun e w' => e = .returned .nilIface ∧ StAt w' q bl s.tick ∧ FrK KT w w' ∧ Low s.p.lo w w' := by
  have hx := hs.eng
  have Hs := Lib.hid hs
  have Hi := Lib.hid hi
  have Hf := Lib.hid hf
  have Hck := Lib.hid hck
  have hwr : wrap64 (s.clock + 1) = s.clock + 1 := wrap_in _ (by omega)
  have Hx := Lib.hid hx
  simp only [egCells] at hx
  clear hs hi hf hck
  have hcv := cellv w
  have hfv := frozv w
  go_enter Tryz.func20, Tryz.ntmps20
  go_upto_region 4 with fail
  have hF0 : FrK KT w (w.setCell ⟨q.xb, 4, none⟩ (.int .i64 (s.clock + 1))) := (Fr.one q.xb w 4 (.int .i64 (s.clock + 1))).toK (by
    rintro k o rfl ho
    rw [Hx.out] at ho; cases ho; simp [kindOf])
  have hs1 : StAt (w.setCell ⟨q.xb, 4, none⟩ (.int .i64 (s.clock + 1))) q bl { s with clock := s.clock + 1 } := by
    have hk : FrK [80] w (w.setCell ⟨q.xb, 4, none⟩ (.int .i64 (s.clock + 1))) := (Fr.one q.xb w 4 (.int .i64 (s.clock + 1))).toK (by
      rintro k o rfl ho
      rw [Hx.out] at ho; cases ho; simp [kindOf])
    have h0 := Hs.out
    refine ⟨?_, h0.jn.keepK hk (by decide), h0.dk.keepK hk (by decide) (by decide) (by decide), h0.pt.keepK hk (by decide) (by decide) (by decide) (by decide), map_keepK h0.mp hk (by decide), h0.len, sgs_keepK h0.sg hk (by decide) (by decide), h0.nd, h0.lo⟩
    rw [hp_setCell, if_pos rfl, Hx.out]; simp [egCells]
  have HO0 : Hid (Low s.p.lo w (w.setCell ⟨q.xb, 4, none⟩ (.int .i64 (s.clock + 1)))) := (Fr.one q.xb w 4 (.int .i64 (s.clock + 1))).low Hs.out.size (by
    rintro k rfl
    exact Hs.out.lo.1)
  have HF0 := Lib.hid hF0
  have Hs1 := Lib.hid hs1
  clear hcv hfv hF0 hs1
  generalize w.setCell ⟨q.xb, 4, none⟩ (.int .i64 (s.clock + 1)) = w1 at HF0 HO0 Hs1 ⊢
  have hx := Hs1.out.eng
  simp only [egCells] at hx
  have hcv := cellv w1
  have hlen30 : s.sagas.length ≤ 1000 := inv_len Hi.out
  have hz : Maps.size (dataOf (ilOf s.sagas bl)) = s.sagas.length := by
    rw [size_dataOf, ilOf, List.length_zip, List.length_map, Hs.out.len]; omega
  have HS := Lib.hid (Sorted_calls q.mb s.sagas.length (dataOf (ilOf s.sagas bl)) ptrR w1 Hs1.out.mp (by rw [hz]; unfold maxLen; omega) (by rw [hz]; omega))
  clear hlen30 hz
  go_upto_region 5 with (first
    | (go_at_call 48; refine Calls.mono (Keys_calls (some q.mb) w1) ?_; rintro e w2 ⟨rfl, rfl⟩)
    | (go_at_call 47; refine Calls.mono HS.out ?_; rintro e w3 ⟨v, ss, rfl, hperm, hown, hnil, hbel⟩; obtain ⟨va, vc, rfl, hva⟩ := ids_shape hown)
    | fail)
  have hk3 : FrK [] w1 w3 := ((Fr.refl (fun _ => False) w1).alloc (.cells #[.map (some q.mb)] 76)).toK (fun _ _ f _ => f.elim) |>.trans (below_toK hbel (Nat.le_refl _) [])
  have hs3 := Hs1.out.keepK hk3 (by simp)
  have hids := keys_sorted Hs.out.len (Hi.out).ord hperm
  rw [hids] at hown
  have hlen : ss.length = s.sagas.length := by
    have := congrArg List.length hids
    simpa using this
  rw [hlen] at hown
  have HF3 := Lib.hid (HF0.out.trans (hk3.mono (by simp)))
  have HO3 := Lib.hid (HO0.out.trans ((((Fr.refl (fun _ => False) w1).alloc (.cells #[.map (some q.mb)] 76)).low Hs1.out.size (fun _ f => f.elim)).trans
    (show Low s.p.lo _ w3 from ⟨hbel.os, hbel.tape, hbel.output, hbel.size, fun k hk => hbel.block k (by have := Hs1.out.size; have hz : s.p.lo ≤ w1.heap.size := Hs1.out.size; simp; omega)⟩)))
  have Hs3 := Lib.hid hs3
  rw [hlen] at hva
  have Hva := Lib.hid hva
  have Hlen := Lib.hid hlen
  clear hcv hx hnil hbel hk3 hs3 hids hperm hva
  have Hown := Lib.hid hown
  clear hown
  rw [hlen]
  clear hlen
  go_wp2_with fail
  go_loopw [28] (fun i wr => ∃ k : Nat, k ≤ s.sagas.length ∧ i = .int .i64 (k : Nat) ∧ StAt wr q bl ((List.range k).foldl StM.stepOne { s with clock := s.clock + 1 }) ∧ FrK KT w3 wr ∧ Low s.p.lo w3 wr) (fun i _ => s.sagas.length - (intOf i).toNat)
  case atStart => exact ⟨0, Nat.zero_le _, rfl, Hs3.out, FrK.refl _ _, Low.refl _ _⟩
  case round =>
    obtain ⟨k, hk, rfl, hsk, hfk, hok45⟩ := hrel
    have Hok45 := Lib.hid hok45
    clear hok45
    by_cases hkn : k < s.sagas.length
    · have hstep : (List.range (k + 1)).foldl StM.stepOne { s with clock := s.clock + 1 } = ((List.range k).foldl StM.stepOne { s with clock := s.clock + 1 }).stepOne k := by
        rw [List.range_succ, List.foldl_append]; rfl
      obtain ⟨t1, t2, t3, t4⟩ := fold_inv (m := m + (s.sagas.length - k)) (List.range k) { s with clock := s.clock + 1 } (inv_clock Hi.out _) (by
        rw [List.length_range, show m + (s.sagas.length - k) + k = m + s.sagas.length by omega]; exact Hf.out)
      have t5 := fold_ids (List.range k) { s with clock := s.clock + 1 }
      have t6 : ((List.range k).foldl StM.stepOne { s with clock := s.clock + 1 }).p.lo = s.p.lo := fold_lo (List.range k) { s with clock := s.clock + 1 }
      have Hstep := Lib.hid hstep
      clear hstep
      generalize (List.range k).foldl StM.stepOne { s with clock := s.clock + 1 } = t at Hstep hsk t1 t2 t3 t4 t5 t6
      have Ht6 := Lib.hid t6
      clear t6
      obtain ⟨g, hg⟩ : ∃ g, t.sagas[k]? = some g := ⟨t.sagas[k], List.getElem?_eq_getElem (by rw [t4]; exact hkn)⟩
      obtain ⟨b, hb, hbo⟩ := blk_of t.sagas bl hsk.len t1.ord k g hg
      have hok := t1.ok g (List.mem_of_getElem? hg)
      have hgid : (s.sagas.map (·.id))[k]? = some g.id := by
        have : (t.sagas.map (·.id))[k]? = some g.id := by rw [List.getElem?_map, hg]; rfl
        rw [t5] at this; exact this
      obtain ⟨ib, rfl⟩ : ∃ ib, va = some ⟨ib, 0, none⟩ := by
        rcases Hva.out with h | h
        · omega
        · exact h
      have hcell := ints_at (own_keepK Hown.out hfk (by decide)) k g.id hgid
      have Hfk := Lib.hid hfk
      have Ht1 := Lib.hid t1
      have Ht2 := Lib.hid t2
      have Ht3 := Lib.hid t3
      clear t1 t2 t3 t4 t5 hfk hgid
      have hkI : (k : Int) < s.sagas.length := by omega
      have hl30 := inv_len Hi.out
      go_upto_block 1 with fail
      by_cases hw : g.waits t.clock = false
      · refine tick_idle q bl t k g b ib s.sagas.length vc wr hsk hg hb hbo ⟨hok.1, hok.2.1⟩ hcell hkn hw ?_
        intros
        have e : t.stepOne k = t := by simp only [StM.stepOne, hg, hw, if_true]
        clear hcell hb hbo hok hg hw
        go_wp2_with fail
        go_roundw
        case rel => exact ⟨k + 1, hkn, by go_num, by rw [Hstep.out, e]; exact hsk, Hfk.out, Hok45.out⟩
        case measure => simp [intOf]; omega
      · have hw : g.waits t.clock = true := by simpa using hw
        obtain ⟨hroom, hst⟩ := inv_room Ht1.out hg hw
        have hsm := Ht2.out.small
        by_cases hm : g.moves (g.reply t.p) = false
        · refine tick_vain q bl t k g b ib s.sagas.length vc wr hsk Ht1.out hg hb hbo ⟨hok.1, hok.2.1⟩ hcell hkn hw hok hst hsm hm ?_
          intros
          rename_i w' hs' hf' ho'
          clear hcell hb hbo hok hg hw hroom hst hsm hm hsk
          have Hs' := Lib.hid hs'
          have Hf' := Lib.hid hf'
          have Ho' := Lib.hid ho'
          rw [Ht6.out] at Ho'
          clear hs' hf' ho'
          go_wp2_with fail
          go_roundw
          case rel => exact ⟨k + 1, hkn, by go_num, by rw [Hstep.out]; exact Hs'.out, Hfk.out.trans Hf'.out, Hok45.out.trans Ho'.out⟩
          case measure => simp [intOf]; omega
        · have hm : g.moves (g.reply t.p) = true := by simpa using hm
          refine tick_moved q bl t k g b ib s.sagas.length vc wr hsk Ht1.out hg hb hbo ⟨hok.1, hok.2.1⟩ hcell hkn hw hok hst hsm hroom hm ?_
          intros
          rename_i w' hs' hf' ho'
          clear hcell hb hbo hok hg hw hroom hst hsm hm hsk
          have Hs' := Lib.hid hs'
          have Hf' := Lib.hid hf'
          have Ho' := Lib.hid ho'
          rw [Ht6.out] at Ho'
          clear hs' hf' ho'
          go_wp2_with fail
          go_roundw
          case rel => exact ⟨k + 1, hkn, by go_num, by rw [Hstep.out]; exact Hs'.out, Hfk.out.trans Hf'.out, Hok45.out.trans Ho'.out⟩
          case measure => simp [intOf]; omega
    · obtain rfl : k = s.sagas.length := by omega
      have Hsk := Lib.hid hsk
      have Hfk := Lib.hid hfk
      have hnk : ¬ ((s.sagas.length : Int) < s.sagas.length) := by omega
      clear hsk hfk
      go_wp2_with fail
      go_ret
      exact ⟨rfl, Hsk.out, HF3.out.trans Hfk.out, HO3.out.trans Hok45.out⟩
end Go.Proofs.YtkafmfdipmhleaaGreatDoor
