/-
  What is proved: the contract of Spare: it returns true, and leaves what was there as it was.
-/
import Derived.Test.YtkafmfdipmhleaaGreatDoorSz6

namespace Go.Proofs.YtkafmfdipmhleaaGreatDoor
open Go.RowKit Go.Maps

def sp0 (r : List Int) (B lo : Nat) : StM := StM.fresh B 1 ⟨[], [], rest300 r, 0, lo⟩
theorem spNeed_succ (c : Int) (j : Nat) : spNeed c (j + 1) = spNeed c j + 2 * manyM c ((j : Int) + 1) + 2 := by
  show spNeed c j + 2 * manyM c ((j + 1 : Nat) : Int) + 2 = _
  rw [show ((j + 1 : Nat) : Int) = (j : Int) + 1 by omega]
theorem sp_meas (j k : Nat) (h : j < k) : k + 1 - ((j : Int) + 1 + 1).toNat < k + 1 - ((j : Int) + 1).toNat := by omega
theorem sp_all {c : Int} {r : List Int} {lo B : Nat} (hr : r.length ≤ 60) (hB0 : 1 ≤ B ∧ B ≤ 1000) (j : Nat) (hj : j ≤ 12) (hB : spNeed c j ≤ B) : SpI c (rest300 r) lo B j (spM c (sp0 r B lo) j) := spI_all hr hB0 j hj hB
theorem sp_sub {w : World} {q : Pl} {lo B j : Nat} {bl : List Nat} {c : Int} {r : List Int} {v : Value} (hr : r.length ≤ 60) (hB : 1 ≤ B ∧ B ≤ 1000) (hj : j < 12) (hBn : spNeed c (j + 1) ≤ B)
    (hs : StAt w q bl (spM c (sp0 r B lo) j)) (hv : StepsAt w v (kSteps ((j + 1 : Nat) : Int) (spN c (j + 1)))) :
    Calls Tryz.prog 18 #[.pointer (some ⟨q.xb, 0, none⟩), .int .i64 ((j + 1 : Nat) : Int), v] w fun e w' => e = .returned .nilIface ∧ (∃ bl', StAt w' q bl' (spSub c (spM c (sp0 r B lo) j) (j + 1))) ∧ FrK [0, 103, 104, 133, 80] w w' ∧ Low lo w w' := by
  have hI := sp_all (c := c) (lo := lo) hr hB j (by omega) (by have := spNeed_mono c j (j + 1) (by omega); omega)
  have hN := spN_range c (j + 1)
  have := Submit_calls (id := ((j + 1 : Nat) : Int)) (l := kSteps ((j + 1 : Nat) : Int) (spN c (j + 1))) hs hI.inv hv (kSteps_whole _ _ (by omega) (by omega)) (spI_new hI) (spI_room hI hBn)
  rw [show (spM c (sp0 r B lo) j).p.lo = lo from hI.lo] at this
  exact this
theorem sp_tick {w : World} {q : Pl} {lo B j : Nat} {bl : List Nat} {c : Int} {r : List Int} (hr : r.length ≤ 60) (hB : 1 ≤ B ∧ B ≤ 1000) (hj : j < 12) (hBn : spNeed c (j + 1) ≤ B)
    (hs : StAt w q bl (spSub c (spM c (sp0 r B lo) j) (j + 1))) :
    Calls Tryz.prog 20 #[.pointer (some ⟨q.xb, 0, none⟩)] w fun e w' => e = .returned .nilIface ∧ StAt w' q bl (spM c (sp0 r B lo) (j + 1)) ∧ FrK KT w w' ∧ Low lo w w' := by
  have hI := sp_all (c := c) (lo := lo) hr hB j (by omega) (by have := spNeed_mono c j (j + 1) (by omega); omega)
  obtain ⟨i1, i2, i3, i4, i5, i6⟩ := spI_sub hI hj hBn
  have hlen : (spSub c (spM c (sp0 r B lo) j) (j + 1)).sagas.length = j + 1 := by have := congrArg List.length i3; simpa using this
  have hck : (spSub c (spM c (sp0 r B lo) j) (j + 1)).clock = (j : Int) := hI.clock
  have := Tick_calls (m := 0) hs i1 (StM.fine.mono i2 (by rw [hlen]; omega)) (by rw [hck]; omega)
  rw [show (spSub c (spM c (sp0 r B lo) j) (j + 1)).p.lo = lo from hI.lo] at this
  exact this
theorem sp_tick2 {w : World} {q : Pl} {lo B k t : Nat} {bl : List Nat} {c : Int} {r : List Int} (hr : r.length ≤ 60) (hB : 1 ≤ B ∧ B ≤ 1000) (hk : k ≤ 12) (hBn : spNeed c k ≤ B) (ht : t < 120)
    (hs : StAt w q bl ((spM c (sp0 r B lo) k).ticks t)) :
    Calls Tryz.prog 20 #[.pointer (some ⟨q.xb, 0, none⟩)] w fun e w' => e = .returned .nilIface ∧ StAt w' q bl ((spM c (sp0 r B lo) k).ticks (t + 1)) ∧ FrK KT w w' ∧ Low lo w w' := by
  have hI := sp_all (c := c) (lo := lo) hr hB k hk hBn
  have hlen := spI_len hI
  have hb : (t + 1) * (sp0 r B lo |> fun s => (spM c s k).sagas.length) ≤ 120 * 12 := by
    show (t + 1) * (spM c (sp0 r B lo) k).sagas.length ≤ _
    rw [show (spM c (sp0 r B lo) k).sagas.length = k from hlen]; exact Nat.mul_le_mul (by omega) hk
  have hb' : t * (spM c (sp0 r B lo) k).sagas.length + (spM c (sp0 r B lo) k).sagas.length ≤ 1440 := by
    have := hb
    simp only at this
    rw [Nat.add_mul, Nat.one_mul] at this; omega
  obtain ⟨a1, a2, a3, a4⟩ := ticks_inv (m := (spM c (sp0 r B lo) k).sagas.length) hI.inv t (StM.fine.mono hI.fine (by show (spM c (sp0 r B lo) k).sagas.length + t * (spM c (sp0 r B lo) k).sagas.length ≤ _; omega))
  have := Tick_calls (m := 0) hs a1 (by rw [a4, Nat.zero_add]; exact a2) (by rw [a3, hI.clock]; omega)
  rw [show ((spM c (sp0 r B lo) k).ticks t).p.lo = lo from (ticks_lo _ t).trans hI.lo] at this
  exact this
theorem stCells_at (l : List SagaM) (t o : Nat) (g : SagaM) (u : Value) (hg : l[t]? = some g) (hu : g.status.toList[o]? = some u) : (stCells l)[t * 6 + o]? = some u := by
  have hs : g.status.toList.length = 6 := rfl
  induction l generalizing t with
  | nil => simp at hg
  | cons a l ih =>
    have e : stCells (a :: l) = a.status.toList ++ stCells l := by simp [stCells]
    have ha : a.status.toList.length = 6 := rfl
    rw [e]
    cases t with
    | zero =>
      simp at hg
      subst hg
      have ho : o < a.status.toList.length := (List.getElem?_eq_some_iff.1 hu).1
      rw [Nat.zero_mul, Nat.zero_add, List.getElem?_append_left ho]; exact hu
    | succ t =>
      rw [List.getElem?_append_right (by omega), ha, show (t + 1) * 6 + o - 6 = t * 6 + o by omega]
      exact ih t (by simpa using hg)
theorem st_cells {w : World} {B gb n cap : Nat} {l : List SagaM} (h : w.ownsRow B 38 6 (.slice (some ⟨gb, 0, none⟩) n cap) n (stCells l)) (t : Nat) (g : SagaM) (hg : l[t]? = some g) :
    w.cell? ⟨gb, t * 6, none⟩ = some (.int .i64 g.id) ∧ w.cell? ⟨gb, t * 6 + 1, none⟩ = some (.int .i64 g.st) ∧ w.cell? ⟨gb, t * 6 + 2, none⟩ = some (.int .i64 g.step) ∧ w.cell? ⟨gb, t * 6 + 3, none⟩ = some (.int .i64 g.steps.length) ∧ w.cell? ⟨gb, t * 6 + 4, none⟩ = some (.int .i64 g.tries) ∧ w.cell? ⟨gb, t * 6 + 5, none⟩ = some (.int .i64 g.due) := by
  have key : ∀ (o : Nat) (u : Value), g.status.toList[o]? = some u → w.cell? ⟨gb, t * 6 + o, none⟩ = some u := by
    intro o u hu
    have hx := stCells_at l t o g u hg hu
    have := h.cellAt (t * 6 + o) (by have := h.1; have := (List.getElem?_eq_some_iff.1 hx).1; omega)
    rw [this]; exact hx
  exact ⟨key 0 _ rfl, key 1 _ rfl, key 2 _ rfl, key 3 _ rfl, key 4 _ rfl, key 5 _ rfl⟩
set_option maxRecDepth 100000 in
set_option maxHeartbeats 4000000 in
theorem Spare_calls {w : World} {c n : Int} {v : Value} {l : List Int} (hv : IntsIn w v l) (hc : i64 c) (hn : i64 n) :
    Calls Tryz.prog 6 #[.int .i64 c, v, .int .i64 n] w fun e w' => e = .returned (.bool true) ∧ Low w.heap.size w w' := by
  have HFew := Lib.hid (few_in hv 60 (by omega))
  have hkz : 1 ≤ 1 + pickM n 12 ∧ 1 + pickM n 12 ≤ 12 := by have := pickM_range n 12 (by omega); omega
  have hw2 : wrap64 (pickM n 12 + 1) = 1 + pickM n 12 := by rw [Int.add_comm]; exact wrap_in _ (by omega)
  have hw2' : wrap64 (1 + pickM n 12) = 1 + pickM n 12 := wrap_in _ (by omega)
  have Hc := Lib.hid hc
  have Hn := Lib.hid hn
  clear hv hc hn
  go_enter Tryz.func6, Tryz.ntmps6
  go_upto_region 2 with (first
    | (go_at_call 14; refine Calls.mono HFew.out ?_; rintro e w1 ⟨v1, rfl, hown1, hf1⟩)
    | (refine wpl_append_zeros rfl (.tmp 22) (.const (.int .i64 300)) rfl w.heap.size v1 (l.take 60).length 300 ((l.take 60).map encZ) rfl hown1 rfl (by omega) (by rw [List.length_take]; omega) hf1.size ?_; intro v2 w2 hown2 hg2)
    | fail)
  have hown2' : w2.ownsRow w.heap.size 3 1 v2 (rest300 (l.take 60)).length ((rest300 (l.take 60)).map encZ) := by
    have e1 : (rest300 (l.take 60)).length = (l.take 60).length + 300 := by rw [rest300, List.length_append, List.length_replicate]
    have e2 : (rest300 (l.take 60)).map encZ = (l.take 60).map encZ ++ List.replicate 300 (.int .i64 0) := by rw [rest300, List.map_append, List.map_replicate]
    rw [e1, e2]; exact hown2
  have hL2 : Low w.heap.size w w2 := (hf1.low (Nat.le_refl _) (fun _ f => f.elim)).trans ((Fr.ofGrown hg2).low hf1.size (fun k hk => (hown1.lt k hk).1))
  have hr60 : (l.take 60).length ≤ 60 := by rw [List.length_take]; omega
  have Hown2 := Lib.hid hown2'
  have HL2 := Lib.hid hL2
  have Hr60 := Lib.hid hr60
  clear hown1 hf1 hown2 hg2 hown2' hL2 hr60
  generalize l.take 60 = r at Hown2 Hr60
  have hlenR : (rest300 r).length ≤ 1000 := by rw [rest300, List.length_append, List.length_replicate]; have := Hr60.out; omega
  have HNP := Lib.hid (NewPartner_calls (own_ints Hown2.out) hlenR w.heap.size HL2.out.size)
  clear hlenR
  generalize hRR : rest300 r = R at HNP Hown2
  have HRR := Lib.hid hRR
  clear hRR
  go_upto_region 3 with (first
    | (go_at_call 15; refine Calls.mono HNP.out ?_; rintro e w3 ⟨pb, rfl, hpb, hp3, hf3⟩)
    | fail)
  have HP2 := Lib.hid (pick_calls w3 n 12 Hn.out (by omega))
  have Hp3 := Lib.hid hp3
  have HL3 := Lib.hid (HL2.out.trans (hf3.low HL2.out.size (fun _ f => f.elim)))
  clear hp3 hf3 hpb HFew HNP
  go_upto_region 4 with (first
    | (go_at_call 16; refine Calls.mono HP2.out ?_; rintro e w4 ⟨rfl, rfl⟩)
    | fail)
  obtain ⟨k, hk⟩ : ∃ k : Nat, 1 + pickM n 12 = (k : Int) := ⟨(1 + pickM n 12).toNat, by omega⟩
  have hk12 : Hid (1 ≤ k ∧ k ≤ 12) := by show _ ∧ _; omega
  rw [hk]
  clear hw2 hw2' hkz hk HP2
  go_wp2_with fail
  go_loopw [10, 11] (fun nd i wr => ∃ j : Nat, j ≤ k ∧ i = .int .i64 ((j : Int) + 1) ∧ nd = .int .i64 (spNeed c j) ∧ wr = w4) (fun _ i _ => k + 1 - (intOf i).toNat)
  case atStart => exact ⟨0, Nat.zero_le _, rfl, rfl, rfl⟩
  case round =>
    obtain ⟨j, hj, rfl, rfl, rfl⟩ := hrel
    have Hj := Lib.hid hj
    clear hj
    by_cases hjk : j < k
    · have hlt : ((j : Int) + 1) ≤ k := by omega
      have HM := Lib.hid (many_calls wr c ((j : Int) + 1) Hc.out (by have := hk12.out; omega))
      have hm6 := manyM_range c ((j : Int) + 1)
      have hnr := spNeed_range c j
      have hw3 : wrap64 (2 * manyM c ((j : Int) + 1)) = 2 * manyM c ((j : Int) + 1) := wrap_in _ (by omega)
      have hw4 : wrap64 (spNeed c j + 2 * manyM c ((j : Int) + 1)) = spNeed c j + 2 * manyM c ((j : Int) + 1) := wrap_in _ (by have := hk12.out; omega)
      have hw5 : wrap64 (spNeed c j + 2 * manyM c ((j : Int) + 1) + 2) = spNeed c j + 2 * manyM c ((j : Int) + 1) + 2 := wrap_in _ (by have := hk12.out; omega)
      have hw6 : wrap64 (((j : Int) + 1) + 1) = (j : Int) + 1 + 1 := wrap_in _ (by have := hk12.out; omega)
      have Hjk := Lib.hid hjk
      clear hm6 hnr hjk
      go_wp2_with (first
        | (go_at_call 24; refine Calls.mono HM.out ?_; rintro e w4 ⟨rfl, rfl⟩)
        | fail)
      go_roundw
      case rel => exact ⟨j + 1, Hjk.out, by simp [hw6], by simp only [hw3, hw4, hw5, spNeed_succ], by first | rfl | trivial⟩
      case measure =>
        have h9 := Hjk.out
        generalize wrap64 ((j : Int) + 1 + 1) = z at hw6 ⊢
        subst hw6
        clear hw3 hw4 hw5 hlt
        exact sp_meas j k h9
    · obtain rfl : j = k := by have := Hj.out; omega
      have hnlt : ¬ (((j : Int) + 1) ≤ j) := by omega
      have hnr := spNeed_range c j
      have hn8 : ¬ (spNeed c j < 8) := by have := hk12.out; omega
      obtain ⟨B, hB⟩ : ∃ B : Nat, spNeed c j = (B : Int) := ⟨(spNeed c j).toNat, by have := hk12.out; omega⟩
      have hB8 : Hid (8 ≤ B ∧ B ≤ 400 ∧ spNeed c j ≤ B) := by show _ ∧ _; have := hk12.out; omega
      have HB := Lib.hid (begun_calls (n := B) Hp3.out (by have := hB8.out; omega) (pause := 1) (by omega))
      rw [hB] at hn8 ⊢
      clear hnr hjk
      have hB' := Lib.hid hB
      clear hB
      go_upto_region 14 with (first
        | (go_at_call 17; refine Calls.mono HB.out ?_; rintro e w6 ⟨q, hqp, rfl, hs6, hl6, hz6⟩)
        | fail)
      have HL6 := Lib.hid (HL3.out.trans hl6)
      have hs6' : StAt w6 q [] (spM c (sp0 r B w.heap.size) 0) := by
        show StAt w6 q [] (StM.fresh B 1 ⟨[], [], rest300 r, 0, w.heap.size⟩)
        rw [HRR.out]; exact hs6
      have Hs6 := Lib.hid hs6'
      clear hs6 hs6' hl6 hz6 hn8 hnlt
      have Hqp := Lib.hid hqp
      clear hqp
      have hk12' := Lib.hid hk12.out
      go_wp2_with fail
      go_loopw [14] (fun i wr => ∃ m : Nat, m ≤ j ∧ i = .int .i64 ((m : Int) + 1) ∧ (∃ bl, StAt wr q bl (spM c (sp0 r B w.heap.size) m)) ∧ Low w.heap.size w wr) (fun i _ => j + 1 - (intOf i).toNat)
      case atStart => exact ⟨0, Nat.zero_le _, rfl, ⟨_, Hs6.out⟩, HL6.out⟩
      case round =>
        obtain ⟨m, hm, rfl, ⟨bl, hsm⟩, hlm⟩ := hrel
        have Hsm := Lib.hid hsm
        have Hlm := Lib.hid hlm
        have Hm := Lib.hid hm
        clear hsm hlm hm
        by_cases hmj : m < j
        · have Hmj := Lib.hid hmj
          have hlt : (m : Int) + 1 ≤ j := by omega
          have hnum : Hid (spNeed c (m + 1) ≤ B) := by
            have h1 := spNeed_mono c (m + 1) j Hmj.out
            have h2 := hB8.out.2.2
            show _ ≤ _; omega
          have hsn := (spN_range c (m + 1)).2.2
          rw [show ((m + 1 : Nat) : Int) = (m : Int) + 1 by omega] at hsn
          have HM := Lib.hid (many_calls wr c ((m : Int) + 1) Hc.out (by have := hk12.out; omega))
          have HS := Lib.hid (steps_calls wr ((m : Int) + 1) (spN c (m + 1)) (by have := hk12.out; omega) (by have := spN_range c (m + 1); omega))
          have HSub := Lib.hid (fun (w7 : World) (v : Value) (hf7 : New wr w7) (hv : StepsAt w7 v (kSteps ((m + 1 : Nat) : Int) (spN c (m + 1)))) => sp_sub Hr60.out (by have := hB8.out; omega) (by have := hk12.out; have := Hmj.out; omega) hnum.out (Hsm.out.keepK (hf7.toK (K := []) (fun _ _ f _ => f.elim)) (by simp)) hv)
          rw [show ((m + 1 : Nat) : Int) = (m : Int) + 1 by omega] at HSub
          have HT := Lib.hid (fun (w8 : World) (bl' : List Nat) (hs8 : StAt w8 q bl' (spSub c (spM c (sp0 r B w.heap.size) m) (m + 1))) => sp_tick Hr60.out (by have := hB8.out; omega) (by have := hk12.out; have := Hmj.out; omega) hnum.out hs8)
          have hsn' := Lib.hid hsn
          clear hmj
          rw [hsn] at HS
          clear hsn
          go_upto_region 16 with (first
            | (go_at_call 24; refine Calls.mono HM.out ?_; rintro e w7 ⟨rfl, rfl⟩)
            | (go_at_call 19; refine Calls.mono HS.out ?_; rintro e w7 ⟨sv, rfl, hsv, hf7⟩; obtain ⟨sa, sn, sc, rfl⟩ := own_slice hsv)
            | (go_at_call 18; refine Calls.mono (HSub.out _ _ hf7 (hsv.at (by rw [kSteps_len]; have := spN_range c (m + 1); omega))) ?_; rintro e w8 ⟨rfl, ⟨bl', hs8⟩, hk8, hl8⟩)
            | (go_at_call 20; refine Calls.mono (HT.out _ _ hs8) ?_; rintro e w9 ⟨rfl, hs9, hk9, hl9⟩)
            | fail)
          have HL9 := Lib.hid ((Hlm.out.trans (hf7.low Hlm.out.size (fun _ f => f.elim))).trans (hl8.trans hl9))
          have Hs9 := Lib.hid hs9
          have hw6 : wrap64 ((m : Int) + 1 + 1) = (m : Int) + 1 + 1 := wrap_in _ (by have := hk12.out; have := Hmj.out; omega)
          clear hf7 hsv hs8 hk8 hl8 hs9 hk9 hl9
          go_wp2_with fail
          go_roundw
          case rel => exact ⟨m + 1, Hmj.out, by simp [hw6], ⟨bl', Hs9.out⟩, HL9.out⟩
          case measure =>
            have h9 := Hmj.out
            generalize wrap64 ((m : Int) + 1 + 1) = z at hw6 ⊢
            subst hw6
            clear hlt
            exact sp_meas m j h9
        · obtain rfl : m = j := by have := Hm.out; omega
          have hnlt : ¬ ((m : Int) + 1 ≤ m) := by omega
          have hI := sp_all (c := c) (r := r) (lo := w.heap.size) (B := B) Hr60.out (by have := hB8.out; omega) m (by have := hk12.out; omega) hB8.out.2.2
          have HI := Lib.hid hI
          have HEnd := Lib.hid (spI_end Hr60.out hI (by have := hk12.out; omega))
          have HTk := Lib.hid (fun (t : Nat) (w8 : World) (ht : t < 120) (hs8 : StAt w8 q bl ((spM c (sp0 r B w.heap.size) m).ticks t)) => sp_tick2 Hr60.out (by have := hB8.out; omega) (by have := hk12.out; omega) hB8.out.2.2 ht hs8)
          generalize hSS : spM c (sp0 r B w.heap.size) m = S0 at Hsm HI HEnd HTk
          clear hI hSS hmj
          go_wp2_with fail
          go_loopw [16] (fun i wr => ∃ t : Nat, t ≤ 120 ∧ i = .int .i64 (t : Nat) ∧ StAt wr q bl (S0.ticks t) ∧ Low w.heap.size w wr) (fun i _ => 120 - (intOf i).toNat)
          case atStart => exact ⟨0, Nat.zero_le _, rfl, Hsm.out, Hlm.out⟩
          case round =>
            obtain ⟨t, ht, rfl, hst, hlt⟩ := hrel
            have Hst := Lib.hid hst
            have Hlt := Lib.hid hlt
            have Ht := Lib.hid ht
            clear hst hlt ht
            by_cases htT : t < 120
            · have HTk1 := Lib.hid (HTk.out t _ htT Hst.out)
              have htI : (t : Int) < 120 := by omega
              have htl := Lib.hid htT
              clear htT
              go_wp2_with (first
                | (go_at_call 20; refine Calls.mono HTk1.out ?_; rintro e w9 ⟨rfl, hs9, hk9, hl9⟩)
                | fail)
              go_roundw
              case rel => exact ⟨t + 1, htl.out, by go_num, hs9, Hlt.out.trans hl9⟩
              case measure => have := htl.out; simp [intOf]; omega
            · obtain rfl : t = 120 := by have := Ht.out; omega
              obtain ⟨e1, e2, e3, e4, e5, e6⟩ := HEnd.out
              generalize S0.ticks 120 = S at Hst e1 e2 e3 e4 e5 e6
              have Htl := Lib.hid (show S.sagas.length ≤ 12 by rw [e5]; exact hk12.out.2)
              have HA := Lib.hid (All_calls Hst.out e3.ord (fun g hg => ⟨(e3.ok g hg).1, (e3.ok g hg).2.1⟩) (by have := Htl.out; omega))
              have E1 := Lib.hid e1
              have E2 := Lib.hid e2
              have E3 := Lib.hid e3
              have E4 := Lib.hid e4
              have E5 := Lib.hid e5
              have E6 := Lib.hid e6
              clear e1 e2 e3 e4 e5 e6 htT
              go_upto_region 30 with (first
                | (go_at_call 32; refine Calls.mono HA.out ?_; rintro e w10 ⟨lv, rfl, hown, hbel⟩; obtain ⟨va, vc, rfl, hva⟩ : ∃ va vc, lv = .slice va S.sagas.length vc ∧ (S.sagas.length = 0 ∨ ∃ g, va = some ⟨g, 0, none⟩) := (by
                    rcases hown.2 with ⟨h1, h2⟩ | ⟨g, cap, cur, h1, _⟩
                    · exact ⟨none, 0, by rw [h1, h2], .inl h2⟩
                    · exact ⟨some ⟨g, 0, none⟩, cap, h1, .inr ⟨g, rfl⟩⟩))
                | fail)
              have hs10 := Hst.out.keepK (below_toK hbel (Nat.le_refl _) []) (by simp)
              have hpt := hs10.pt
              rw [Hqp.out] at hpt
              have Hpt := Lib.hid hpt
              have Hdk := Lib.hid hs10.dk
              have HL10 := Lib.hid (Hlt.out.trans (show Low w.heap.size _ w10 from ⟨hbel.os, hbel.tape, hbel.output, hbel.size, fun k hk => hbel.block k (by have := Hlt.out.size; omega)⟩))
              have Hown := Lib.hid hown
              have Hva := Lib.hid hva
              clear hs10 hpt hown hva hbel
              go_wp2_with fail
              go_loopw [19] (fun i wr => ∃ t : Nat, t ≤ S.sagas.length ∧ i = .int .i64 (t : Nat) ∧ New w10 wr) (fun i _ => S.sagas.length - (intOf i).toNat)
              case atStart => exact ⟨0, Nat.zero_le _, rfl, Fr.refl _ _⟩
              case round =>
                obtain ⟨t, ht, rfl, hf11⟩ := hrel
                have Ht2 := Lib.hid ht
                have Hf11 := Lib.hid hf11
                clear ht hf11
                by_cases htl : t < S.sagas.length
                · obtain ⟨gb, rfl⟩ : ∃ gb, va = some ⟨gb, 0, none⟩ := by
                    rcases Hva.out with h | h
                    · omega
                    · exact h
                  obtain ⟨g, hg⟩ : ∃ g, S.sagas[t]? = some g := ⟨S.sagas[t], List.getElem?_eq_getElem htl⟩
                  have htI : (t : Int) < S.sagas.length := by omega
                  obtain ⟨c0, c1, c2, c3, c4, c5⟩ := st_cells (own_New Hown.out Hf11.out) t g hg
                  have hmem := List.mem_of_getElem? hg
                  have hrch : reachedM S.p.effs g.id g.st g.steps.length = true := agree_reached (E1.out.ag g hmem)
                  have hst3 := E2.out g hmem
                  have heff : S.p.effs.length < 2 ^ 30 := by have := E4.out.2.1; omega
                  have HRch := Lib.hid (fun (w' : World) (hf : New wr w') => reached_calls (w := w') (p := S.p) (Hpt.out.keep (Nat.le_trans Hf11.out.size hf.size) (fun _ _ ho _ => hf.get (Hf11.out.get ho (fun f => f)) (fun f => f))) heff g.id g.st g.step g.steps.length g.tries g.due)
                  rw [hrch] at HRch
                  have HRc := Lib.hid (HRch.out wr (Fr.refl _ _))
                  have Hc1 := Lib.hid c1
                  have Htl2 := Lib.hid htl
                  clear hmem hrch heff hg htl
                  have hnst : ¬ (g.st < 3) := by omega
                  clear hst3
                  go_upto_region 32 with (first
                    | (go_at_call 23; refine Calls.mono HRc.out ?_; rintro e w13 ⟨rfl, hf13⟩; have d1 : w13.cell? ⟨gb, t * 6 + 1, none⟩ = some (.int .i64 g.st) := (World.cell?_of_block (hf13.block gb (World.block_lt_of_cell? wr _ Hc1.out) (fun f => f))).trans Hc1.out)
                    | fail)
                  have HN13 := Lib.hid (Hf11.out.trans hf13)
                  clear hf13 c0 c1 c2 c3 c4 c5 d1
                  have hl12 := Htl.out
                  go_wp2_with fail
                  go_roundw
                  case rel => exact ⟨t + 1, Htl2.out, by go_num, HN13.out⟩
                  case measure => have := Htl2.out; simp [intOf]; omega
                · obtain rfl : t = S.sagas.length := by have := Ht2.out; omega
                  have hnt : ¬ ((S.sagas.length : Int) < S.sagas.length) := by omega
                  have HTd := Lib.hid (Told_calls (Hdk.out.new Hf11.out))
                  rw [E6.out] at HTd
                  have hlm : (S.sagas.length : Int) = m := by rw [E5.out]
                  have HLf := Lib.hid (HL10.out.trans (Hf11.out.low HL10.out.size (fun _ f => f.elim)))
                  go_wp2_with (first
                    | (go_at_call 33; refine Calls.mono HTd.out ?_; rintro e w14 ⟨rfl, rfl⟩)
                    | fail)
                  go_ret
                  exact ⟨rfl, HLf.out⟩
end Go.Proofs.YtkafmfdipmhleaaGreatDoor
