/-
  What is proved: the contract of the statements' helper begun.
-/
import Derived.Test.YtkafmfdipmhleaaGreatDoorBga
import Derived.Test.YtkafmfdipmhleaaGreatDoorKt
namespace Go.Proofs.YtkafmfdipmhleaaGreatDoor
open Go.RowKit Go.Maps

theorem PAt.low {w w' : World} {pb : Nat} {p : PartM} (h : PAt w pb p) (hl : Low w.heap.size w w') (hs : w.heap.size ≤ w'.heap.size) : PAt w' pb p :=
  h.keep hs (fun k _ ho _ => (hl.block k (lt_of_hp ho)).trans ho)
theorem fits_of (d : DiskM) (h : 8 ≤ d.blocks.length ∧ d.blocks.length ≤ 400) : d.fits = true := by simp [DiskM.fits]; omega
/-- Format of a new disk. -/
theorem fmt_new {w : World} {db bb n : Nat} (h : DiskAt w db bb (DiskM.new n)) (hn : 8 ≤ n ∧ n ≤ 400) :
    Calls Tryz.prog 39 #[.pointer (some ⟨db, 0, none⟩)] w fun e w' => e = .returned .nilIface ∧ Fr (fun k => k = db ∨ k = bb) w w' ∧ DiskAt w' db bb (DiskM.fresh n) := by
  obtain ⟨r, hr⟩ := parse_zer
  have hl : (DiskM.new n).blocks.length = n := by simp [DiskM.new]
  refine Calls.mono (pFormat_calls h (new_quiet n) rfl r false (by rw [new_look0 n (by omega)]; exact hr)) ?_
  intro e w' he
  unfold sFmtPost at he
  rw [fits_of _ (by rw [hl]; exact hn)] at he
  have he : FmtPost w db bb (DiskM.new n) (nextEpoch r false) e w' := by simpa using he
  have : nextEpoch r false = 1 := by simp [nextEpoch]
  rw [this] at he
  exact he
/-- Open of a fresh disk. -/
theorem open_fresh {w : World} {db bb pb n : Nat} {p : PartM} (h : DiskAt w db bb (DiskM.fresh n)) (hp : PAt w pb p) (hlo : p.lo ≤ db ∧ p.lo ≤ bb) (hn : 8 ≤ n ∧ n ≤ 400) (pause : Int) (hpz : 1 ≤ pause ∧ pause ≤ 64) :
    Calls Tryz.prog 30 #[.pointer (some ⟨db, 0, none⟩), .int .i64 pause, .pointer (some ⟨pb, 0, none⟩)] w fun e w' => ∃ xb jb mb, e = .returned (.tuple #[.pointer (some ⟨xb, 0, none⟩), .nilIface]) ∧
      StAt w' ⟨xb, jb, mb, db, bb, pb⟩ [] (StM.fresh n pause p) ∧ Fr (· = db) w w' := by
  obtain ⟨r0, hr0, hk, he⟩ := parse_hdr
  obtain ⟨r1, hr1⟩ := parse_zer
  refine Calls.mono (pOpen0_calls h hp hlo (fresh_quiet n) r0 r1 false (by rw [fresh_look0 n (by omega)]; exact hr0) hk (by rw [fresh_look1 n (by omega)]; exact hr1) (by simp [atOk]) (fits_of _ (by rw [fresh_len]; exact hn)) pause hpz) ?_
  rintro e w' ⟨xb, jb, mb, rfl, _, hs, hf⟩
  rw [he] at hs
  exact ⟨xb, jb, mb, rfl, hs, hf⟩
theorem begun1_inv (lo : Nat) : (begun1 lo).inv ∧ (begun1 lo).fine (0 + (begun1 lo).sagas.length) := by
  have h0 := fresh_inv 20 1 ⟨[], [], [], 0, lo⟩ (by omega) (by omega)
  have hf : (StM.fresh 20 1 ⟨[], [], [], 0, lo⟩).fine 1 := ⟨by simp [StM.fresh], by simp [StM.fresh], by simp [StM.fresh], by simp [StM.fresh], by simp [StM.fresh], fun g hg => by simp [StM.fresh] at hg⟩
  have := submit_inv (id := 5) (l := kSteps 5 1) h0 hf (kSteps_whole 5 1 (by omega) (by omega)) (fun x hx => by simp [StM.fresh] at hx) (by
    have : (StM.fresh 20 1 ⟨[], [], [], 0, lo⟩).d.blocks.length = 20 := fresh_len 20
    rw [this]
    simp [StM.fresh, leftSum, kSteps_len])
  exact ⟨this.1, this.2⟩
theorem begun_sub {w : World} {q : Pl} {lo : Nat} {v : Value} (hs : StAt w q [] (StM.fresh 20 1 ⟨[], [], [], 0, lo⟩)) (hv : StepsAt w v (kSteps 5 1)) :
    Calls Tryz.prog 18 #[.pointer (some ⟨q.xb, 0, none⟩), .int .i64 5, v] w fun e w' => e = .returned .nilIface ∧ (∃ bl', StAt w' q bl' (begun1 lo)) ∧ FrK [0, 103, 104, 133, 80] w w' ∧ Low lo w w' :=
  Submit_calls (id := 5) (l := kSteps 5 1) hs (fresh_inv 20 1 ⟨[], [], [], 0, lo⟩ (by omega) (by omega)) hv (kSteps_whole 5 1 (by omega) (by omega)) (fun x hx => by simp [StM.fresh] at hx) (by
    have : (StM.fresh 20 1 ⟨[], [], [], 0, lo⟩).d.blocks.length = 20 := fresh_len 20
    rw [this]
    simp [StM.fresh, leftSum, kSteps_len])
theorem begun_tick {w : World} {q : Pl} {lo : Nat} {bl : List Nat} (hs : StAt w q bl (begun1 lo)) :
    Calls Tryz.prog 20 #[.pointer (some ⟨q.xb, 0, none⟩)] w fun e w' => e = .returned .nilIface ∧ StAt w' q bl (begun1 lo).tick ∧ FrK KT w w' ∧ Low lo w w' :=
  Tick_calls hs (begun1_inv lo).1 (begun1_inv lo).2 (show -9223372036854775808 ≤ (0 : Int) + 1 ∧ (0 : Int) + 1 ≤ 9223372036854775807 by omega)
theorem begun_status {w : World} {q : Pl} {lo : Nat} {bl : List Nat} (hs : StAt w q bl (begun1 lo).tick) :
    ∃ g : SagaM, g.st = 3 ∧ Calls Tryz.prog 21 #[.pointer (some ⟨q.xb, 0, none⟩), .int .i64 5] w fun e w' => e = .returned (.tuple #[.agg g.status, .nilIface]) ∧ New w w' := by
  obtain ⟨g, h1, h2, h3, _⟩ := begun1_tick lo
  refine ⟨g, h2, ?_⟩
  have ho := (tick_inv (m := 0) (begun1_inv lo).1 (begun1_inv lo).2).1.ord
  have := Status_calls (i := 0) (g := g) hs ho (by rw [h1]; rfl) (by omega)
  rw [h3] at this
  exact this
theorem begun_effs {w : World} {q : Pl} {lo : Nat} {bl : List Nat} (hs : StAt w q bl (begun1 lo).tick) : ∃ lv va vc iv at_, w.heap[q.pb]? = some (.cells #[lv, .slice va 1 vc, iv, at_] 44 (0, 0)) := by
  obtain ⟨lv, va, vc, iv, h, _⟩ := effs_read hs.pt
  obtain ⟨_, _, _, _, h4⟩ := begun1_tick lo
  rw [h4] at h
  exact ⟨lv, va, vc, iv, _, h⟩
set_option maxRecDepth 100000 in
set_option maxHeartbeats 4000000 in
theorem begun_calls {w : World} {pb n : Nat} {l : List Int} {lo : Nat} {pause : Int} (hp : PAt w pb ⟨[], [], l, 0, lo⟩) (hn : 8 ≤ n ∧ n ≤ 400) (hpz : 1 ≤ pause ∧ pause ≤ 64) :
    Calls Tryz.prog 17 #[.int .i64 n, .pointer (some ⟨pb, 0, none⟩), .int .i64 pause] w fun e w' => ∃ q : Pl, q.pb = pb ∧ e = .returned (.tuple #[.pointer (some ⟨q.db, 0, none⟩), .pointer (some ⟨q.xb, 0, none⟩)]) ∧
      StAt w' q [] (StM.fresh n pause ⟨[], [], l, 0, lo⟩) ∧ Low lo w w' ∧ w.heap.size ≤ w'.heap.size := by
  have Hp := Lib.hid hp
  have Hn := Lib.hid hn
  have Hpz := Lib.hid hpz
  clear hp hn hpz
  go_enter Tryz.func17, Tryz.ntmps17
  go_upto_region 3 with (first
    | (go_at_call 38; refine Calls.mono (NewDisk_calls w 20 (by omega)) ?_; rintro e w1 ⟨hf1, db, bb, hdb, hbb, rfl, hd1⟩)
    | (go_at_call 15; refine Calls.mono (NewPartner_calls (l := []) (.inl ⟨rfl, none, 0, rfl⟩) (by simp) w.heap.size hf1.size) ?_; rintro e w2 ⟨pq, rfl, hpq, hq2, hf2⟩)
    | fail)
  have HF3 := Lib.hid (fmt_new (hd1.new hf2) (by omega))
  have Hq2 := Lib.hid hq2
  have Hd1 := Lib.hid hd1
  have HL2 : Hid (Low w.heap.size w w2 ∧ w.heap.size ≤ w2.heap.size) := ⟨(hf1.low (Nat.le_refl _) (fun _ f => f.elim)).trans (hf2.low hf1.size (fun _ f => f.elim)), Nat.le_trans hf1.size hf2.size⟩
  have Hdb : Hid (w.heap.size ≤ db ∧ w.heap.size ≤ bb) := ⟨hdb, hbb⟩
  have Hf2 := Lib.hid hf2
  clear hdb hbb hf1 hd1 hpq hq2 hf2
  go_upto_region 4 with (first
    | (go_at_call 39; refine Calls.mono HF3.out ?_; rintro e w3 ⟨rfl, hf3, hd3⟩)
    | fail)
  have hdk : ∀ k, (k = db ∨ k = bb) → ∃ o, w2.heap[k]? = some o ∧ (kindOf o = 103 ∨ kindOf o = 104) := by
    obtain ⟨_, _, _, _, e1, e2, _⟩ := Hd1.out.new Hf2.out
    rintro k (rfl | rfl)
    · exact ⟨_, e1, .inl rfl⟩
    · exact ⟨_, e2, .inr rfl⟩
  have hk3 : FrK [103, 104] w2 w3 := hf3.toK (by
    intro k o hk ho
    obtain ⟨o', ho', h⟩ := hdk k hk
    rw [ho'] at ho; cases ho
    rcases h with h | h <;> simp [h])
  have HO4 := Lib.hid (open_fresh hd3 (Hq2.out.keepK hk3 (by decide) (by decide) (by decide) (by decide)) Hdb.out (by omega) 1 (by omega))
  have HL3 : Hid (Low w.heap.size w w3 ∧ w.heap.size ≤ w3.heap.size) := ⟨HL2.out.1.trans (hf3.low HL2.out.2 (by rintro k (rfl | rfl); exact Hdb.out.1; exact Hdb.out.2)), Nat.le_trans HL2.out.2 hf3.size⟩
  clear hf3 hd3 hdk hk3
  go_upto_region 7 with (first
    | (go_at_call 30; refine Calls.mono HO4.out ?_; rintro e w4 ⟨xb, jb, mb, rfl, hs4, hf4⟩)
    | fail)
  have Hs4 := Lib.hid hs4
  have HL4 : Hid (Low w.heap.size w w4 ∧ w.heap.size ≤ w4.heap.size) := ⟨HL3.out.1.trans (hf4.low HL3.out.2 (by rintro k rfl; exact Hdb.out.1)), Nat.le_trans HL3.out.2 hf4.size⟩
  have HSt := Lib.hid (steps_calls w4 5 1 (by omega) (by omega))
  have hi4 := fresh_inv 20 1 ⟨[], [], [], 0, w.heap.size⟩ (by omega) (by omega)
  have Hi4 := Lib.hid hi4
  clear hs4 hf4 hi4
  have HSub := Lib.hid (fun (w5 : World) (v : Value) (hf5 : New w4 w5) (hv : StepsAt w5 v (kSteps 5 1)) => begun_sub (Hs4.out.keepK (hf5.toK (K := []) (fun _ _ f _ => f.elim)) (by simp)) hv)
  go_upto_region 8 with (first
    | (go_at_call 19; refine Calls.mono HSt.out ?_; rintro e w5 ⟨sv, rfl, hsv, hf5⟩; obtain ⟨sa, sn, sc, rfl⟩ := own_slice hsv)
    | (go_at_call 18; refine Calls.mono (HSub.out _ _ hf5 (hsv.at (by rw [kSteps_len]; omega))) ?_; rintro e w6 ⟨rfl, ⟨bl, hs6⟩, hk6, hl6⟩)
    | fail)
  have HL6 : Hid (Low w.heap.size w w6 ∧ w.heap.size ≤ w6.heap.size) := ⟨(HL4.out.1.trans (hf5.low HL4.out.2 (fun _ f => f.elim))).trans hl6, Nat.le_trans HL4.out.2 (Nat.le_trans hf5.size hk6.size)⟩
  have HT := Lib.hid (begun_tick hs6)
  clear hsv hf5 hs6 hk6 hl6
  go_upto_region 9 with (first
    | (go_at_call 20; refine Calls.mono HT.out ?_; rintro e w7 ⟨rfl, hs7, hk7, hl7⟩)
    | fail)
  have HL7 : Hid (Low w.heap.size w w7 ∧ w.heap.size ≤ w7.heap.size) := ⟨HL6.out.1.trans hl7, Nat.le_trans HL6.out.2 hk7.size⟩
  obtain ⟨g, hg3, hst⟩ := begun_status hs7
  obtain ⟨lv, va, vc, iv, at_, hpb⟩ := begun_effs hs7
  have Hpb := Lib.hid hpb
  have HST := Lib.hid hst
  have Hg3 := Lib.hid hg3
  clear hs7 hk7 hl7 hpb hst hg3
  go_upto_region 10 with (first
    | (go_at_call 21; refine Calls.mono HST.out ?_; rintro e w8 ⟨rfl, hf8⟩; simp only [SagaM.status])
    | fail)
  have hc9 := heap_alloc_new w8 (.cells #[.int .i64 g.id, .int .i64 g.st, .int .i64 g.step, .int .i64 g.steps.length, .int .i64 g.tries, .int .i64 g.due] 38)
  have hq9 := heap_alloc_keep (.cells #[.int .i64 g.id, .int .i64 g.st, .int .i64 g.step, .int .i64 g.steps.length, .int .i64 g.tries, .int .i64 g.due] 38) (hf8.get Hpb.out (fun f => f))
  have hlt9 := lt_of_hp (hf8.get Hpb.out (fun f => f))
  have HL9 : Hid (Low w.heap.size w (w8.alloc (.cells #[.int .i64 g.id, .int .i64 g.st, .int .i64 g.step, .int .i64 g.steps.length, .int .i64 g.tries, .int .i64 g.due] 38)) ∧ w.heap.size ≤ (w8.alloc (.cells #[.int .i64 g.id, .int .i64 g.st, .int .i64 g.step, .int .i64 g.steps.length, .int .i64 g.tries, .int .i64 g.due] 38)).heap.size) := ⟨HL7.out.1.trans ((hf8.alloc (.cells #[.int .i64 g.id, .int .i64 g.st, .int .i64 g.step, .int .i64 g.steps.length, .int .i64 g.tries, .int .i64 g.due] 38)).low HL7.out.2 (fun _ f => f.elim)), Nat.le_trans HL7.out.2 (hf8.alloc (.cells #[.int .i64 g.id, .int .i64 g.st, .int .i64 g.step, .int .i64 g.steps.length, .int .i64 g.tries, .int .i64 g.due] 38)).size⟩
  clear hf8
  generalize w8.alloc (.cells #[.int .i64 g.id, .int .i64 g.st, .int .i64 g.step, .int .i64 g.steps.length, .int .i64 g.tries, .int .i64 g.due] 38) = W9 at hc9 hq9 HL9 ⊢
  generalize w8.heap.size = N9 at hc9 hlt9 ⊢
  rw [Hg3.out] at hc9
  have hq9' : W9.heap[pq]? = some (.cells #[lv, .slice va 1 vc, iv, at_] 44 (0, 0)) := hq9
  have a1 : W9.cell? ⟨N9, 1, none⟩ = some (.int .i64 3) := by rw [cellv, hc9]; rfl
  have a2 : W9.cell? ⟨pq, 1, none⟩ = some (.slice va 1 vc) := by rw [cellv, hq9']; rfl
  clear hc9 hq9 hq9'
  go_upto_region 13 with (first
    | (go_at_call 38; refine Calls.mono (NewDisk_calls W9 n (by have := Hn.out; omega)) ?_; rintro e w10 ⟨hf10, db', bb', hdb', hbb', rfl, hd10⟩)
    | fail)
  have HF10 := Lib.hid (fmt_new hd10 Hn.out)
  have HL10 : Hid (Low w.heap.size w w10 ∧ w.heap.size ≤ w10.heap.size) := ⟨HL9.out.1.trans (hf10.low HL9.out.2 (fun _ f => f.elim)), Nat.le_trans HL9.out.2 hf10.size⟩
  have Hdb' : Hid (w.heap.size ≤ db' ∧ w.heap.size ≤ bb') := ⟨Nat.le_trans HL9.out.2 hdb', Nat.le_trans HL9.out.2 hbb'⟩
  clear a1 a2 hlt9 hf10 hdb' hbb' hd10
  go_upto_region 14 with (first
    | (go_at_call 39; refine Calls.mono HF10.out ?_; rintro e w11 ⟨rfl, hf11, hd11⟩)
    | fail)
  have HL11 : Hid (Low w.heap.size w w11 ∧ w.heap.size ≤ w11.heap.size) := ⟨HL10.out.1.trans (hf11.low HL10.out.2 (by rintro k (rfl | rfl); exact Hdb'.out.1; exact Hdb'.out.2)), Nat.le_trans HL10.out.2 hf11.size⟩
  have hlo : lo ≤ w.heap.size := by
    obtain ⟨⟨_, _, _, _, _, _, _, _, hb, _⟩⟩ := Hp.out
    have := hb.1; have := hb.2.1; simp only at this; omega
  have Hlo := Lib.hid hlo
  have HO12 := Lib.hid (open_fresh hd11 (Hp.out.low HL11.out.1 HL11.out.2) ⟨Nat.le_trans hlo Hdb'.out.1, Nat.le_trans hlo Hdb'.out.2⟩ Hn.out pause Hpz.out)
  clear hf11 hd11 hlo
  go_wp2_with (first
    | (go_at_call 30; refine Calls.mono HO12.out ?_; rintro e w12 ⟨xb', jb', mb', rfl, hs12, hf12⟩)
    | fail)
  go_ret2
  refine ⟨⟨xb', jb', mb', db', bb', pb⟩, rfl, rfl, hs12, (HL11.out.1.trans (hf12.low HL11.out.2 (by rintro k rfl; exact Hdb'.out.1))).le Hlo.out, Nat.le_trans HL11.out.2 hf12.size⟩
end Go.Proofs.YtkafmfdipmhleaaGreatDoor
