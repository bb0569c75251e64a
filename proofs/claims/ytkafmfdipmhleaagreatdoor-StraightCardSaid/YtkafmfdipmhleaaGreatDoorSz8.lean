/-
  What is proved: the contract of Taken: it returns true, and leaves what was there as it was.
-/
import Derived.Test.YtkafmfdipmhleaaGreatDoorSz7

namespace Go.Proofs.YtkafmfdipmhleaaGreatDoor
open Go.RowKit Go.Maps

theorem disk_toK {w w' : World} {db bb : Nat} {d : DiskM} (h : DiskAt w db bb d) (hf : Fr (· = db) w w') : FrK [103] w w' := hf.toK (by
  rintro k o rfl ho
  obtain ⟨_, _, _, _, e1, _⟩ := h
  rw [e1] at ho; cases ho; simp [kindOf])
theorem StAt.disk {w w' : World} {q : Pl} {bl : List Nat} {s : StM} {d' : DiskM} (h : StAt w q bl s) (hf : Fr (· = q.db) w w') (hd : DiskAt w' q.db q.bb d') : StAt w' q bl { s with d := d' } := by
  have hk := disk_toK h.dk hf
  exact ⟨hk.block _ _ h.eng (by simp [kindOf]), h.jn.keepK hk (by decide), hd, h.pt.keepK hk (by decide) (by decide) (by decide) (by decide), map_keepK h.mp hk (by decide), h.len, sgs_keepK h.sg hk (by decide) (by decide), h.nd, h.lo⟩
theorem Handle.low {w w' : World} {B : Nat} (h : Handle w) (hl : Low B w w') (hB : 0 < B) : Handle w' := by
  unfold Handle at h ⊢
  rw [← h]; exact World.cell?_of_block (hl.block 0 hB)
theorem handle_pos {w : World} (h : Handle w) : 0 < w.heap.size := by
  have := World.block_lt_of_cell? w _ h
  exact this
def tk2 (n1 lo : Nat) (a : Int) : StM := { tk1 n1 lo with d := (tk1 n1 lo).d.cut a }
theorem tk1_sub {w : World} {q : Pl} {lo n1 : Nat} {v : Value} (hs : StAt w q [] (tk0 lo)) (hv : StepsAt w v (kSteps 1 n1)) (hn : 1 ≤ n1 ∧ n1 ≤ 6) :
    Calls Tryz.prog 18 #[.pointer (some ⟨q.xb, 0, none⟩), .int .i64 1, v] w fun e w' => e = .returned .nilIface ∧ (∃ bl', StAt w' q bl' (tk1 n1 lo)) ∧ FrK [0, 103, 104, 133, 80] w w' ∧ Low lo w w' :=
  Submit_calls (id := 1) (l := kSteps 1 n1) hs (fresh_inv 120 2 ⟨[], [], [], 0, lo⟩ (by omega) (by omega)) hv (kSteps_whole 1 n1 (by omega) hn) (fun x hx => by simp [tk0, StM.fresh] at hx) (by
    have h1 : (tk0 lo).d.blocks.length = 120 := fresh_len 120
    have h2 : (tk0 lo).j.en = 1 := rfl
    have h3 : (tk0 lo).sagas = [] := rfl
    rw [h1, h2, h3, kSteps_len]; simp [leftSum]; omega)
theorem tk1_inv (n1 lo : Nat) (hn : 1 ≤ n1 ∧ n1 ≤ 6) : (tk1 n1 lo).inv := by
  have h0 := fresh_inv 120 2 ⟨[], [], [], 0, lo⟩ (by omega) (by omega)
  have hf : (tk0 lo).fine 100 := ⟨by show 0 + 100 < 2 ^ 30; omega, by show 0 + 100 < 2 ^ 30; omega, by show 0 < 2 ^ 30; omega, by show (0 : Int) ≤ 0; omega, by show (0 : Int) + 100 < 2 ^ 30; omega, fun g hg => by simp [tk0, StM.fresh] at hg⟩
  exact (submit_inv (id := 1) (l := kSteps 1 n1) h0 hf (kSteps_whole 1 n1 (by omega) hn) (fun x hx => by simp [StM.fresh] at hx) (by
    have h1 : (tk0 lo).d.blocks.length = 120 := fresh_len 120
    have h2 : (tk0 lo).j.en = 1 := rfl
    have h3 : (tk0 lo).sagas = [] := rfl
    show ((tk0 lo).j.en : Int) + (2 + (2 * (kSteps 1 n1).length - 1) + leftSum (tk0 lo).sagas) ≤ (tk0 lo).d.blocks.length
    rw [h1, h2, h3, kSteps_len]; simp [leftSum]; omega)).1
theorem tk2_sub {w : World} {q : Pl} {bl : List Nat} {lo n1 n2 : Nat} {a : Int} {v : Value} (hs : StAt w q bl (tk2 n1 lo a)) (hg : Handle w) (hlo : 0 < lo) (hv : StepsAt w v (kSteps 2 n2)) (hn1 : 1 ≤ n1 ∧ n1 ≤ 6) (hn2 : 1 ≤ n2 ∧ n2 ≤ 6) :
    Calls Tryz.prog 18 #[.pointer (some ⟨q.xb, 0, none⟩), .int .i64 2, v] w (SubmitG w q (tk2 n1 lo a) 2 (kSteps 2 n2)) := by
  have hi := tk1_inv n1 lo hn1
  have hsg : (tk2 n1 lo a).sagas = [SagaM.new 1 (kSteps 1 n1)] := rfl
  have l1 := new_left 1 (kSteps 1 n1)
  rw [kSteps_len] at l1
  refine Submit_gen (id := 2) (l := kSteps 2 n2) hs ⟨fun _ => hi.pend, hi.epoch, hi.ok, hi.ord, hi.size⟩ hg hlo hv (kSteps_whole 2 n2 (by omega) hn2) (fun x hx => ?_) ?_
  · rw [hsg] at hx
    simp at hx
    rw [hx]; show (1 : Int) ≠ 2; omega
  · have h1 : (tk2 n1 lo a).d.blocks.length = 120 := by
      show (tk1 n1 lo).d.blocks.length = 120
      rw [(tk1_d n1 lo).1, B1_len]
    have h2 : (tk2 n1 lo a).j.en = 3 := rfl
    rw [h1, h2, hsg, kSteps_len]; simp [leftSum, l1]; omega
/-- What came of the second Submit. -/
def Tk3 (w : World) (q : Pl) (n1 n2 lo : Nat) (a : Int) (v : Value) : Prop :=
  ((v = .nilIface ∧ ((tk2 n1 lo a).d.appendA ⟨1, 3, false⟩ [bodyRec 2 (kSteps 2 n2), takenRec 2]).2 = true) ∨ ∃ nb, v = .iface 121 (.pointer (some ⟨nb, 0, none⟩))) ∧
    DiskAt w q.db q.bb ((tk2 n1 lo a).d.appendA ⟨1, 3, false⟩ [bodyRec 2 (kSteps 2 n2), takenRec 2]).1 ∧ PAt w q.pb ⟨[], [], [], 0, lo⟩
theorem tk2_sub3 {w : World} {q : Pl} {bl : List Nat} {lo n1 n2 : Nat} {a : Int} {v : Value} (hs : StAt w q bl (tk2 n1 lo a)) (hg : Handle w) (hlo : 0 < lo) (hv : StepsAt w v (kSteps 2 n2)) (hn1 : 1 ≤ n1 ∧ n1 ≤ 6) (hn2 : 1 ≤ n2 ∧ n2 ≤ 6) :
    Calls Tryz.prog 18 #[.pointer (some ⟨q.xb, 0, none⟩), .int .i64 2, v] w fun e w' => ∃ x, e = .returned x ∧ Tk3 w' q n1 n2 lo a x ∧ Low lo w w' := by
  refine Calls.mono (tk2_sub hs hg hlo hv hn1 hn2) ?_
  rintro e w' ⟨hk, hl, ⟨h1, rfl, bl', h2⟩ | ⟨h1, ⟨op, nb, _, rfl, _⟩, h2, h3, h4⟩⟩
  · exact ⟨_, rfl, ⟨.inl ⟨rfl, h1⟩, h2.dk, h2.pt⟩, hl⟩
  · exact ⟨_, rfl, ⟨.inr ⟨nb, rfl⟩, h3, h4⟩, hl⟩
theorem ints_Low {w w' : World} {v : Value} {l : List Int} (h : IntsIn w v l) (hl : Low w.heap.size w w') : IntsIn w' v l := by
  rcases h with h | ⟨b, off, cap, e, h2⟩
  · exact .inl h
  · refine .inr ⟨b, off, cap, e, fun j x hx => ?_⟩
    have h0 := h2 j x hx
    have hlt := World.block_lt_of_cell? w _ h0
    rw [← h0]; exact World.cell?_of_block (hl.block b hlt)
theorem own_in {w : World} {B : Nat} {v : Value} {l : List Int} (h : w.ownsRow B 3 1 v l.length (l.map encZ)) : IntsIn w v l := by
  obtain ⟨va, vc, rfl, hva⟩ := ids_shape h
  by_cases h0 : l = []
  · exact .inl ⟨h0, va, vc, by rw [h0]; rfl⟩
  · rcases hva with hva | ⟨g, rfl⟩
    · exact absurd (List.length_eq_zero_iff.1 hva) h0
    · exact .inr ⟨g, 0, vc, rfl, fun j x hx => by rw [Nat.zero_add]; exact ints_at h j x hx⟩
theorem tk_len (n1 lo : Nat) (a : Int) (rs : List RecM) : ((tk2 n1 lo a).d.appendA ⟨1, 3, false⟩ rs).1.blocks.length = 120 := by
  have h0 : (tk2 n1 lo a).d.blocks.length = 120 := by
    show (tk1 n1 lo).d.blocks.length = 120
    rw [(tk1_d n1 lo).1, B1_len]
  unfold DiskM.appendA
  rw [if_neg (by rintro ⟨h, _⟩; cases h), appendG_len, settle_len', h0]
/-- What was found. -/
theorem tk_found {n1 n2 lo a : Nat} (hn2 : 1 ≤ n2 ∧ n2 ≤ 6) (ha : a < 12) (ks : List Int) : ∃ two, TkBs n1 n2 two ((((tk2 n1 lo a).d.appendA ⟨1, 3, false⟩ [bodyRec 2 (kSteps 2 n2), takenRec 2]).1.after ks).blocks) ∧
    (((tk2 n1 lo a).d.appendA ⟨1, 3, false⟩ [bodyRec 2 (kSteps 2 n2), takenRec 2]).2 = true → two = true) := by
  obtain ⟨d1, d2, d3, d4, d5, d6⟩ := tk1_d n1 lo
  have ho : (tk2 n1 lo a).d.off = 11 + (a : Int) := by
    show wrap64 ((tk1 n1 lo).d.calls + a) = _
    rw [d3]; exact wrap_in _ (by omega)
  obtain ⟨h1, h2⟩ := tk_after n1 n2 hn2 (tk2 n1 lo a).d a d1 d2 d3 ho d5 d6 ks
  by_cases h : ((tk2 n1 lo a).d.appendA ⟨1, 3, false⟩ [bodyRec 2 (kSteps 2 n2), takenRec 2]).2 = true
  · exact ⟨true, h1 h, fun _ => rfl⟩
  · rcases h2 with h2 | h2
    · exact ⟨false, h2, fun h' => absurd h' h⟩
    · exact ⟨true, h2, fun h' => absurd h' h⟩
theorem tk_open {w : World} {eb gb pb lo n1 n2 : Nat} {two : Bool} {d : DiskM} (h : DiskAt w eb gb d) (hp : PAt w pb ⟨[], [], [], 0, lo⟩) (hlo : lo ≤ eb ∧ lo ≤ gb) (hq : d.quiet) (hc : d.calls = 0) (hpd : d.pend = none) (hb : TkBs n1 n2 two d.blocks) (hn1 : 1 ≤ n1 ∧ n1 ≤ 6) (hn2 : 1 ≤ n2 ∧ n2 ≤ 6) :
    Calls Tryz.prog 30 #[.pointer (some ⟨eb, 0, none⟩), .int .i64 2, .pointer (some ⟨pb, 0, none⟩)] w fun e w' => ∃ q bl d', q.pb = pb ∧ e = .returned (.tuple #[.pointer (some ⟨q.xb, 0, none⟩), .nilIface]) ∧ StAt w' q bl (tkY n1 n2 two d' lo) ∧ d'.quiet ∧ d'.pend = none ∧ d'.blocks.length = 120 ∧ Low lo w w' := by
  have hl := tk_bs_len hb
  obtain ⟨⟨r0, h0, hk, hep⟩, hev, hst, hok⟩ := tk_evs hn1 hn2 hpd hb
  have hel : evLen (tkEvs n1 n2 two) + 1 < d.blocks.length := by
    rw [hl]
    cases two
    · show 2 + 0 + 1 < 120; omega
    · show 2 + (2 + 0) + 1 < 120; omega
  have hev' : EvsOn d r0.epoch 1 (tkEvs n1 n2 two) := by rw [hep]; exact hev
  have hst' : JStop d r0.epoch (1 + evLen (tkEvs n1 n2 two)) := by rw [hep]; exact hst
  refine Calls.mono (pOpen_calls h hp hlo hq (by omega) r0 h0 hk (tkEvs n1 n2 two) hev' hst' hok hel (by simp [DiskM.fits]; omega) 2 (by omega)) ?_
  rintro e w' ⟨xb, jb, mb, bl, m, rfl, hx, hm, hs, hf⟩
  rw [hep] at hs
  refine ⟨⟨xb, jb, mb, eb, gb, pb⟩, bl, d.reads m, rfl, rfl, hs, hq, hpd, hl, hf.low ?_ (by rintro k rfl; exact hlo.1)⟩
  have := lt_of_hp hp.ex.choose_spec.choose_spec.choose_spec.choose_spec.1
  exact Nat.le_trans hlo.1 (Nat.le_of_lt (disk_lt h).1)
set_option maxRecDepth 100000 in
theorem tk_again {w : World} {q : Pl} {bl : List Nat} {n1 n2 lo : Nat} {two : Bool} {d : DiskM} {v : Value} (hs : StAt w q bl (tkY n1 n2 two d lo)) (hn1 : 1 ≤ n1 ∧ n1 ≤ 6) (hn2 : 1 ≤ n2 ∧ n2 ≤ 6) (hd : d.quiet ∧ d.pend = none ∧ d.blocks.length = 120) (hv : StepsAt w v (kSteps 2 n2)) :
    Calls Tryz.prog 18 #[.pointer (some ⟨q.xb, 0, none⟩), .int .i64 2, v] w fun e w' => e = .returned .nilIface ∧ (∃ bl', StAt w' q bl' (tkZ n1 n2 two d lo)) ∧ Low lo w w' := by
  obtain ⟨hi, _⟩ := tkY_inv (two := two) (lo := lo) hn1 hn2 hd.1 hd.2.1 hd.2.2
  cases two
  · refine Calls.mono (Submit_calls (id := 2) (l := kSteps 2 n2) hs hi hv (kSteps_whole 2 n2 (by omega) hn2) tkY_fresh (tkY_room hn1 hn2 hd.2.2)) ?_
    rintro e w' ⟨rfl, h1, _, h2⟩
    exact ⟨rfl, h1, h2⟩
  · have hg : (tkY n1 n2 true d lo).sagas[1]? = some (SagaM.new 2 (kSteps 2 n2)) := by rw [tkY_sagas]; rfl
    have hid : (SagaM.new 2 (kSteps 2 n2)).id = 2 := rfl
    have hw : wholeB (SagaM.new 2 (kSteps 2 n2)).id (kSteps 2 n2) = true := by rw [hid]; exact kSteps_whole 2 n2 (by omega) hn2
    have hS := Submit_there (g := SagaM.new 2 (kSteps 2 n2)) hs hi hg hv hw
    rw [hid] at hS
    refine Calls.mono hS ?_
    rintro e w' ⟨h1, h2⟩
    have hst : kSteps 2 n2 = (SagaM.new 2 (kSteps 2 n2)).steps := rfl
    rw [if_pos hst] at h2
    exact ⟨h2, ⟨bl, hs.keepK (h1.toK (K := []) (fun _ _ f _ => f.elim)) (by simp)⟩, h1.low hs.size (fun _ f => f.elim)⟩
theorem tk_tick {w : World} {q : Pl} {bl : List Nat} {n1 n2 lo t : Nat} {two : Bool} {d : DiskM} (hs : StAt w q bl ((tkZ n1 n2 two d lo).ticks t)) (ht : t < 6) (hn1 : 1 ≤ n1 ∧ n1 ≤ 6) (hn2 : 1 ≤ n2 ∧ n2 ≤ 6) (hd : d.quiet ∧ d.pend = none ∧ d.blocks.length = 120) :
    Calls Tryz.prog 20 #[.pointer (some ⟨q.xb, 0, none⟩)] w fun e w' => e = .returned .nilIface ∧ StAt w' q bl ((tkZ n1 n2 two d lo).ticks (t + 1)) ∧ FrK KT w w' ∧ Low lo w w' := by
  obtain ⟨k1, k2, k3, k4, k5, k6⟩ := tkZ_facts (two := two) (lo := lo) hn1 hn2 hd.1 hd.2.1 hd.2.2
  have hlen : (tkZ n1 n2 two d lo).sagas.length = 2 := by rw [k3]; rfl
  obtain ⟨a1, a2, a3, a4⟩ := ticks_inv (m := 2) k1 t (k2.mono (by rw [hlen]; omega))
  have := Tick_calls (m := 0) hs a1 (by rw [a4, hlen]; exact a2) (by rw [a3, k5]; omega)
  rw [show ((tkZ n1 n2 two d lo).ticks t).p.lo = lo from (ticks_lo _ t).trans k6] at this
  exact this
set_option maxRecDepth 100000 in
set_option maxHeartbeats 4000000 in
theorem Taken_calls {w : World} {c at_ : Int} {v : Value} {l : List Int} (hv : IntsIn w v l) (hc : i64 c) (ha : i64 at_) (hg : Handle w) :
    Calls Tryz.prog 7 #[.int .i64 c, .int .i64 at_, v] w fun e w' => e = .returned (.bool true) ∧ Low w.heap.size w w' := by
  have Hv := Lib.hid hv
  have Hc := Lib.hid hc
  have Ha := Lib.hid ha
  have Hg := Lib.hid hg
  have Hpos := Lib.hid (handle_pos hg)
  clear hv hc ha hg
  go_enter Tryz.func7, Tryz.ntmps7
  go_upto_region 2 with (first
    | (go_at_call 15; refine Calls.mono (NewPartner_calls (l := []) (.inl ⟨rfl, none, 0, rfl⟩) (by simp) w.heap.size (Nat.le_refl _)) ?_; rintro e w3 ⟨pb, rfl, hpb, hp3, hf3⟩)
    | fail)
  have HB := Lib.hid (begun_calls (n := 120) hp3 (by omega) (pause := 2) (by omega))
  have HL3 := Lib.hid (hf3.low (Nat.le_refl w.heap.size) (fun _ f => f.elim))
  clear hp3 hf3 hpb
  go_upto_region 5 with (first
    | (go_at_call 17; refine Calls.mono HB.out ?_; rintro e w6 ⟨q, hqp, rfl, hs6, hl6, hz6⟩)
    | fail)
  have HL6 := Lib.hid (HL3.out.trans hl6)
  have Hs6 : Hid (StAt w6 q [] (tk0 w.heap.size)) := hs6
  have Hqp := Lib.hid hqp
  clear hs6 hl6 hz6 hqp HB
  obtain ⟨n1, hn1⟩ : ∃ n1 : Nat, manyM c 1 = (n1 : Int) := ⟨(manyM c 1).toNat, by have := manyM_range c 1; omega⟩
  obtain ⟨n2, hn2⟩ : ∃ n2 : Nat, manyM c 2 = (n2 : Int) := ⟨(manyM c 2).toNat, by have := manyM_range c 2; omega⟩
  have Hn1 : Hid (1 ≤ n1 ∧ n1 ≤ 6) := by have := manyM_range c 1; show _ ∧ _; omega
  have Hn2 : Hid (1 ≤ n2 ∧ n2 ≤ 6) := by have := manyM_range c 2; show _ ∧ _; omega
  have HM1 := Lib.hid (fun (w' : World) => many_calls w' c 1 Hc.out (by omega))
  have HM2 := Lib.hid (fun (w' : World) => many_calls w' c 2 Hc.out (by omega))
  rw [hn1] at HM1
  rw [hn2] at HM2
  clear hn1 hn2
  have HS1 := Lib.hid (fun (w' : World) => steps_calls w' 1 n1 (by omega) (by have := Hn1.out; omega))
  have HS2 := Lib.hid (fun (w' : World) => steps_calls w' 2 n2 (by omega) (by have := Hn2.out; omega))
  have HSub := Lib.hid (fun (w7 : World) (v : Value) (hf7 : New w6 w7) (hv : StepsAt w7 v (kSteps 1 n1)) => tk1_sub (Hs6.out.keepK (hf7.toK (K := []) (fun _ _ f _ => f.elim)) (by simp)) hv Hn1.out)
  go_upto_region 6 with (first
    | (go_at_call 24; refine Calls.mono (HM1.out _) ?_; rintro e w7 ⟨rfl, rfl⟩)
    | (go_at_call 19; refine Calls.mono (HS1.out _) ?_; rintro e w7 ⟨sv, rfl, hsv, hf7⟩; obtain ⟨sa, sn, sc, rfl⟩ := own_slice hsv)
    | (go_at_call 18; refine Calls.mono (HSub.out _ _ hf7 (hsv.at (by rw [kSteps_len]; have := Hn1.out; omega))) ?_; rintro e w8 ⟨rfl, ⟨bl, hs8⟩, hk8, hl8⟩)
    | fail)
  have HL8 := Lib.hid ((HL6.out.trans (hf7.low HL6.out.size (fun _ f => f.elim))).trans hl8)
  have Hs8 := Lib.hid hs8
  clear hsv hf7 hs8 hk8 hl8 HSub HS1 HM1
  have hpk := pickM_range at_ 12 (by omega)
  have HPk := Lib.hid (fun (w' : World) => pick_calls w' at_ 12 Ha.out (by omega))
  obtain ⟨a, ha⟩ : ∃ a : Nat, pickM at_ 12 = (a : Int) := ⟨(pickM at_ 12).toNat, by omega⟩
  have Ha12 : Hid (a < 12) := by show _ < _; omega
  rw [ha] at HPk
  clear ha hpk
  have HOff := Lib.hid (fun (w' : World) (h : w' = w8) => h ▸ Off_calls Hs8.out.dk (a : Int))
  go_upto_region 7 with (first
    | (go_at_call 16; refine Calls.mono (HPk.out _) ?_; rintro e w9 ⟨rfl, rfl⟩)
    | (go_at_call 27; refine Calls.mono (HOff.out _ rfl) ?_; rintro e w9 ⟨rfl, hf9, hd9⟩)
    | fail)
  have hs9 : StAt w9 q bl (tk2 n1 w.heap.size a) := Hs8.out.disk hf9 hd9
  have HL9 := Lib.hid (HL8.out.trans (hf9.low HL8.out.size (by rintro k rfl; exact Hs8.out.lo.2.2.2.1)))
  have HSub := Lib.hid (fun (w7 : World) (v : Value) (hf7 : New w9 w7) (hv : StepsAt w7 v (kSteps 2 n2)) => tk2_sub3 (hs9.keepK (hf7.toK (K := []) (fun _ _ f _ => f.elim)) (by simp)) ((Hg.out.low HL9.out Hpos.out).new hf7) Hpos.out hv Hn1.out Hn2.out)
  clear hf9 hd9 hs9 HPk HOff
  go_upto_region 8 with (first
    | (go_at_call 24; refine Calls.mono (HM2.out _) ?_; rintro e w7 ⟨rfl, rfl⟩)
    | (go_at_call 19; refine Calls.mono (HS2.out _) ?_; rintro e w7 ⟨sv, rfl, hsv, hf7⟩; obtain ⟨sa, sn, sc, rfl⟩ := own_slice hsv)
    | (go_at_call 18; refine Calls.mono (HSub.out _ _ hf7 (hsv.at (by rw [kSteps_len]; have := Hn2.out; omega))) ?_; rintro e w10 ⟨ev, rfl, h3, hl10⟩)
    | fail)
  have HL10 := Lib.hid ((HL9.out.trans (hf7.low HL9.out.size (fun _ f => f.elim))).trans hl10)
  obtain ⟨hev, hd10, hp10⟩ := h3
  have Hev := Lib.hid hev
  have Hd10 := Lib.hid hd10
  have Hp10 := Lib.hid hp10
  have HFew := Lib.hid (few_in (ints_Low Hv.out HL10.out) 40 (by omega))
  obtain ⟨two, hbs, htwo⟩ := tk_found (n1 := n1) (n2 := n2) (lo := w.heap.size) (a := a) Hn2.out Ha12.out (l.take 40)
  have Hbs := Lib.hid hbs
  have Htwo := Lib.hid htwo
  have HAf := Lib.hid (fun (w11 : World) (kv : Value) (hf11 : New w10 w11) (hk : w11.ownsRow w10.heap.size 3 1 kv (l.take 40).length ((l.take 40).map encZ)) => After_calls (Hd10.out.new hf11) (by rw [tk_len]; omega) (own_in hk))
  clear hsv hf7 hl10 hev hd10 hp10 hbs htwo HSub
  go_upto_region 9 with (first
    | (go_at_call 14; refine Calls.mono HFew.out ?_; rintro e w11 ⟨kv, rfl, hown, hf11⟩)
    | (go_at_call 29; refine Calls.mono (HAf.out _ _ hf11 hown) ?_; rintro e w12 ⟨eb, gb, hebl, hgbl, rfl, hd12, hf12⟩)
    | fail)
  have HL12 := Lib.hid ((HL10.out.trans (hf11.low HL10.out.size (fun _ f => f.elim))).trans (hf12.low (Nat.le_trans HL10.out.size hf11.size) (fun _ f => f.elim)))
  have hz11 : w.heap.size ≤ w11.heap.size := Nat.le_trans HL10.out.size hf11.size
  have hp12 : PAt w12 pb ⟨[], [], [], 0, w.heap.size⟩ := by
    have := (Hp10.out.keep hf11.size (fun _ _ ho _ => hf11.get ho (fun f => f))).keep hf12.size (fun _ _ ho _ => hf12.get ho (fun f => f))
    rw [Hqp.out] at this
    exact this
  have HO := Lib.hid (tk_open hd12 hp12 ⟨Nat.le_trans hz11 hebl, Nat.le_trans hz11 hgbl⟩ ⟨by show (-1 : Int) < 0; omega, by show (0 : Int) ≤ 0; omega⟩ rfl rfl Hbs.out Hn1.out Hn2.out)
  clear hown hf11 hf12 hebl hgbl hd12 hz11 hp12 HFew HAf
  go_upto_region 12 with (first
    | (go_at_call 30; refine Calls.mono HO.out ?_; rintro e w13 ⟨q2, bl2, d2, hq2, rfl, hs13, hdq, hdp, hdl, hl13⟩)
    | fail)
  obtain ⟨hyi, hyf⟩ := tkY_inv (two := two) (lo := w.heap.size) Hn1.out Hn2.out hdq hdp hdl
  have hyl : (tkY n1 n2 two d2 w.heap.size).sagas.length ≤ 2 := by rw [tkY_sagas]; cases two <;> simp
  have HA := Lib.hid (All_gen (M := 10) hs13 hyi.ord (fun g hg => ⟨(hyi.ok g hg).1, (hyi.ok g hg).2.1⟩) ⟨by omega, by omega⟩ (by omega))
  have Hs13 := Lib.hid hs13
  have HL13 := Lib.hid (HL12.out.trans hl13)
  have Hyi := Lib.hid hyi
  have Hyf := Lib.hid hyf
  have Hdd := Lib.hid (And.intro hdq (And.intro hdp hdl))
  have Hq2 := Lib.hid hq2
  clear hs13 hl13 hyi hyf hyl hdq hdp hdl hq2 HO
  go_upto_region 13 with (first
    | (go_at_call 32; refine Calls.mono HA.out ?_; rintro e w14 ⟨lv, rfl, hown, hbel⟩; obtain ⟨va, vc, rfl, hva⟩ : ∃ va vc, lv = .slice va (tkY n1 n2 two d2 w.heap.size).sagas.length vc ∧ ((tkY n1 n2 two d2 w.heap.size).sagas.length = 0 ∨ ∃ g, va = some ⟨g, 0, none⟩) := (by
        rcases hown.2 with ⟨h1, h2⟩ | ⟨g, cap, cur, h1, _⟩
        · exact ⟨none, 0, by rw [h1, h2], .inl h2⟩
        · exact ⟨some ⟨g, 0, none⟩, cap, h1, .inr ⟨g, rfl⟩⟩))
    | fail)
  obtain ⟨gb2, rfl⟩ : ∃ g, va = some ⟨g, 0, none⟩ := by
    rcases hva with h | h
    · rw [tkY_sagas] at h; cases two <;> simp at h
    · exact h
  have hs14 := Hs13.out.keepK (below_toK hbel (Nat.le_refl _) []) (by simp)
  have HL14 := Lib.hid (HL13.out.trans (show Low w.heap.size _ w14 from ⟨hbel.os, hbel.tape, hbel.output, hbel.size, fun k hk => hbel.block k (by have := HL13.out.size; omega)⟩))
  have Hs14 := Lib.hid hs14
  clear hs14 hbel hva HA
  cases two with
  | false =>
    have hl1 : (tkY n1 n2 false d2 w.heap.size).sagas.length = 1 := by rw [tkY_sagas]; rfl
    rw [tkY_sagas] at hown
    have hown' : w14.ownsRow w13.heap.size 38 6 (.slice (some ⟨gb2, 0, none⟩) 1 vc) 1 (stCells [SagaM.new 1 (kSteps 1 n1)]) := hown
    rw [hl1]
    obtain ⟨c0, c1, c2, _⟩ := st_cells hown' 0 (SagaM.new 1 (kSteps 1 n1)) rfl
    have e0 : (SagaM.new 1 (kSteps 1 n1)).id = 1 := rfl
    have e1 : (SagaM.new 1 (kSteps 1 n1)).st = 1 := rfl
    have e2 : (SagaM.new 1 (kSteps 1 n1)).step = 1 := rfl
    rw [e0] at c0
    rw [e1] at c1
    rw [e2] at c2
    have hev := Hev.out
    obtain ⟨nb, rfl⟩ : ∃ nb, ev = .iface 121 (.pointer (some ⟨nb, 0, none⟩)) := by
      rcases hev with ⟨_, h⟩ | h
      · have := Htwo.out h; cases this
      · exact h
    clear e0 e1 e2 hev hl1 hown hown'
    go_upto_region 15 with fail
    refine wp_region_noPanic ?_
    refine wp_region_held_drew (S := (fun _ => True)) (by kernel_rfl) trivial (fun hHeld => ?_)
    refine wpAnyH_take (i := 0) (v := ?ve0) rfl (by kernel_rfl) (by kernel_rfl) (by kernel_rfl) (fun _ _ _ h => h) (Or.inl ⟨by rfl, ?ye0⟩) trivial ?re0
    case ye0 => intro w hSw; (try dsimp only at hSw); go_simp; (try with_reducible rfl)
    simp only [List.getElem_toArray, List.getElem_cons_zero, List.getElem_cons_succ, Act.put, List.setIfInBounds_toArray, List.set_cons_zero, List.set_cons_succ]
    refine wpAnyH_take (i := 1) (v := ?ve1) rfl (by kernel_rfl) (by kernel_rfl) (by kernel_rfl) (fun _ _ _ h => h) (Or.inl ⟨by rfl, ?ye1⟩) trivial ?re1
    case ye1 => intro w hSw; (try dsimp only at hSw); go_simp; (try with_reducible rfl)
    simp only [List.getElem_toArray, List.getElem_cons_zero, List.getElem_cons_succ, Act.put, List.setIfInBounds_toArray, List.set_cons_zero, List.set_cons_succ]
    refine wpAnyH_take (i := 2) (v := ?ve2) rfl (by kernel_rfl) (by kernel_rfl) (by kernel_rfl) (fun _ _ _ h => h) (Or.inl ⟨by rfl, ?ye2⟩) trivial ?re2
    case ye2 => intro w hSw; (try dsimp only at hSw); go_simp; (try with_reducible rfl)
    simp only [List.getElem_toArray, List.getElem_cons_zero, List.getElem_cons_succ, Act.put, List.setIfInBounds_toArray, List.set_cons_zero, List.set_cons_succ]
    refine wpAnyH_take (i := 3) (v := ?ve3) rfl (by kernel_rfl) (by kernel_rfl) (by kernel_rfl) (fun _ _ _ h => h) (Or.inl ⟨by rfl, ?ye3⟩) trivial ?re3
    case ye3 => intro w hSw; (try dsimp only at hSw); go_simp; (try with_reducible rfl)
    simp only [List.getElem_toArray, List.getElem_cons_zero, List.getElem_cons_succ, Act.put, List.setIfInBounds_toArray, List.set_cons_zero, List.set_cons_succ]
    refine wpAnyH_take (i := 4) (v := undef) rfl (by kernel_rfl) (by kernel_rfl) (by kernel_rfl) (fun _ _ _ h => h) (Or.inr ⟨by rfl, rfl⟩) trivial ?_
    simp only [List.getElem_toArray, List.getElem_cons_zero, List.getElem_cons_succ, Act.put, List.setIfInBounds_toArray, List.set_cons_zero, List.set_cons_succ]
    refine wpAnyH_take (i := 5) (v := undef) rfl (by kernel_rfl) (by kernel_rfl) (by kernel_rfl) (fun _ _ _ h => h) (Or.inr ⟨by rfl, rfl⟩) trivial ?_
    simp only [List.getElem_toArray, List.getElem_cons_zero, List.getElem_cons_succ, Act.put, List.setIfInBounds_toArray, List.set_cons_zero, List.set_cons_succ]
    refine wpAnyH_take (i := 6) (v := undef) rfl (by kernel_rfl) (by kernel_rfl) (by kernel_rfl) (fun _ _ _ h => h) (Or.inr ⟨by rfl, rfl⟩) trivial ?_
    simp only [List.getElem_toArray, List.getElem_cons_zero, List.getElem_cons_succ, Act.put, List.setIfInBounds_toArray, List.set_cons_zero, List.set_cons_succ]
    refine wpAnyH_take (i := 7) (v := undef) rfl (by kernel_rfl) (by kernel_rfl) (by kernel_rfl) (fun _ _ _ h => h) (Or.inr ⟨by rfl, rfl⟩) trivial ?_
    simp only [List.getElem_toArray, List.getElem_cons_zero, List.getElem_cons_succ, Act.put, List.setIfInBounds_toArray, List.set_cons_zero, List.set_cons_succ]
    refine wpAnyH_take (i := 8) (v := undef) rfl (by kernel_rfl) (by kernel_rfl) (by kernel_rfl) (fun _ _ _ h => h) (Or.inr ⟨by rfl, rfl⟩) trivial ?_
    simp only [List.getElem_toArray, List.getElem_cons_zero, List.getElem_cons_succ, Act.put, List.setIfInBounds_toArray, List.set_cons_zero, List.set_cons_succ]
    refine wpAnyH_take (i := 9) (v := undef) rfl (by kernel_rfl) (by kernel_rfl) (by kernel_rfl) (fun _ _ _ h => h) (Or.inr ⟨by rfl, rfl⟩) trivial ?_
    simp only [List.getElem_toArray, List.getElem_cons_zero, List.getElem_cons_succ, Act.put, List.setIfInBounds_toArray, List.set_cons_zero, List.set_cons_succ]
    refine wpAnyH_take (i := 10) (v := undef) rfl (by kernel_rfl) (by kernel_rfl) (by kernel_rfl) (fun _ _ _ h => h) (Or.inr ⟨by rfl, rfl⟩) trivial ?_
    simp only [List.getElem_toArray, List.getElem_cons_zero, List.getElem_cons_succ, Act.put, List.setIfInBounds_toArray, List.set_cons_zero, List.set_cons_succ]
    refine wpAnyH_take (i := 11) (v := undef) rfl (by kernel_rfl) (by kernel_rfl) (by kernel_rfl) (fun _ _ _ h => h) (Or.inr ⟨by rfl, rfl⟩) trivial ?_
    simp only [List.getElem_toArray, List.getElem_cons_zero, List.getElem_cons_succ, Act.put, List.setIfInBounds_toArray, List.set_cons_zero, List.set_cons_succ]
    refine wpAnyH_take (i := 12) (v := undef) rfl (by kernel_rfl) (by kernel_rfl) (by kernel_rfl) (fun _ _ _ h => h) (Or.inr ⟨by rfl, rfl⟩) trivial ?_
    simp only [List.getElem_toArray, List.getElem_cons_zero, List.getElem_cons_succ, Act.put, List.setIfInBounds_toArray, List.set_cons_zero, List.set_cons_succ]
    refine wpAnyH_take (i := 13) (v := undef) rfl (by kernel_rfl) (by kernel_rfl) (by kernel_rfl) (fun _ _ _ h => h) (Or.inr ⟨by rfl, rfl⟩) trivial ?_
    simp only [List.getElem_toArray, List.getElem_cons_zero, List.getElem_cons_succ, Act.put, List.setIfInBounds_toArray, List.set_cons_zero, List.set_cons_succ]
    refine wpAnyH_take (i := 14) (v := undef) rfl (by kernel_rfl) (by kernel_rfl) (by kernel_rfl) (fun _ _ _ h => h) (Or.inr ⟨by rfl, rfl⟩) trivial ?_
    simp only [List.getElem_toArray, List.getElem_cons_zero, List.getElem_cons_succ, Act.put, List.setIfInBounds_toArray, List.set_cons_zero, List.set_cons_succ]
    refine wpAnyH_take (i := 15) (v := undef) rfl (by kernel_rfl) (by kernel_rfl) (by kernel_rfl) (fun _ _ _ h => h) (Or.inr ⟨by rfl, rfl⟩) trivial ?_
    simp only [List.getElem_toArray, List.getElem_cons_zero, List.getElem_cons_succ, Act.put, List.setIfInBounds_toArray, List.set_cons_zero, List.set_cons_succ]
    refine wpAnyH_take (i := 16) (v := undef) rfl (by kernel_rfl) (by kernel_rfl) (by kernel_rfl) (fun _ _ _ h => h) (Or.inr ⟨by rfl, rfl⟩) trivial ?_
    simp only [List.getElem_toArray, List.getElem_cons_zero, List.getElem_cons_succ, Act.put, List.setIfInBounds_toArray, List.set_cons_zero, List.set_cons_succ]
    refine wpAnyH_take (i := 17) (v := undef) rfl (by kernel_rfl) (by kernel_rfl) (by kernel_rfl) (fun _ _ _ h => h) (Or.inr ⟨by rfl, rfl⟩) trivial ?_
    simp only [List.getElem_toArray, List.getElem_cons_zero, List.getElem_cons_succ, Act.put, List.setIfInBounds_toArray, List.set_cons_zero, List.set_cons_succ]
    refine wpAnyH_take (i := 18) (v := undef) rfl (by kernel_rfl) (by kernel_rfl) (by kernel_rfl) (fun _ _ _ h => h) (Or.inr ⟨by rfl, rfl⟩) trivial ?_
    simp only [List.getElem_toArray, List.getElem_cons_zero, List.getElem_cons_succ, Act.put, List.setIfInBounds_toArray, List.set_cons_zero, List.set_cons_succ]
    refine wpAnyH_take (i := 19) (v := undef) rfl (by kernel_rfl) (by kernel_rfl) (by kernel_rfl) (fun _ _ _ h => h) (Or.inr ⟨by rfl, rfl⟩) trivial ?_
    simp only [List.getElem_toArray, List.getElem_cons_zero, List.getElem_cons_succ, Act.put, List.setIfInBounds_toArray, List.set_cons_zero, List.set_cons_succ]
    refine wpAnyH_take (i := 20) (v := undef) rfl (by kernel_rfl) (by kernel_rfl) (by kernel_rfl) (fun _ _ _ h => h) (Or.inr ⟨by rfl, rfl⟩) trivial ?_
    simp only [List.getElem_toArray, List.getElem_cons_zero, List.getElem_cons_succ, Act.put, List.setIfInBounds_toArray, List.set_cons_zero, List.set_cons_succ]
    refine wpAnyH_take (i := 21) (v := undef) rfl (by kernel_rfl) (by kernel_rfl) (by kernel_rfl) (fun _ _ _ h => h) (Or.inr ⟨by rfl, rfl⟩) trivial ?_
    simp only [List.getElem_toArray, List.getElem_cons_zero, List.getElem_cons_succ, Act.put, List.setIfInBounds_toArray, List.set_cons_zero, List.set_cons_succ]
    refine wpAnyH_take (i := 22) (v := undef) rfl (by kernel_rfl) (by kernel_rfl) (by kernel_rfl) (fun _ _ _ h => h) (Or.inr ⟨by rfl, rfl⟩) trivial ?_
    simp only [List.getElem_toArray, List.getElem_cons_zero, List.getElem_cons_succ, Act.put, List.setIfInBounds_toArray, List.set_cons_zero, List.set_cons_succ]
    refine wpAnyH_take (i := 23) (v := undef) rfl (by kernel_rfl) (by kernel_rfl) (by kernel_rfl) (fun _ _ _ h => h) (Or.inr ⟨by rfl, rfl⟩) trivial ?_
    simp only [List.getElem_toArray, List.getElem_cons_zero, List.getElem_cons_succ, Act.put, List.setIfInBounds_toArray, List.set_cons_zero, List.set_cons_succ]
    refine wpAnyH_take (i := 24) (v := undef) rfl (by kernel_rfl) (by kernel_rfl) (by kernel_rfl) (fun _ _ _ h => h) (Or.inr ⟨by rfl, rfl⟩) trivial ?_
    simp only [List.getElem_toArray, List.getElem_cons_zero, List.getElem_cons_succ, Act.put, List.setIfInBounds_toArray, List.set_cons_zero, List.set_cons_succ]
    refine wpAnyH_take (i := 25) (v := undef) rfl (by kernel_rfl) (by kernel_rfl) (by kernel_rfl) (fun _ _ _ h => h) (Or.inr ⟨by rfl, rfl⟩) trivial ?_
    simp only [List.getElem_toArray, List.getElem_cons_zero, List.getElem_cons_succ, Act.put, List.setIfInBounds_toArray, List.set_cons_zero, List.set_cons_succ]
    refine wpAnyH_take (i := 26) (v := undef) rfl (by kernel_rfl) (by kernel_rfl) (by kernel_rfl) (fun _ _ _ h => h) (Or.inr ⟨by rfl, rfl⟩) trivial ?_
    simp only [List.getElem_toArray, List.getElem_cons_zero, List.getElem_cons_succ, Act.put, List.setIfInBounds_toArray, List.set_cons_zero, List.set_cons_succ]
    refine wpAnyH_take (i := 27) (v := undef) rfl (by kernel_rfl) (by kernel_rfl) (by kernel_rfl) (fun _ _ _ h => h) (Or.inr ⟨by rfl, rfl⟩) trivial ?_
    simp only [List.getElem_toArray, List.getElem_cons_zero, List.getElem_cons_succ, Act.put, List.setIfInBounds_toArray, List.set_cons_zero, List.set_cons_succ]
    refine wpAnyH_take (i := 28) (v := undef) rfl (by kernel_rfl) (by kernel_rfl) (by kernel_rfl) (fun _ _ _ h => h) (Or.inr ⟨by rfl, rfl⟩) trivial ?_
    simp only [List.getElem_toArray, List.getElem_cons_zero, List.getElem_cons_succ, Act.put, List.setIfInBounds_toArray, List.set_cons_zero, List.set_cons_succ]
    refine wpAnyH_take (i := 29) (v := undef) rfl (by kernel_rfl) (by kernel_rfl) (by kernel_rfl) (fun _ _ _ h => h) (Or.inr ⟨by rfl, rfl⟩) trivial ?_
    simp only [List.getElem_toArray, List.getElem_cons_zero, List.getElem_cons_succ, Act.put, List.setIfInBounds_toArray, List.set_cons_zero, List.set_cons_succ]
    refine wpAnyH_take (i := 30) (v := undef) rfl (by kernel_rfl) (by kernel_rfl) (by kernel_rfl) (fun _ _ _ h => h) (Or.inr ⟨by rfl, rfl⟩) trivial ?_
    simp only [List.getElem_toArray, List.getElem_cons_zero, List.getElem_cons_succ, Act.put, List.setIfInBounds_toArray, List.set_cons_zero, List.set_cons_succ]
    refine wpAnyH_take (i := 31) (v := undef) rfl (by kernel_rfl) (by kernel_rfl) (by kernel_rfl) (fun _ _ _ h => h) (Or.inr ⟨by rfl, rfl⟩) trivial ?_
    simp only [List.getElem_toArray, List.getElem_cons_zero, List.getElem_cons_succ, Act.put, List.setIfInBounds_toArray, List.set_cons_zero, List.set_cons_succ]
    refine wpAnyH_take (i := 32) (v := ?ve32) rfl (by kernel_rfl) (by kernel_rfl) (by kernel_rfl) (fun _ _ _ h => h) (Or.inl ⟨by rfl, ?ye32⟩) trivial ?re32
    case ye32 => intro w hSw; (try dsimp only at hSw); go_simp; (try with_reducible rfl)
    simp only [List.getElem_toArray, List.getElem_cons_zero, List.getElem_cons_succ, Act.put, List.setIfInBounds_toArray, List.set_cons_zero, List.set_cons_succ]
    refine wpAnyH_done (by kernel_rfl) ?_ _
    refine NoPanic.normal ?_
    have hs15 : StAt w14.drew q2 bl2 (tkY n1 n2 false d2 w.heap.size) := Hs14.out.keepK (((Fr.refl (fun _ => False) w14).drew).toK (K := []) (fun _ _ f _ => f.elim)) (by simp)
    have HL15 : Hid (Low w.heap.size w w14.drew) := HL14.out.trans (((Fr.refl (fun _ => False) w14).drew).low HL14.out.size (fun _ f => f.elim))
    have HSub := Lib.hid (fun (w7 : World) (v : Value) (hf7 : New w14.drew w7) (hv : StepsAt w7 v (kSteps 2 n2)) => tk_again (hs15.keepK (hf7.toK (K := []) (fun _ _ f _ => f.elim)) (by simp)) Hn1.out Hn2.out Hdd.out hv)
    have hpd : q2.pb = pb := Hq2.out
    clear hs15
    go_upto_region 18 with (first
      | (go_at_call 24; refine Calls.mono (HM2.out _) ?_; rintro e w7 ⟨rfl, rfl⟩)
      | (go_at_call 19; refine Calls.mono (HS2.out _) ?_; rintro e w16 ⟨sv, rfl, hsv, hf16⟩; obtain ⟨sa, sn, sc, rfl⟩ := own_slice hsv)
      | (go_at_call 18; refine Calls.mono (HSub.out _ _ hf16 (hsv.at (by rw [kSteps_len]; have := Hn2.out; omega))) ?_; rintro e w17 ⟨rfl, ⟨bl3, hs17⟩, hl17⟩)
      | fail)
    have HL17 := Lib.hid ((HL15.out.trans (hf16.low HL15.out.size (fun _ f => f.elim))).trans hl17)
    have Hs17 := Lib.hid hs17
    have Hpd := Lib.hid hpd
    clear hsv hf16 hs17 hl17 HSub hpd
    go_wp2_with fail
    go_loopw [17] (fun i wr => ∃ t : Nat, t ≤ 6 ∧ i = .int .i64 (t : Nat) ∧ StAt wr q2 bl3 ((tkZ n1 n2 false d2 w.heap.size).ticks t) ∧ Low w.heap.size w wr) (fun i _ => 6 - (intOf i).toNat)
    case atStart => exact ⟨0, Nat.zero_le _, rfl, Hs17.out, HL17.out⟩
    case round =>
      obtain ⟨t, ht, rfl, hst, hlt⟩ := hrel
      have Hst := Lib.hid hst
      have Hlt := Lib.hid hlt
      have Ht := Lib.hid ht
      clear hst hlt ht
      by_cases htT : t < 6
      · have HTk1 := Lib.hid (tk_tick Hst.out htT Hn1.out Hn2.out Hdd.out)
        have htI : (t : Int) < 6 := by omega
        have htl := Lib.hid htT
        clear htT
        go_wp2_with (first
          | (go_at_call 20; refine Calls.mono HTk1.out ?_; rintro e w19 ⟨rfl, hs19, hk19, hl19⟩)
          | fail)
        go_roundw
        case rel => exact ⟨t + 1, htl.out, by go_num, hs19, Hlt.out.trans hl19⟩
        case measure => have := htl.out; simp [intOf]; omega
      · obtain rfl : t = 6 := by have := Ht.out; omega
        obtain ⟨g, e1, e2, e3, e4, e5, e6, e7⟩ := tkZ_end (two := false) (lo := w.heap.size) Hn1.out Hn2.out Hdd.out.1 Hdd.out.2.1 Hdd.out.2.2
        generalize (tkZ n1 n2 false d2 w.heap.size).ticks 6 = S at Hst e1 e5 e6 e7
        have HSt := Lib.hid (Status_calls (i := 1) (g := g) Hst.out e6.ord e1 (by omega))
        rw [e2] at HSt
        have hpt := Hst.out.pt
        rw [Hpd.out] at hpt
        have heff : S.p.effs.length < 2 ^ 30 := by have := e7.2.1; omega
        obtain ⟨K, M, hsh, hK1, hK2, hK3⟩ := agree_shape e5
        have HStr := Lib.hid (fun (w' : World) (hf : New wr w') => straight_calls (hpt.keep hf.size (fun _ _ ho _ => hf.get ho (fun f => f))) heff 2 n2 K M hsh hK1 hK2 hK3 (by have := Hn2.out; omega))
        have Hst4 := Lib.hid e4
        clear e1 e2 e3 e4 e5 e6 e7 hpt heff hsh hK1 hK2 hK3 htT
        go_upto_region 23 with (first
          | (go_at_call 21; refine Calls.mono HSt.out ?_; rintro e w20 ⟨rfl, hf20⟩; simp only [SagaM.status])
          | fail)
        have hc21 := heap_alloc_new w20 (.cells #[.int .i64 g.id, .int .i64 g.st, .int .i64 g.step, .int .i64 g.steps.length, .int .i64 g.tries, .int .i64 g.due] 38)
        have hN21 := hf20.alloc (.cells #[.int .i64 g.id, .int .i64 g.st, .int .i64 g.step, .int .i64 g.steps.length, .int .i64 g.tries, .int .i64 g.due] 38)
        rw [Hst4.out] at hc21 hN21 ⊢
        generalize w20.alloc _ = W21 at hc21 hN21 ⊢
        generalize w20.heap.size = N21 at hc21 ⊢
        have Hc21 := Lib.hid hc21
        have HN21 := Lib.hid hN21
        have HStr2 := Lib.hid (HStr.out _ hN21)
        clear hf20 hc21 hN21
        go_upto_region 24 with (first
          | (go_at_call 24; refine Calls.mono (HM2.out _) ?_; rintro e w7 ⟨rfl, rfl⟩)
          | (go_at_call 22; refine Calls.mono HStr2.out ?_; rintro e w22 ⟨rfl, hf22⟩)
          | fail)
        have hc22 := hf22.get Hc21.out (fun f => f)
        have b1 : w22.cell? ⟨N21, 1, none⟩ = some (.int .i64 3) := by rw [cellv, hc22]; rfl
        have HLf := Lib.hid ((Hlt.out.trans (HN21.out.low Hlt.out.size (fun _ f => f.elim))).trans (hf22.low (Nat.le_trans Hlt.out.size HN21.out.size) (fun _ f => f.elim)))
        clear hc22 hf22
        go_wp2_with fail
        go_ret
        exact ⟨rfl, HLf.out⟩
  | true =>
    have hl1 : (tkY n1 n2 true d2 w.heap.size).sagas.length = 2 := by rw [tkY_sagas]; rfl
    rw [tkY_sagas] at hown
    have hown' : w14.ownsRow w13.heap.size 38 6 (.slice (some ⟨gb2, 0, none⟩) 2 vc) 2 (stCells [SagaM.new 1 (kSteps 1 n1), SagaM.new 2 (kSteps 2 n2)]) := hown
    rw [hl1]
    obtain ⟨c0, c1, c2, _⟩ := st_cells hown' 0 (SagaM.new 1 (kSteps 1 n1)) rfl
    obtain ⟨b0, b1, b2, b3, _⟩ := st_cells hown' 1 (SagaM.new 2 (kSteps 2 n2)) rfl
    have e0 : (SagaM.new 1 (kSteps 1 n1)).id = 1 := rfl
    have e1 : (SagaM.new 1 (kSteps 1 n1)).st = 1 := rfl
    have e2 : (SagaM.new 1 (kSteps 1 n1)).step = 1 := rfl
    have f0 : (SagaM.new 2 (kSteps 2 n2)).id = 2 := rfl
    have f1 : (SagaM.new 2 (kSteps 2 n2)).st = 1 := rfl
    have f2 : (SagaM.new 2 (kSteps 2 n2)).step = 1 := rfl
    have f3 : (SagaM.new 2 (kSteps 2 n2)).steps.length = n2 := kSteps_len 2 n2
    rw [e0] at c0
    rw [e1] at c1
    rw [e2] at c2
    rw [f0] at b0
    rw [f1] at b1
    rw [f2] at b2
    rw [f3] at b3
    have hS0 : w14.cell? ⟨gb2, 6, none⟩ = some (.int .i64 2) ∧ w14.cell? ⟨gb2, 7, none⟩ = some (.int .i64 1) ∧ w14.cell? ⟨gb2, 8, none⟩ = some (.int .i64 1) ∧ w14.cell? ⟨gb2, 9, none⟩ = some (.int .i64 n2) := ⟨b0, b1, b2, b3⟩
    have HS0 := Lib.hid hS0
    clear e0 e1 e2 f0 f1 f2 f3 b0 b1 b2 b3 hS0 hl1 hown hown'
    rcases Hev.out with ⟨rfl, _⟩ | ⟨nb, rfl⟩
    · go_upto_region 15 with fail
      clear c0 c1 c2
      refine wp_region_noPanic ?_
      refine wp_region_held_drew (S := (fun w' => w'.cell? ⟨gb2, 6, none⟩ = some (.int .i64 2) ∧ w'.cell? ⟨gb2, 7, none⟩ = some (.int .i64 1) ∧ w'.cell? ⟨gb2, 8, none⟩ = some (.int .i64 1) ∧ w'.cell? ⟨gb2, 9, none⟩ = some (.int .i64 n2))) (by kernel_rfl) HS0.out (fun hHeld => ?_)
      refine wpAnyH_take (i := 0) (v := ?vf0) rfl (by kernel_rfl) (by kernel_rfl) (by kernel_rfl) (fun _ _ _ h => h) (Or.inl ⟨by rfl, ?yf0⟩) HS0.out ?rf0
      case yf0 => intro w hSw; (try dsimp only at hSw); go_simp; (try with_reducible rfl)
      simp only [List.getElem_toArray, List.getElem_cons_zero, List.getElem_cons_succ, Act.put, List.setIfInBounds_toArray, List.set_cons_zero, List.set_cons_succ]
      refine wpAnyH_take (i := 1) (v := ?vf1) rfl (by kernel_rfl) (by kernel_rfl) (by kernel_rfl) (fun _ _ _ h => h) (Or.inl ⟨by rfl, ?yf1⟩) HS0.out ?rf1
      case yf1 => intro w hSw; (try dsimp only at hSw); go_simp; (try with_reducible rfl)
      simp only [List.getElem_toArray, List.getElem_cons_zero, List.getElem_cons_succ, Act.put, List.setIfInBounds_toArray, List.set_cons_zero, List.set_cons_succ]
      refine wpAnyH_take (i := 2) (v := ?vf2) rfl (by kernel_rfl) (by kernel_rfl) (by kernel_rfl) (fun _ _ _ h => h) (Or.inl ⟨by rfl, ?yf2⟩) HS0.out ?rf2
      case yf2 => intro w hSw; (try dsimp only at hSw); go_simp; (try with_reducible rfl)
      simp only [List.getElem_toArray, List.getElem_cons_zero, List.getElem_cons_succ, Act.put, List.setIfInBounds_toArray, List.set_cons_zero, List.set_cons_succ]
      refine wpAnyH_take (i := 3) (v := ?vf3) rfl (by kernel_rfl) (by kernel_rfl) (by kernel_rfl) (fun _ _ _ h => h) (Or.inl ⟨by rfl, ?yf3⟩) HS0.out ?rf3
      case yf3 => intro w hSw; (try dsimp only at hSw); go_simp; (try with_reducible rfl)
      simp only [List.getElem_toArray, List.getElem_cons_zero, List.getElem_cons_succ, Act.put, List.setIfInBounds_toArray, List.set_cons_zero, List.set_cons_succ]
      refine wpAnyH_take (i := 4) (v := ?vf4) rfl (by kernel_rfl) (by kernel_rfl) (by kernel_rfl) (fun _ _ _ h => h) (Or.inl ⟨by rfl, ?yf4⟩) HS0.out ?rf4
      case yf4 => intro w hSw; (try dsimp only at hSw); go_simp; (try with_reducible rfl)
      simp only [List.getElem_toArray, List.getElem_cons_zero, List.getElem_cons_succ, Act.put, List.setIfInBounds_toArray, List.set_cons_zero, List.set_cons_succ]
      refine wpAnyH_take (i := 5) (v := ?vf5) rfl (by kernel_rfl) (by kernel_rfl) (by kernel_rfl) (fun _ _ _ h => h) (Or.inl ⟨by rfl, ?yf5⟩) HS0.out ?rf5
      case yf5 => intro w hSw; (try dsimp only at hSw); go_simp; (try with_reducible rfl)
      simp only [List.getElem_toArray, List.getElem_cons_zero, List.getElem_cons_succ, Act.put, List.setIfInBounds_toArray, List.set_cons_zero, List.set_cons_succ]
      refine wpAnyH_take (i := 6) (v := ?vf6) rfl (by kernel_rfl) (by kernel_rfl) (by kernel_rfl) (fun _ _ _ h => h) (Or.inl ⟨by rfl, ?yf6⟩) HS0.out ?rf6
      case yf6 => intro w hSw; (try dsimp only at hSw); go_simp; (try with_reducible rfl)
      simp only [List.getElem_toArray, List.getElem_cons_zero, List.getElem_cons_succ, Act.put, List.setIfInBounds_toArray, List.set_cons_zero, List.set_cons_succ]
      refine wpAnyH_take (i := 7) (v := ?vf7) rfl (by kernel_rfl) (by kernel_rfl) (by kernel_rfl) (fun _ _ _ h => h) (Or.inl ⟨by rfl, ?yf7⟩) HS0.out ?rf7
      case yf7 => intro w hSw; (try dsimp only at hSw); go_simp; (try with_reducible rfl)
      simp only [List.getElem_toArray, List.getElem_cons_zero, List.getElem_cons_succ, Act.put, List.setIfInBounds_toArray, List.set_cons_zero, List.set_cons_succ]
      refine wpAnyH_take (i := 8) (v := ?vf8) rfl (by kernel_rfl) (by kernel_rfl) (by kernel_rfl) (fun _ _ _ h => h) (Or.inl ⟨by rfl, ?yf8⟩) HS0.out ?rf8
      case yf8 => intro w hSw; (try dsimp only at hSw); go_simp; (try with_reducible rfl)
      simp only [List.getElem_toArray, List.getElem_cons_zero, List.getElem_cons_succ, Act.put, List.setIfInBounds_toArray, List.set_cons_zero, List.set_cons_succ]
      refine wpAnyH_take (i := 9) (v := ?vf9) rfl (by kernel_rfl) (by kernel_rfl) (by kernel_rfl) (fun _ _ _ h => h) (Or.inl ⟨by rfl, ?yf9⟩) HS0.out ?rf9
      case yf9 => intro w hSw; (try dsimp only at hSw); go_simp; (try with_reducible rfl)
      simp only [List.getElem_toArray, List.getElem_cons_zero, List.getElem_cons_succ, Act.put, List.setIfInBounds_toArray, List.set_cons_zero, List.set_cons_succ]
      refine wpAnyH_take (i := 10) (v := ?vf10) rfl (by kernel_rfl) (by kernel_rfl) (by kernel_rfl) (fun _ _ _ h => h) (Or.inl ⟨by rfl, ?yf10⟩) HS0.out ?rf10
      case yf10 => intro w hSw; (try dsimp only at hSw); go_simp; (try with_reducible rfl)
      simp only [List.getElem_toArray, List.getElem_cons_zero, List.getElem_cons_succ, Act.put, List.setIfInBounds_toArray, List.set_cons_zero, List.set_cons_succ]
      refine wpAnyH_take (i := 11) (v := ?vf11) rfl (by kernel_rfl) (by kernel_rfl) (by kernel_rfl) (fun _ _ _ h => h) (Or.inl ⟨by rfl, ?yf11⟩) HS0.out ?rf11
      case yf11 => intro w hSw; (try dsimp only at hSw); go_simp; (try with_reducible rfl)
      simp only [List.getElem_toArray, List.getElem_cons_zero, List.getElem_cons_succ, Act.put, List.setIfInBounds_toArray, List.set_cons_zero, List.set_cons_succ]
      refine wpAnyH_take (i := 12) (v := ?vf12) rfl (by kernel_rfl) (by kernel_rfl) (by kernel_rfl) (fun _ _ _ h => h) (Or.inl ⟨by rfl, ?yf12⟩) HS0.out ?rf12
      case yf12 => intro w hSw; (try dsimp only at hSw); go_simp; (try with_reducible rfl)
      simp only [List.getElem_toArray, List.getElem_cons_zero, List.getElem_cons_succ, Act.put, List.setIfInBounds_toArray, List.set_cons_zero, List.set_cons_succ]
      refine wpAnyH_take (i := 13) (v := ?vf13) rfl (by kernel_rfl) (by kernel_rfl) (by kernel_rfl) (fun _ _ _ h => h) (Or.inl ⟨by rfl, ?yf13⟩) HS0.out ?rf13
      case yf13 => intro w hSw; (try dsimp only at hSw); go_simp; (try with_reducible rfl)
      simp only [List.getElem_toArray, List.getElem_cons_zero, List.getElem_cons_succ, Act.put, List.setIfInBounds_toArray, List.set_cons_zero, List.set_cons_succ]
      refine wpAnyH_take (i := 14) (v := ?vf14) rfl (by kernel_rfl) (by kernel_rfl) (by kernel_rfl) (fun _ _ _ h => h) (Or.inl ⟨by rfl, ?yf14⟩) HS0.out ?rf14
      case yf14 => intro w hSw; (try dsimp only at hSw); go_simp; (try with_reducible rfl)
      simp only [List.getElem_toArray, List.getElem_cons_zero, List.getElem_cons_succ, Act.put, List.setIfInBounds_toArray, List.set_cons_zero, List.set_cons_succ]
      refine wpAnyH_take (i := 15) (v := ?vf15) rfl (by kernel_rfl) (by kernel_rfl) (by kernel_rfl) (fun _ _ _ h => h) (Or.inl ⟨by rfl, ?yf15⟩) HS0.out ?rf15
      case yf15 => intro w hSw; (try dsimp only at hSw); go_simp; (try with_reducible rfl)
      simp only [List.getElem_toArray, List.getElem_cons_zero, List.getElem_cons_succ, Act.put, List.setIfInBounds_toArray, List.set_cons_zero, List.set_cons_succ]
      refine wpAnyH_take (i := 16) (v := ?vf16) rfl (by kernel_rfl) (by kernel_rfl) (by kernel_rfl) (fun _ _ _ h => h) (Or.inl ⟨by rfl, ?yf16⟩) HS0.out ?rf16
      case yf16 => intro w hSw; (try dsimp only at hSw); go_simp; (try with_reducible rfl)
      simp only [List.getElem_toArray, List.getElem_cons_zero, List.getElem_cons_succ, Act.put, List.setIfInBounds_toArray, List.set_cons_zero, List.set_cons_succ]
      refine wpAnyH_take (i := 17) (v := ?vf17) rfl (by kernel_rfl) (by kernel_rfl) (by kernel_rfl) (fun _ _ _ h => h) (Or.inl ⟨by rfl, ?yf17⟩) HS0.out ?rf17
      case yf17 => intro w hSw; (try dsimp only at hSw); go_simp; (try with_reducible rfl)
      simp only [List.getElem_toArray, List.getElem_cons_zero, List.getElem_cons_succ, Act.put, List.setIfInBounds_toArray, List.set_cons_zero, List.set_cons_succ]
      refine wpAnyH_take (i := 18) (v := ?vf18) rfl (by kernel_rfl) (by kernel_rfl) (by kernel_rfl) (fun _ _ _ h => h) (Or.inl ⟨by rfl, ?yf18⟩) HS0.out ?rf18
      case yf18 => intro w hSw; (try dsimp only at hSw); go_simp; (try with_reducible rfl)
      simp only [List.getElem_toArray, List.getElem_cons_zero, List.getElem_cons_succ, Act.put, List.setIfInBounds_toArray, List.set_cons_zero, List.set_cons_succ]
      refine wpAnyH_take (i := 19) (v := ?vf19) rfl (by kernel_rfl) (by kernel_rfl) (by kernel_rfl) (fun _ _ _ h => h) (Or.inl ⟨by rfl, ?yf19⟩) HS0.out ?rf19
      case yf19 => intro w hSw; (try dsimp only at hSw); go_simp; (try with_reducible rfl)
      simp only [List.getElem_toArray, List.getElem_cons_zero, List.getElem_cons_succ, Act.put, List.setIfInBounds_toArray, List.set_cons_zero, List.set_cons_succ]
      refine wpAnyH_take (i := 20) (v := ?vf20) rfl (by kernel_rfl) (by kernel_rfl) (by kernel_rfl) (fun _ _ _ h => h) (Or.inl ⟨by rfl, ?yf20⟩) HS0.out ?rf20
      case yf20 => intro w hSw; (try dsimp only at hSw); go_simp; (try with_reducible rfl)
      simp only [List.getElem_toArray, List.getElem_cons_zero, List.getElem_cons_succ, Act.put, List.setIfInBounds_toArray, List.set_cons_zero, List.set_cons_succ]
      refine wpAnyH_take (i := 21) (v := ?vf21) rfl (by kernel_rfl) (by kernel_rfl) (by kernel_rfl) (fun _ _ _ h => h) (Or.inl ⟨by rfl, ?yf21⟩) HS0.out ?rf21
      case yf21 => intro w hSw; (try dsimp only at hSw); go_simp; (try with_reducible rfl)
      simp only [List.getElem_toArray, List.getElem_cons_zero, List.getElem_cons_succ, Act.put, List.setIfInBounds_toArray, List.set_cons_zero, List.set_cons_succ]
      refine wpAnyH_take (i := 22) (v := ?vf22) rfl (by kernel_rfl) (by kernel_rfl) (by kernel_rfl) (fun _ _ _ h => h) (Or.inl ⟨by rfl, ?yf22⟩) HS0.out ?rf22
      case yf22 => intro w hSw; (try dsimp only at hSw); go_simp; (try with_reducible rfl)
      simp only [List.getElem_toArray, List.getElem_cons_zero, List.getElem_cons_succ, Act.put, List.setIfInBounds_toArray, List.set_cons_zero, List.set_cons_succ]
      refine wpAnyH_take (i := 23) (v := ?vf23) rfl (by kernel_rfl) (by kernel_rfl) (by kernel_rfl) (fun _ _ _ h => h) (Or.inl ⟨by rfl, ?yf23⟩) HS0.out ?rf23
      case yf23 => intro w hSw; (try dsimp only at hSw); go_simp; (try with_reducible rfl)
      simp only [List.getElem_toArray, List.getElem_cons_zero, List.getElem_cons_succ, Act.put, List.setIfInBounds_toArray, List.set_cons_zero, List.set_cons_succ]
      refine wpAnyH_take (i := 24) (v := ?vf24) rfl (by kernel_rfl) (by kernel_rfl) (by kernel_rfl) (fun _ _ _ h => h) (Or.inl ⟨by rfl, ?yf24⟩) HS0.out ?rf24
      case yf24 => intro w hSw; (try dsimp only at hSw); go_simp; (try with_reducible rfl)
      simp only [List.getElem_toArray, List.getElem_cons_zero, List.getElem_cons_succ, Act.put, List.setIfInBounds_toArray, List.set_cons_zero, List.set_cons_succ]
      refine wpAnyH_take (i := 25) (v := ?vf25) rfl (by kernel_rfl) (by kernel_rfl) (by kernel_rfl) (fun _ _ _ h => h) (Or.inl ⟨by rfl, ?yf25⟩) HS0.out ?rf25
      case yf25 => intro w hSw; (try dsimp only at hSw); go_simp; (try with_reducible rfl)
      simp only [List.getElem_toArray, List.getElem_cons_zero, List.getElem_cons_succ, Act.put, List.setIfInBounds_toArray, List.set_cons_zero, List.set_cons_succ]
      refine wpAnyH_take (i := 26) (v := ?vf26) rfl (by kernel_rfl) (by kernel_rfl) (by kernel_rfl) (fun _ _ _ h => h) (Or.inl ⟨by rfl, ?yf26⟩) HS0.out ?rf26
      case yf26 => intro w hSw; (try dsimp only at hSw); go_simp; (try with_reducible rfl)
      simp only [List.getElem_toArray, List.getElem_cons_zero, List.getElem_cons_succ, Act.put, List.setIfInBounds_toArray, List.set_cons_zero, List.set_cons_succ]
      refine wpAnyH_take (i := 27) (v := ?vf27) rfl (by kernel_rfl) (by kernel_rfl) (by kernel_rfl) (fun _ _ _ h => h) (Or.inl ⟨by rfl, ?yf27⟩) HS0.out ?rf27
      case yf27 => intro w hSw; (try dsimp only at hSw); go_simp; (try with_reducible rfl)
      simp only [List.getElem_toArray, List.getElem_cons_zero, List.getElem_cons_succ, Act.put, List.setIfInBounds_toArray, List.set_cons_zero, List.set_cons_succ]
      refine wpAnyH_take (i := 28) (v := ?vf28) rfl (by kernel_rfl) (by kernel_rfl) (by kernel_rfl) (fun _ _ _ h => h) (Or.inl ⟨by rfl, ?yf28⟩) HS0.out ?rf28
      case yf28 => intro w hSw; (try dsimp only at hSw); go_simp; (try with_reducible rfl)
      simp only [List.getElem_toArray, List.getElem_cons_zero, List.getElem_cons_succ, Act.put, List.setIfInBounds_toArray, List.set_cons_zero, List.set_cons_succ]
      refine wpAnyH_ready (rs := [29]) (by kernel_rfl) (by simp) ?_
      refine AllReadyH.cons rfl (fun K hK => ?_) AllReadyH.nil
      go_simp
      go_at_call 24
      refine Calls.mono (HM2.out _) ?_
      rintro e w15 ⟨rfl, rfl⟩
      refine Shut.out hK _ _ HS0.out ?_
      clear hK K
      intro hHeld2
      try simp only [List.getElem_toArray, List.getElem_cons_zero, List.getElem_cons_succ, Act.put, List.setIfInBounds_toArray, List.set_cons_zero, List.set_cons_succ]
      refine wpAnyH_take (i := 30) (v := ?vf30) rfl (by kernel_rfl) (by kernel_rfl) (by kernel_rfl) (fun _ _ _ h => h) (Or.inl ⟨by rfl, ?yf30⟩) HS0.out ?rf30
      case yf30 => intro w hSw; (try dsimp only at hSw); go_simp; (try with_reducible rfl)
      simp only [List.getElem_toArray, List.getElem_cons_zero, List.getElem_cons_succ, Act.put, List.setIfInBounds_toArray, List.set_cons_zero, List.set_cons_succ]
      refine wpAnyH_take (i := 31) (v := ?vf31) rfl (by kernel_rfl) (by kernel_rfl) (by kernel_rfl) (fun _ _ _ h => h) (Or.inl ⟨by rfl, ?yf31⟩) HS0.out ?rf31
      case yf31 => intro w hSw; (try dsimp only at hSw); go_simp; (try with_reducible rfl)
      simp only [List.getElem_toArray, List.getElem_cons_zero, List.getElem_cons_succ, Act.put, List.setIfInBounds_toArray, List.set_cons_zero, List.set_cons_succ]
      refine wpAnyH_take (i := 32) (v := ?vf32) rfl (by kernel_rfl) (by kernel_rfl) (by kernel_rfl) (fun _ _ _ h => h) (Or.inl ⟨by rfl, ?yf32⟩) HS0.out ?rf32
      case yf32 => intro w hSw; (try dsimp only at hSw); go_simp; (try with_reducible rfl)
      simp only [List.getElem_toArray, List.getElem_cons_zero, List.getElem_cons_succ, Act.put, List.setIfInBounds_toArray, List.set_cons_zero, List.set_cons_succ]
      refine wpAnyH_done (by kernel_rfl) ?_ _
      refine NoPanic.normal ?_
      have hs15 : StAt w14.drew q2 bl2 (tkY n1 n2 true d2 w.heap.size) := Hs14.out.keepK (((Fr.refl (fun _ => False) w14).drew).toK (K := []) (fun _ _ f _ => f.elim)) (by simp)
      have HL15 : Hid (Low w.heap.size w w14.drew) := HL14.out.trans (((Fr.refl (fun _ => False) w14).drew).low HL14.out.size (fun _ f => f.elim))
      have HSub := Lib.hid (fun (w7 : World) (v : Value) (hf7 : New w14.drew w7) (hv : StepsAt w7 v (kSteps 2 n2)) => tk_again (hs15.keepK (hf7.toK (K := []) (fun _ _ f _ => f.elim)) (by simp)) Hn1.out Hn2.out Hdd.out hv)
      have hpd : q2.pb = pb := Hq2.out
      clear hs15
      go_upto_region 18 with (first
        | (go_at_call 24; refine Calls.mono (HM2.out _) ?_; rintro e w7 ⟨rfl, rfl⟩)
        | (go_at_call 19; refine Calls.mono (HS2.out _) ?_; rintro e w16 ⟨sv, rfl, hsv, hf16⟩; obtain ⟨sa, sn, sc, rfl⟩ := own_slice hsv)
        | (go_at_call 18; refine Calls.mono (HSub.out _ _ hf16 (hsv.at (by rw [kSteps_len]; have := Hn2.out; omega))) ?_; rintro e w17 ⟨rfl, ⟨bl3, hs17⟩, hl17⟩)
        | fail)
      have HL17 := Lib.hid ((HL15.out.trans (hf16.low HL15.out.size (fun _ f => f.elim))).trans hl17)
      have Hs17 := Lib.hid hs17
      have Hpd := Lib.hid hpd
      clear hsv hf16 hs17 hl17 HSub hpd
      go_wp2_with fail
      go_loopw [17] (fun i wr => ∃ t : Nat, t ≤ 6 ∧ i = .int .i64 (t : Nat) ∧ StAt wr q2 bl3 ((tkZ n1 n2 true d2 w.heap.size).ticks t) ∧ Low w.heap.size w wr) (fun i _ => 6 - (intOf i).toNat)
      case atStart => exact ⟨0, Nat.zero_le _, rfl, Hs17.out, HL17.out⟩
      case round =>
        obtain ⟨t, ht, rfl, hst, hlt⟩ := hrel
        have Hst := Lib.hid hst
        have Hlt := Lib.hid hlt
        have Ht := Lib.hid ht
        clear hst hlt ht
        by_cases htT : t < 6
        · have HTk1 := Lib.hid (tk_tick Hst.out htT Hn1.out Hn2.out Hdd.out)
          have htI : (t : Int) < 6 := by omega
          have htl := Lib.hid htT
          clear htT
          go_wp2_with (first
            | (go_at_call 20; refine Calls.mono HTk1.out ?_; rintro e w19 ⟨rfl, hs19, hk19, hl19⟩)
            | fail)
          go_roundw
          case rel => exact ⟨t + 1, htl.out, by go_num, hs19, Hlt.out.trans hl19⟩
          case measure => have := htl.out; simp [intOf]; omega
        · obtain rfl : t = 6 := by have := Ht.out; omega
          obtain ⟨g, e1, e2, e3, e4, e5, e6, e7⟩ := tkZ_end (two := true) (lo := w.heap.size) Hn1.out Hn2.out Hdd.out.1 Hdd.out.2.1 Hdd.out.2.2
          generalize (tkZ n1 n2 true d2 w.heap.size).ticks 6 = S at Hst e1 e5 e6 e7
          have HSt := Lib.hid (Status_calls (i := 1) (g := g) Hst.out e6.ord e1 (by omega))
          rw [e2] at HSt
          have hpt := Hst.out.pt
          rw [Hpd.out] at hpt
          have heff : S.p.effs.length < 2 ^ 30 := by have := e7.2.1; omega
          obtain ⟨K, M, hsh, hK1, hK2, hK3⟩ := agree_shape e5
          have HStr := Lib.hid (fun (w' : World) (hf : New wr w') => straight_calls (hpt.keep hf.size (fun _ _ ho _ => hf.get ho (fun f => f))) heff 2 n2 K M hsh hK1 hK2 hK3 (by have := Hn2.out; omega))
          have Hst4 := Lib.hid e4
          clear e1 e2 e3 e4 e5 e6 e7 hpt heff hsh hK1 hK2 hK3 htT
          go_upto_region 23 with (first
            | (go_at_call 21; refine Calls.mono HSt.out ?_; rintro e w20 ⟨rfl, hf20⟩; simp only [SagaM.status])
            | fail)
          have hc21 := heap_alloc_new w20 (.cells #[.int .i64 g.id, .int .i64 g.st, .int .i64 g.step, .int .i64 g.steps.length, .int .i64 g.tries, .int .i64 g.due] 38)
          have hN21 := hf20.alloc (.cells #[.int .i64 g.id, .int .i64 g.st, .int .i64 g.step, .int .i64 g.steps.length, .int .i64 g.tries, .int .i64 g.due] 38)
          rw [Hst4.out] at hc21 hN21 ⊢
          generalize w20.alloc _ = W21 at hc21 hN21 ⊢
          generalize w20.heap.size = N21 at hc21 ⊢
          have Hc21 := Lib.hid hc21
          have HN21 := Lib.hid hN21
          have HStr2 := Lib.hid (HStr.out _ hN21)
          clear hf20 hc21 hN21
          go_upto_region 24 with (first
            | (go_at_call 24; refine Calls.mono (HM2.out _) ?_; rintro e w7 ⟨rfl, rfl⟩)
            | (go_at_call 22; refine Calls.mono HStr2.out ?_; rintro e w22 ⟨rfl, hf22⟩)
            | fail)
          have hc22 := hf22.get Hc21.out (fun f => f)
          have b1 : w22.cell? ⟨N21, 1, none⟩ = some (.int .i64 3) := by rw [cellv, hc22]; rfl
          have HLf := Lib.hid ((Hlt.out.trans (HN21.out.low Hlt.out.size (fun _ f => f.elim))).trans (hf22.low (Nat.le_trans Hlt.out.size HN21.out.size) (fun _ f => f.elim)))
          clear hc22 hf22
          go_wp2_with fail
          go_ret
          exact ⟨rfl, HLf.out⟩
    · go_upto_region 15 with fail
      clear c0 c1 c2
      refine wp_region_noPanic ?_
      refine wp_region_held_drew (S := (fun w' => w'.cell? ⟨gb2, 6, none⟩ = some (.int .i64 2) ∧ w'.cell? ⟨gb2, 7, none⟩ = some (.int .i64 1) ∧ w'.cell? ⟨gb2, 8, none⟩ = some (.int .i64 1) ∧ w'.cell? ⟨gb2, 9, none⟩ = some (.int .i64 n2))) (by kernel_rfl) HS0.out (fun hHeld => ?_)
      refine wpAnyH_take (i := 0) (v := ?vh0) rfl (by kernel_rfl) (by kernel_rfl) (by kernel_rfl) (fun _ _ _ h => h) (Or.inl ⟨by rfl, ?yh0⟩) HS0.out ?rh0
      case yh0 => intro w hSw; (try dsimp only at hSw); go_simp; (try with_reducible rfl)
      simp only [List.getElem_toArray, List.getElem_cons_zero, List.getElem_cons_succ, Act.put, List.setIfInBounds_toArray, List.set_cons_zero, List.set_cons_succ]
      refine wpAnyH_take (i := 1) (v := ?vh1) rfl (by kernel_rfl) (by kernel_rfl) (by kernel_rfl) (fun _ _ _ h => h) (Or.inl ⟨by rfl, ?yh1⟩) HS0.out ?rh1
      case yh1 => intro w hSw; (try dsimp only at hSw); go_simp; (try with_reducible rfl)
      simp only [List.getElem_toArray, List.getElem_cons_zero, List.getElem_cons_succ, Act.put, List.setIfInBounds_toArray, List.set_cons_zero, List.set_cons_succ]
      refine wpAnyH_take (i := 2) (v := ?vh2) rfl (by kernel_rfl) (by kernel_rfl) (by kernel_rfl) (fun _ _ _ h => h) (Or.inl ⟨by rfl, ?yh2⟩) HS0.out ?rh2
      case yh2 => intro w hSw; (try dsimp only at hSw); go_simp; (try with_reducible rfl)
      simp only [List.getElem_toArray, List.getElem_cons_zero, List.getElem_cons_succ, Act.put, List.setIfInBounds_toArray, List.set_cons_zero, List.set_cons_succ]
      refine wpAnyH_take (i := 3) (v := ?vh3) rfl (by kernel_rfl) (by kernel_rfl) (by kernel_rfl) (fun _ _ _ h => h) (Or.inl ⟨by rfl, ?yh3⟩) HS0.out ?rh3
      case yh3 => intro w hSw; (try dsimp only at hSw); go_simp; (try with_reducible rfl)
      simp only [List.getElem_toArray, List.getElem_cons_zero, List.getElem_cons_succ, Act.put, List.setIfInBounds_toArray, List.set_cons_zero, List.set_cons_succ]
      refine wpAnyH_take (i := 4) (v := ?vh4) rfl (by kernel_rfl) (by kernel_rfl) (by kernel_rfl) (fun _ _ _ h => h) (Or.inl ⟨by rfl, ?yh4⟩) HS0.out ?rh4
      case yh4 => intro w hSw; (try dsimp only at hSw); go_simp; (try with_reducible rfl)
      simp only [List.getElem_toArray, List.getElem_cons_zero, List.getElem_cons_succ, Act.put, List.setIfInBounds_toArray, List.set_cons_zero, List.set_cons_succ]
      refine wpAnyH_take (i := 5) (v := ?vh5) rfl (by kernel_rfl) (by kernel_rfl) (by kernel_rfl) (fun _ _ _ h => h) (Or.inl ⟨by rfl, ?yh5⟩) HS0.out ?rh5
      case yh5 => intro w hSw; (try dsimp only at hSw); go_simp; (try with_reducible rfl)
      simp only [List.getElem_toArray, List.getElem_cons_zero, List.getElem_cons_succ, Act.put, List.setIfInBounds_toArray, List.set_cons_zero, List.set_cons_succ]
      refine wpAnyH_take (i := 6) (v := ?vh6) rfl (by kernel_rfl) (by kernel_rfl) (by kernel_rfl) (fun _ _ _ h => h) (Or.inl ⟨by rfl, ?yh6⟩) HS0.out ?rh6
      case yh6 => intro w hSw; (try dsimp only at hSw); go_simp; (try with_reducible rfl)
      simp only [List.getElem_toArray, List.getElem_cons_zero, List.getElem_cons_succ, Act.put, List.setIfInBounds_toArray, List.set_cons_zero, List.set_cons_succ]
      refine wpAnyH_take (i := 7) (v := ?vh7) rfl (by kernel_rfl) (by kernel_rfl) (by kernel_rfl) (fun _ _ _ h => h) (Or.inl ⟨by rfl, ?yh7⟩) HS0.out ?rh7
      case yh7 => intro w hSw; (try dsimp only at hSw); go_simp; (try with_reducible rfl)
      simp only [List.getElem_toArray, List.getElem_cons_zero, List.getElem_cons_succ, Act.put, List.setIfInBounds_toArray, List.set_cons_zero, List.set_cons_succ]
      refine wpAnyH_take (i := 8) (v := ?vh8) rfl (by kernel_rfl) (by kernel_rfl) (by kernel_rfl) (fun _ _ _ h => h) (Or.inl ⟨by rfl, ?yh8⟩) HS0.out ?rh8
      case yh8 => intro w hSw; (try dsimp only at hSw); go_simp; (try with_reducible rfl)
      simp only [List.getElem_toArray, List.getElem_cons_zero, List.getElem_cons_succ, Act.put, List.setIfInBounds_toArray, List.set_cons_zero, List.set_cons_succ]
      refine wpAnyH_take (i := 9) (v := ?vh9) rfl (by kernel_rfl) (by kernel_rfl) (by kernel_rfl) (fun _ _ _ h => h) (Or.inl ⟨by rfl, ?yh9⟩) HS0.out ?rh9
      case yh9 => intro w hSw; (try dsimp only at hSw); go_simp; (try with_reducible rfl)
      simp only [List.getElem_toArray, List.getElem_cons_zero, List.getElem_cons_succ, Act.put, List.setIfInBounds_toArray, List.set_cons_zero, List.set_cons_succ]
      refine wpAnyH_take (i := 10) (v := ?vh10) rfl (by kernel_rfl) (by kernel_rfl) (by kernel_rfl) (fun _ _ _ h => h) (Or.inl ⟨by rfl, ?yh10⟩) HS0.out ?rh10
      case yh10 => intro w hSw; (try dsimp only at hSw); go_simp; (try with_reducible rfl)
      simp only [List.getElem_toArray, List.getElem_cons_zero, List.getElem_cons_succ, Act.put, List.setIfInBounds_toArray, List.set_cons_zero, List.set_cons_succ]
      refine wpAnyH_take (i := 11) (v := ?vh11) rfl (by kernel_rfl) (by kernel_rfl) (by kernel_rfl) (fun _ _ _ h => h) (Or.inl ⟨by rfl, ?yh11⟩) HS0.out ?rh11
      case yh11 => intro w hSw; (try dsimp only at hSw); go_simp; (try with_reducible rfl)
      simp only [List.getElem_toArray, List.getElem_cons_zero, List.getElem_cons_succ, Act.put, List.setIfInBounds_toArray, List.set_cons_zero, List.set_cons_succ]
      refine wpAnyH_take (i := 12) (v := ?vh12) rfl (by kernel_rfl) (by kernel_rfl) (by kernel_rfl) (fun _ _ _ h => h) (Or.inl ⟨by rfl, ?yh12⟩) HS0.out ?rh12
      case yh12 => intro w hSw; (try dsimp only at hSw); go_simp; (try with_reducible rfl)
      simp only [List.getElem_toArray, List.getElem_cons_zero, List.getElem_cons_succ, Act.put, List.setIfInBounds_toArray, List.set_cons_zero, List.set_cons_succ]
      refine wpAnyH_take (i := 13) (v := ?vh13) rfl (by kernel_rfl) (by kernel_rfl) (by kernel_rfl) (fun _ _ _ h => h) (Or.inl ⟨by rfl, ?yh13⟩) HS0.out ?rh13
      case yh13 => intro w hSw; (try dsimp only at hSw); go_simp; (try with_reducible rfl)
      simp only [List.getElem_toArray, List.getElem_cons_zero, List.getElem_cons_succ, Act.put, List.setIfInBounds_toArray, List.set_cons_zero, List.set_cons_succ]
      refine wpAnyH_take (i := 14) (v := ?vh14) rfl (by kernel_rfl) (by kernel_rfl) (by kernel_rfl) (fun _ _ _ h => h) (Or.inl ⟨by rfl, ?yh14⟩) HS0.out ?rh14
      case yh14 => intro w hSw; (try dsimp only at hSw); go_simp; (try with_reducible rfl)
      simp only [List.getElem_toArray, List.getElem_cons_zero, List.getElem_cons_succ, Act.put, List.setIfInBounds_toArray, List.set_cons_zero, List.set_cons_succ]
      refine wpAnyH_take (i := 15) (v := ?vh15) rfl (by kernel_rfl) (by kernel_rfl) (by kernel_rfl) (fun _ _ _ h => h) (Or.inl ⟨by rfl, ?yh15⟩) HS0.out ?rh15
      case yh15 => intro w hSw; (try dsimp only at hSw); go_simp; (try with_reducible rfl)
      simp only [List.getElem_toArray, List.getElem_cons_zero, List.getElem_cons_succ, Act.put, List.setIfInBounds_toArray, List.set_cons_zero, List.set_cons_succ]
      refine wpAnyH_take (i := 16) (v := ?vh16) rfl (by kernel_rfl) (by kernel_rfl) (by kernel_rfl) (fun _ _ _ h => h) (Or.inl ⟨by rfl, ?yh16⟩) HS0.out ?rh16
      case yh16 => intro w hSw; (try dsimp only at hSw); go_simp; (try with_reducible rfl)
      simp only [List.getElem_toArray, List.getElem_cons_zero, List.getElem_cons_succ, Act.put, List.setIfInBounds_toArray, List.set_cons_zero, List.set_cons_succ]
      refine wpAnyH_take (i := 17) (v := ?vh17) rfl (by kernel_rfl) (by kernel_rfl) (by kernel_rfl) (fun _ _ _ h => h) (Or.inl ⟨by rfl, ?yh17⟩) HS0.out ?rh17
      case yh17 => intro w hSw; (try dsimp only at hSw); go_simp; (try with_reducible rfl)
      simp only [List.getElem_toArray, List.getElem_cons_zero, List.getElem_cons_succ, Act.put, List.setIfInBounds_toArray, List.set_cons_zero, List.set_cons_succ]
      refine wpAnyH_take (i := 18) (v := ?vh18) rfl (by kernel_rfl) (by kernel_rfl) (by kernel_rfl) (fun _ _ _ h => h) (Or.inl ⟨by rfl, ?yh18⟩) HS0.out ?rh18
      case yh18 => intro w hSw; (try dsimp only at hSw); go_simp; (try with_reducible rfl)
      simp only [List.getElem_toArray, List.getElem_cons_zero, List.getElem_cons_succ, Act.put, List.setIfInBounds_toArray, List.set_cons_zero, List.set_cons_succ]
      refine wpAnyH_take (i := 19) (v := ?vh19) rfl (by kernel_rfl) (by kernel_rfl) (by kernel_rfl) (fun _ _ _ h => h) (Or.inl ⟨by rfl, ?yh19⟩) HS0.out ?rh19
      case yh19 => intro w hSw; (try dsimp only at hSw); go_simp; (try with_reducible rfl)
      simp only [List.getElem_toArray, List.getElem_cons_zero, List.getElem_cons_succ, Act.put, List.setIfInBounds_toArray, List.set_cons_zero, List.set_cons_succ]
      refine wpAnyH_take (i := 20) (v := ?vh20) rfl (by kernel_rfl) (by kernel_rfl) (by kernel_rfl) (fun _ _ _ h => h) (Or.inl ⟨by rfl, ?yh20⟩) HS0.out ?rh20
      case yh20 => intro w hSw; (try dsimp only at hSw); go_simp; (try with_reducible rfl)
      simp only [List.getElem_toArray, List.getElem_cons_zero, List.getElem_cons_succ, Act.put, List.setIfInBounds_toArray, List.set_cons_zero, List.set_cons_succ]
      refine wpAnyH_take (i := 21) (v := ?vh21) rfl (by kernel_rfl) (by kernel_rfl) (by kernel_rfl) (fun _ _ _ h => h) (Or.inl ⟨by rfl, ?yh21⟩) HS0.out ?rh21
      case yh21 => intro w hSw; (try dsimp only at hSw); go_simp; (try with_reducible rfl)
      simp only [List.getElem_toArray, List.getElem_cons_zero, List.getElem_cons_succ, Act.put, List.setIfInBounds_toArray, List.set_cons_zero, List.set_cons_succ]
      refine wpAnyH_take (i := 22) (v := ?vh22) rfl (by kernel_rfl) (by kernel_rfl) (by kernel_rfl) (fun _ _ _ h => h) (Or.inl ⟨by rfl, ?yh22⟩) HS0.out ?rh22
      case yh22 => intro w hSw; (try dsimp only at hSw); go_simp; (try with_reducible rfl)
      simp only [List.getElem_toArray, List.getElem_cons_zero, List.getElem_cons_succ, Act.put, List.setIfInBounds_toArray, List.set_cons_zero, List.set_cons_succ]
      refine wpAnyH_take (i := 23) (v := ?vh23) rfl (by kernel_rfl) (by kernel_rfl) (by kernel_rfl) (fun _ _ _ h => h) (Or.inl ⟨by rfl, ?yh23⟩) HS0.out ?rh23
      case yh23 => intro w hSw; (try dsimp only at hSw); go_simp; (try with_reducible rfl)
      simp only [List.getElem_toArray, List.getElem_cons_zero, List.getElem_cons_succ, Act.put, List.setIfInBounds_toArray, List.set_cons_zero, List.set_cons_succ]
      refine wpAnyH_take (i := 24) (v := ?vh24) rfl (by kernel_rfl) (by kernel_rfl) (by kernel_rfl) (fun _ _ _ h => h) (Or.inl ⟨by rfl, ?yh24⟩) HS0.out ?rh24
      case yh24 => intro w hSw; (try dsimp only at hSw); go_simp; (try with_reducible rfl)
      simp only [List.getElem_toArray, List.getElem_cons_zero, List.getElem_cons_succ, Act.put, List.setIfInBounds_toArray, List.set_cons_zero, List.set_cons_succ]
      refine wpAnyH_take (i := 25) (v := ?vh25) rfl (by kernel_rfl) (by kernel_rfl) (by kernel_rfl) (fun _ _ _ h => h) (Or.inl ⟨by rfl, ?yh25⟩) HS0.out ?rh25
      case yh25 => intro w hSw; (try dsimp only at hSw); go_simp; (try with_reducible rfl)
      simp only [List.getElem_toArray, List.getElem_cons_zero, List.getElem_cons_succ, Act.put, List.setIfInBounds_toArray, List.set_cons_zero, List.set_cons_succ]
      refine wpAnyH_take (i := 26) (v := ?vh26) rfl (by kernel_rfl) (by kernel_rfl) (by kernel_rfl) (fun _ _ _ h => h) (Or.inl ⟨by rfl, ?yh26⟩) HS0.out ?rh26
      case yh26 => intro w hSw; (try dsimp only at hSw); go_simp; (try with_reducible rfl)
      simp only [List.getElem_toArray, List.getElem_cons_zero, List.getElem_cons_succ, Act.put, List.setIfInBounds_toArray, List.set_cons_zero, List.set_cons_succ]
      refine wpAnyH_take (i := 27) (v := ?vh27) rfl (by kernel_rfl) (by kernel_rfl) (by kernel_rfl) (fun _ _ _ h => h) (Or.inl ⟨by rfl, ?yh27⟩) HS0.out ?rh27
      case yh27 => intro w hSw; (try dsimp only at hSw); go_simp; (try with_reducible rfl)
      simp only [List.getElem_toArray, List.getElem_cons_zero, List.getElem_cons_succ, Act.put, List.setIfInBounds_toArray, List.set_cons_zero, List.set_cons_succ]
      refine wpAnyH_take (i := 28) (v := ?vh28) rfl (by kernel_rfl) (by kernel_rfl) (by kernel_rfl) (fun _ _ _ h => h) (Or.inl ⟨by rfl, ?yh28⟩) HS0.out ?rh28
      case yh28 => intro w hSw; (try dsimp only at hSw); go_simp; (try with_reducible rfl)
      simp only [List.getElem_toArray, List.getElem_cons_zero, List.getElem_cons_succ, Act.put, List.setIfInBounds_toArray, List.set_cons_zero, List.set_cons_succ]
      refine wpAnyH_ready (rs := [29]) (by kernel_rfl) (by simp) ?_
      refine AllReadyH.cons rfl (fun K hK => ?_) AllReadyH.nil
      go_simp
      go_at_call 24
      refine Calls.mono (HM2.out _) ?_
      rintro e w15 ⟨rfl, rfl⟩
      refine Shut.out hK _ _ HS0.out ?_
      clear hK K
      intro hHeld2
      try simp only [List.getElem_toArray, List.getElem_cons_zero, List.getElem_cons_succ, Act.put, List.setIfInBounds_toArray, List.set_cons_zero, List.set_cons_succ]
      refine wpAnyH_take (i := 30) (v := ?vh30) rfl (by kernel_rfl) (by kernel_rfl) (by kernel_rfl) (fun _ _ _ h => h) (Or.inl ⟨by rfl, ?yh30⟩) HS0.out ?rh30
      case yh30 => intro w hSw; (try dsimp only at hSw); go_simp; (try with_reducible rfl)
      simp only [List.getElem_toArray, List.getElem_cons_zero, List.getElem_cons_succ, Act.put, List.setIfInBounds_toArray, List.set_cons_zero, List.set_cons_succ]
      refine wpAnyH_take (i := 31) (v := ?vh31) rfl (by kernel_rfl) (by kernel_rfl) (by kernel_rfl) (fun _ _ _ h => h) (Or.inl ⟨by rfl, ?yh31⟩) HS0.out ?rh31
      case yh31 => intro w hSw; (try dsimp only at hSw); go_simp; (try with_reducible rfl)
      simp only [List.getElem_toArray, List.getElem_cons_zero, List.getElem_cons_succ, Act.put, List.setIfInBounds_toArray, List.set_cons_zero, List.set_cons_succ]
      refine wpAnyH_take (i := 32) (v := ?vh32) rfl (by kernel_rfl) (by kernel_rfl) (by kernel_rfl) (fun _ _ _ h => h) (Or.inl ⟨by rfl, ?yh32⟩) HS0.out ?rh32
      case yh32 => intro w hSw; (try dsimp only at hSw); go_simp; (try with_reducible rfl)
      simp only [List.getElem_toArray, List.getElem_cons_zero, List.getElem_cons_succ, Act.put, List.setIfInBounds_toArray, List.set_cons_zero, List.set_cons_succ]
      refine wpAnyH_done (by kernel_rfl) ?_ _
      refine NoPanic.normal ?_
      have hs15 : StAt w14.drew q2 bl2 (tkY n1 n2 true d2 w.heap.size) := Hs14.out.keepK (((Fr.refl (fun _ => False) w14).drew).toK (K := []) (fun _ _ f _ => f.elim)) (by simp)
      have HL15 : Hid (Low w.heap.size w w14.drew) := HL14.out.trans (((Fr.refl (fun _ => False) w14).drew).low HL14.out.size (fun _ f => f.elim))
      have HSub := Lib.hid (fun (w7 : World) (v : Value) (hf7 : New w14.drew w7) (hv : StepsAt w7 v (kSteps 2 n2)) => tk_again (hs15.keepK (hf7.toK (K := []) (fun _ _ f _ => f.elim)) (by simp)) Hn1.out Hn2.out Hdd.out hv)
      have hpd : q2.pb = pb := Hq2.out
      clear hs15
      go_upto_region 18 with (first
        | (go_at_call 24; refine Calls.mono (HM2.out _) ?_; rintro e w7 ⟨rfl, rfl⟩)
        | (go_at_call 19; refine Calls.mono (HS2.out _) ?_; rintro e w16 ⟨sv, rfl, hsv, hf16⟩; obtain ⟨sa, sn, sc, rfl⟩ := own_slice hsv)
        | (go_at_call 18; refine Calls.mono (HSub.out _ _ hf16 (hsv.at (by rw [kSteps_len]; have := Hn2.out; omega))) ?_; rintro e w17 ⟨rfl, ⟨bl3, hs17⟩, hl17⟩)
        | fail)
      have HL17 := Lib.hid ((HL15.out.trans (hf16.low HL15.out.size (fun _ f => f.elim))).trans hl17)
      have Hs17 := Lib.hid hs17
      have Hpd := Lib.hid hpd
      clear hsv hf16 hs17 hl17 HSub hpd
      go_wp2_with fail
      go_loopw [17] (fun i wr => ∃ t : Nat, t ≤ 6 ∧ i = .int .i64 (t : Nat) ∧ StAt wr q2 bl3 ((tkZ n1 n2 true d2 w.heap.size).ticks t) ∧ Low w.heap.size w wr) (fun i _ => 6 - (intOf i).toNat)
      case atStart => exact ⟨0, Nat.zero_le _, rfl, Hs17.out, HL17.out⟩
      case round =>
        obtain ⟨t, ht, rfl, hst, hlt⟩ := hrel
        have Hst := Lib.hid hst
        have Hlt := Lib.hid hlt
        have Ht := Lib.hid ht
        clear hst hlt ht
        by_cases htT : t < 6
        · have HTk1 := Lib.hid (tk_tick Hst.out htT Hn1.out Hn2.out Hdd.out)
          have htI : (t : Int) < 6 := by omega
          have htl := Lib.hid htT
          clear htT
          go_wp2_with (first
            | (go_at_call 20; refine Calls.mono HTk1.out ?_; rintro e w19 ⟨rfl, hs19, hk19, hl19⟩)
            | fail)
          go_roundw
          case rel => exact ⟨t + 1, htl.out, by go_num, hs19, Hlt.out.trans hl19⟩
          case measure => have := htl.out; simp [intOf]; omega
        · obtain rfl : t = 6 := by have := Ht.out; omega
          obtain ⟨g, e1, e2, e3, e4, e5, e6, e7⟩ := tkZ_end (two := true) (lo := w.heap.size) Hn1.out Hn2.out Hdd.out.1 Hdd.out.2.1 Hdd.out.2.2
          generalize (tkZ n1 n2 true d2 w.heap.size).ticks 6 = S at Hst e1 e5 e6 e7
          have HSt := Lib.hid (Status_calls (i := 1) (g := g) Hst.out e6.ord e1 (by omega))
          rw [e2] at HSt
          have hpt := Hst.out.pt
          rw [Hpd.out] at hpt
          have heff : S.p.effs.length < 2 ^ 30 := by have := e7.2.1; omega
          obtain ⟨K, M, hsh, hK1, hK2, hK3⟩ := agree_shape e5
          have HStr := Lib.hid (fun (w' : World) (hf : New wr w') => straight_calls (hpt.keep hf.size (fun _ _ ho _ => hf.get ho (fun f => f))) heff 2 n2 K M hsh hK1 hK2 hK3 (by have := Hn2.out; omega))
          have Hst4 := Lib.hid e4
          clear e1 e2 e3 e4 e5 e6 e7 hpt heff hsh hK1 hK2 hK3 htT
          go_upto_region 23 with (first
            | (go_at_call 21; refine Calls.mono HSt.out ?_; rintro e w20 ⟨rfl, hf20⟩; simp only [SagaM.status])
            | fail)
          have hc21 := heap_alloc_new w20 (.cells #[.int .i64 g.id, .int .i64 g.st, .int .i64 g.step, .int .i64 g.steps.length, .int .i64 g.tries, .int .i64 g.due] 38)
          have hN21 := hf20.alloc (.cells #[.int .i64 g.id, .int .i64 g.st, .int .i64 g.step, .int .i64 g.steps.length, .int .i64 g.tries, .int .i64 g.due] 38)
          rw [Hst4.out] at hc21 hN21 ⊢
          generalize w20.alloc _ = W21 at hc21 hN21 ⊢
          generalize w20.heap.size = N21 at hc21 ⊢
          have Hc21 := Lib.hid hc21
          have HN21 := Lib.hid hN21
          have HStr2 := Lib.hid (HStr.out _ hN21)
          clear hf20 hc21 hN21
          go_upto_region 24 with (first
            | (go_at_call 24; refine Calls.mono (HM2.out _) ?_; rintro e w7 ⟨rfl, rfl⟩)
            | (go_at_call 22; refine Calls.mono HStr2.out ?_; rintro e w22 ⟨rfl, hf22⟩)
            | fail)
          have hc22 := hf22.get Hc21.out (fun f => f)
          have b1 : w22.cell? ⟨N21, 1, none⟩ = some (.int .i64 3) := by rw [cellv, hc22]; rfl
          have HLf := Lib.hid ((Hlt.out.trans (HN21.out.low Hlt.out.size (fun _ f => f.elim))).trans (hf22.low (Nat.le_trans Hlt.out.size HN21.out.size) (fun _ f => f.elim)))
          clear hc22 hf22
          go_wp2_with fail
          go_ret
          exact ⟨rfl, HLf.out⟩
end Go.Proofs.YtkafmfdipmhleaaGreatDoor
