/-
  What is proved: the contract of Ends: it returns true, and leaves what was there as it was.
-/
import Derived.Test.YtkafmfdipmhleaaGreatDoorEda
import Derived.Test.YtkafmfdipmhleaaGreatDoorFi
namespace Go.Proofs.YtkafmfdipmhleaaGreatDoor
open Go.RowKit Go.Maps

theorem ends_sub {w : World} {q : Pl} {lo n : Nat} {r R : List Int} {pause : Int} {v : Value} (hR : rest200 r = R) (hs : StAt w q [] (StM.fresh 60 pause ⟨[], [], R, 0, lo⟩)) (hv : StepsAt w v (kSteps 9 n)) (hn : 1 ≤ n ∧ n ≤ 6) (hp : 1 ≤ pause ∧ pause ≤ 8) :
    Calls Tryz.prog 18 #[.pointer (some ⟨q.xb, 0, none⟩), .int .i64 9, v] w fun e w' => e = .returned .nilIface ∧ (∃ bl', StAt w' q bl' (ends1 r n pause lo)) ∧ FrK [0, 103, 104, 133, 80] w w' ∧ Low lo w w' := by
  subst hR
  exact Submit_calls (id := 9) (l := kSteps 9 n) hs (fresh_inv 60 pause ⟨[], [], rest200 r, 0, lo⟩ (by omega) (by omega)) hv (kSteps_whole 9 n (by omega) hn) (fun x hx => by simp [StM.fresh] at hx) (ends1_room r n pause lo hn)
theorem ends_tick {w : World} {q : Pl} {lo n t : Nat} {r : List Int} {pause : Int} {bl : List Nat} (hr : r.length ≤ 20) (hs : StAt w q bl ((ends1 r n pause lo).ticks t)) (hn : 1 ≤ n ∧ n ≤ 6) (hp : 1 ≤ pause ∧ pause ≤ 8) (ht : t < 1000) :
    Calls Tryz.prog 20 #[.pointer (some ⟨q.xb, 0, none⟩)] w fun e w' => e = .returned .nilIface ∧ StAt w' q bl ((ends1 r n pause lo).ticks (t + 1)) ∧ FrK KT w w' ∧ Low lo w w' := by
  obtain ⟨hi, hf⟩ := ends1_inv r n pause lo hr hn hp
  have h1 : (ends1 r n pause lo).sagas.length = 1 := rfl
  obtain ⟨a1, a2, a3, a4⟩ := ticks_inv (m := 1) hi t (by rw [h1]; exact hf.mono (by omega))
  have hlo : ((ends1 r n pause lo).ticks t).p.lo = lo := by
    clear a1 a2 a3 a4 hs ht
    induction t with
    | zero => rfl
    | succ t ih => rw [StM.ticks, tick_lo, ih]
  have hcl : (ends1 r n pause lo).clock = 0 := rfl
  have := Tick_calls (m := 0) hs a1 (by rw [a4, h1]; exact a2) (by rw [a3, hcl]; omega)
  rw [hlo] at this
  exact this
theorem ends_inv_at (r : List Int) (n : Nat) (pause : Int) (lo t : Nat) (hr : r.length ≤ 20) (hn : 1 ≤ n ∧ n ≤ 6) (hp : 1 ≤ pause ∧ pause ≤ 8) (ht : t < 1000) : ((ends1 r n pause lo).ticks t).inv ∧ ((ends1 r n pause lo).ticks t).fine 0 := by
  obtain ⟨hi, hf⟩ := ends1_inv r n pause lo hr hn hp
  have h1 : (ends1 r n pause lo).sagas.length = 1 := rfl
  obtain ⟨a1, a2, _, _⟩ := ticks_inv (m := 0) hi t (by rw [h1]; exact hf.mono (by omega))
  exact ⟨a1, a2⟩
set_option maxRecDepth 100000 in
set_option maxHeartbeats 4000000 in
theorem Ends_calls {w : World} {c n : Int} {v : Value} {l : List Int} (hv : IntsIn w v l) (hc : i64 c) (hn : i64 n) :
    Calls Tryz.prog 3 #[.int .i64 c, v, .int .i64 n] w fun e w' => e = .returned (.bool true) ∧ Low w.heap.size w w' := by
  have HFew := Lib.hid (few_in hv 20 (by omega))
  have hpz : 1 ≤ 1 + pickM c 8 ∧ 1 + pickM c 8 ≤ 8 := by have := pickM_range c 8 (by omega); omega
  have hkz : 1 ≤ 1 + pickM n 6 ∧ 1 + pickM n 6 ≤ 6 := by have := pickM_range n 6 (by omega); omega
  have Hpz := Lib.hid hpz
  have hw1 : wrap64 (pickM c 8 + 1) = 1 + pickM c 8 := by rw [Int.add_comm]; exact wrap_in _ (by omega)
  have hw2 : wrap64 (pickM n 6 + 1) = 1 + pickM n 6 := by rw [Int.add_comm]; exact wrap_in _ (by omega)
  have hw1' : wrap64 (1 + pickM c 8) = 1 + pickM c 8 := wrap_in _ (by omega)
  have hw2' : wrap64 (1 + pickM n 6) = 1 + pickM n 6 := wrap_in _ (by omega)
  have Hc := Lib.hid hc
  have Hn := Lib.hid hn
  clear hv hc hn hpz
  go_enter Tryz.func3, Tryz.ntmps3
  go_upto_region 3 with (first
    | (go_at_call 14; refine Calls.mono HFew.out ?_; rintro e w1 ⟨v1, rfl, hown1, hf1⟩)
    | (refine wpl_append_zeros rfl (.tmp 24) (.const (.int .i64 200)) rfl w.heap.size v1 (l.take 20).length 200 ((l.take 20).map encZ) rfl hown1 rfl (by omega) (by rw [List.length_take]; omega) hf1.size ?_; intro v2 w2 hown2 hg2)
    | fail)
  have hown2' : w2.ownsRow w.heap.size 3 1 v2 (rest200 (l.take 20)).length ((rest200 (l.take 20)).map encZ) := by
    have e1 : (rest200 (l.take 20)).length = (l.take 20).length + 200 := by rw [rest200, List.length_append, List.length_replicate]
    have e2 : (rest200 (l.take 20)).map encZ = (l.take 20).map encZ ++ List.replicate 200 (.int .i64 0) := by rw [rest200, List.map_append, List.map_replicate]
    rw [e1, e2]; exact hown2
  have hL2 : Low w.heap.size w w2 := (hf1.low (Nat.le_refl _) (fun _ f => f.elim)).trans ((Fr.ofGrown hg2).low hf1.size (fun k hk => (hown1.lt k hk).1))
  have hr20 : (l.take 20).length ≤ 20 := by rw [List.length_take]; omega
  have Hown2 := Lib.hid hown2'
  have HL2 := Lib.hid hL2
  have Hr20 := Lib.hid hr20
  clear hown1 hf1 hown2 hg2 hown2' hL2 hr20
  generalize l.take 20 = r at Hown2 Hr20
  have hlenR : (rest200 r).length ≤ 1000 := by rw [rest200, List.length_append, List.length_replicate]; have := Hr20.out; omega
  have HNP := Lib.hid (NewPartner_calls (own_ints Hown2.out) hlenR w.heap.size HL2.out.size)
  clear hlenR
  generalize hRR : rest200 r = R at HNP Hown2
  have HRR := Lib.hid hRR
  clear hRR
  go_upto_region 4 with (first
    | (go_at_call 15; refine Calls.mono HNP.out ?_; rintro e w3 ⟨pb, rfl, hpb, hp3, hf3⟩)
    | fail)
  have HP1 := Lib.hid (pick_calls w3 c 8 Hc.out (by omega))
  have HP2 := Lib.hid (pick_calls w3 n 6 Hn.out (by omega))
  have Hp3 := Lib.hid hp3
  have HL3 := Lib.hid (HL2.out.trans (hf3.low HL2.out.size (fun _ f => f.elim)))
  clear hp3 hf3 hpb
  generalize hpz : pickM c 8 = P at *
  generalize hkz' : pickM n 6 = Kz at *
  go_upto_region 5 with (first
    | (go_at_call 16; refine Calls.mono HP1.out ?_; rintro e w4 ⟨rfl, rfl⟩)
    | fail)
  go_upto_region 6 with (first
    | (go_at_call 16; refine Calls.mono HP2.out ?_; rintro e w4 ⟨rfl, rfl⟩)
    | fail)
  obtain ⟨k, hk⟩ : ∃ k : Nat, 1 + Kz = (k : Int) := ⟨(1 + Kz).toNat, by omega⟩
  have hk6 : Hid (1 ≤ k ∧ k ≤ 6) := by show _ ∧ _; omega
  rw [hk]
  have HPz := Lib.hid Hpz.out
  clear hw1 hw2 hw1' hw2' hkz hk HP1 HP2 HFew HNP
  generalize hpp : 1 + P = pause at HPz ⊢
  have HB := Lib.hid (begun_calls (n := 60) Hp3.out (by omega) (pause := pause) (by have := HPz.out; omega))
  clear hpp
  go_upto_region 9 with (first
    | (go_at_call 17; refine Calls.mono HB.out ?_; rintro e w6 ⟨q, hqp, rfl, hs6, hl6, hz6⟩)
    | fail)
  have HS := Lib.hid (steps_calls w6 9 k (by omega) (by have := hk6.out; omega))
  have HSub := Lib.hid (fun (w7 : World) (v : Value) (hf7 : New w6 w7) (hv : StepsAt w7 v (kSteps 9 k)) => ends_sub HRR.out (hs6.keepK (hf7.toK (K := []) (fun _ _ f _ => f.elim)) (by simp)) hv hk6.out HPz.out)
  have HL6 := Lib.hid (HL3.out.trans hl6)
  clear hs6 hl6 hz6
  go_upto_region 12 with (first
    | (go_at_call 19; refine Calls.mono HS.out ?_; rintro e w7 ⟨sv, rfl, hsv, hf7⟩; obtain ⟨sa, sn, sc, rfl⟩ := own_slice hsv)
    | (go_at_call 18; refine Calls.mono (HSub.out _ _ hf7 (hsv.at (by rw [kSteps_len]; have := hk6.out; omega))) ?_; rintro e w8 ⟨rfl, ⟨bl, hs8⟩, hk8, hl8⟩)
    | fail)
  have HL8 := Lib.hid ((HL6.out.trans (hf7.low HL6.out.size (fun _ f => f.elim))).trans hl8)
  have Hs8 := Lib.hid hs8
  clear hsv hf7 hs8 hk8 hl8
  obtain ⟨T, hT, hT1⟩ : ∃ T : Nat, (T : Int) = (20 + 2 * k + 2) * (pause + 1) ∧ T < 1000 := by
    have h1 := hk6.out
    have h2 := HPz.out
    have h3 : (20 + 2 * (k : Int) + 2) * (pause + 1) ≤ 34 * 9 := Int.mul_le_mul (by omega) (by omega) (by omega) (by omega)
    have h4 : 0 ≤ (20 + 2 * (k : Int) + 2) * (pause + 1) := Int.mul_nonneg (by omega) (by omega)
    exact ⟨((20 + 2 * (k : Int) + 2) * (pause + 1)).toNat, by omega, by omega⟩
  have hw3 : wrap64 (2 * (k : Int)) = 2 * k := wrap_in _ (by have := hk6.out; omega)
  have hw4 : wrap64 (20 + 2 * (k : Int)) = 20 + 2 * k := wrap_in _ (by have := hk6.out; omega)
  have hw5 : wrap64 (20 + 2 * (k : Int) + 2) = 20 + 2 * k + 2 := wrap_in _ (by have := hk6.out; omega)
  have hw6 : wrap64 (pause + 1) = pause + 1 := wrap_in _ (by have := HPz.out; omega)
  have hw7 : wrap64 ((20 + 2 * (k : Int) + 2) * (pause + 1)) = T := by rw [← hT]; exact wrap_in _ (by omega)
  have HT := Lib.hid hT
  clear hT
  go_wp2_with fail
  go_loopw [15] (fun i wr => ∃ t : Nat, t ≤ T ∧ i = .int .i64 t ∧ StAt wr q bl ((ends1 r k pause w.heap.size).ticks t) ∧ Low w.heap.size w wr) (fun i _ => T - (intOf i).toNat)
  case atStart => exact ⟨0, Nat.zero_le _, rfl, Hs8.out, HL8.out⟩
  case round =>
    obtain ⟨t, ht, rfl, hst, hlt⟩ := hrel
    have Hst := Lib.hid hst
    have Hlt := Lib.hid hlt
    clear hst hlt
    by_cases htT : t < T
    · have HTk := Lib.hid (ends_tick Hr20.out Hst.out hk6.out HPz.out (by omega))
      have htI : (t : Int) < T := by omega
      have htl := Lib.hid htT
      go_wp2_with (first
        | (go_at_call 20; refine Calls.mono HTk.out ?_; rintro e w9 ⟨rfl, hs9, hk9, hl9⟩)
        | fail)
      go_roundw
      case rel => exact ⟨t + 1, htl.out, by go_num, hs9, Hlt.out.trans hl9⟩
      case measure => have := htl.out; simp [intOf]; omega
    · obtain rfl : t = T := by omega
      obtain ⟨g, g1, g2, g3, g4, g5⟩ := ends1_end r k pause w.heap.size t Hr20.out hk6.out HPz.out HT.out
      obtain ⟨i1, i2⟩ := ends_inv_at r k pause w.heap.size t Hr20.out hk6.out HPz.out hT1
      have hnT : ¬ ((t : Int) < t) := by omega
      generalize (ends1 r k pause w.heap.size).ticks t = S at Hst g1 g4 g5 i1 i2
      have HSt := Lib.hid (Status_calls (i := 0) (g := g) Hst.out i1.ord (by rw [g1]; rfl) (by omega))
      rw [g2] at HSt
      have hpt := Hst.out.pt
      rw [hqp] at hpt
      have Hpt := Lib.hid hpt
      have G2 := Lib.hid g2
      have G3 := Lib.hid g3
      have G4 := Lib.hid g4
      have G5 := Lib.hid g5
      have I2 := Lib.hid i2
      clear ht htT g1 g2 g3 g4 g5 i1 i2 hpt hT1
      go_upto_region 20 with (first
        | (go_at_call 21; refine Calls.mono HSt.out ?_; rintro e w9 ⟨rfl, hf9⟩; simp only [SagaM.status])
        | fail)
      have hc10 := heap_alloc_new w9 (.cells #[.int .i64 g.id, .int .i64 g.st, .int .i64 g.step, .int .i64 g.steps.length, .int .i64 g.tries, .int .i64 g.due] 38)
      have HN10 := Lib.hid (hf9.alloc (.cells #[.int .i64 g.id, .int .i64 g.st, .int .i64 g.step, .int .i64 g.steps.length, .int .i64 g.tries, .int .i64 g.due] 38))
      have Hc10 := Lib.hid hc10
      clear hf9 hc10 hw3 hw4 hw5 hw6 hw7 hnT
      generalize w9.alloc (.cells #[.int .i64 g.id, .int .i64 g.st, .int .i64 g.step, .int .i64 g.steps.length, .int .i64 g.tries, .int .i64 g.due] 38) = W10 at Hc10 HN10 ⊢
      generalize w9.heap.size = N10 at Hc10 ⊢
      have hpt10 : PAt W10 pb S.p := Hpt.out.keep HN10.out.size (fun _ _ ho _ => HN10.out.get ho (fun f => f))
      obtain ⟨va, vc, ev, iv, hpb10, hrow⟩ := log_read hpt10
      have Hrow := Lib.hid hrow
      have Hpb10 := Lib.hid hpb10
      have Hpt10 := Lib.hid hpt10
      have hlog30 : S.p.log.length < 1073741824 := by have := I2.out.1; omega
      have Hans : Hid (∃ nv, (S.p.log.any fun x => x.2 == 2) = nv) := ⟨_, rfl⟩
      clear hpt10 hpb10 hrow
      go_wp2_with fail
      go_loopw [18, 19] (fun nv i wr => ∃ m : Nat, m ≤ S.p.log.length ∧ i = .int .i64 m ∧ nv = .bool ((S.p.log.take m).any fun x => x.2 == 2) ∧ New W10 wr) (fun _ i _ => S.p.log.length - (intOf i).toNat)
      case atStart => exact ⟨0, Nat.zero_le _, rfl, rfl, Fr.refl _ _⟩
      case round =>
        obtain ⟨m, hm, rfl, rfl, hf11⟩ := hrel
        have Hf11 := Lib.hid hf11
        have hpb11 := hf11.get Hpb10.out (fun f => f)
        clear hf11
        by_cases hml : m < S.p.log.length
        · obtain ⟨gg, rfl, ⟨o, ho⟩, hcc⟩ := Hrow.out m hml
          have hgr : wr.heap[gg]? = W10.heap[gg]? := by rw [ho]; exact Hf11.out.get ho (fun f => f)
          have x4 := hcc wr hgr
          have htk : ((S.p.log.take (m + 1)).any fun x => x.2 == 2) = (((S.p.log.take m).any fun x => x.2 == 2) || (S.p.log[m].2 == 2)) := by
            rw [List.take_succ_eq_append_getElem hml, List.any_append]; simp
          have Htk := Lib.hid htk
          generalize S.p.log[m].2 = rp at x4 Htk
          generalize ((S.p.log.take m).any fun x => x.2 == 2) = nv at Htk ⊢
          have hmI : (m : Int) < S.p.log.length := by omega
          have hm0 : (0 : Int) ≤ m := by omega
          have hml' := Lib.hid hml
          clear hcc ho hgr htk hml hm
          have hcv := cellv wr
          cases nv
          · go_wp2_with fail
            go_roundw
            case rel => exact ⟨m + 1, hml'.out, by go_num, by rw [Htk.out]; simp, Hf11.out⟩
            case measure => have := hml'.out; simp [intOf]; omega
          · go_wp2_with fail
            go_roundw
            case rel => exact ⟨m + 1, hml'.out, by go_num, by rw [Htk.out]; simp, Hf11.out⟩
            case measure => have := hml'.out; simp [intOf]; omega
        · obtain rfl : m = S.p.log.length := by omega
          rw [List.take_length]
          have hcs := Hf11.out.get Hc10.out (fun f => f)
          have hpt11 : PAt wr pb S.p := Hpt10.out.keep Hf11.out.size (fun _ _ ho _ => Hf11.out.get ho (fun f => f))
          have Hpt11 := Lib.hid hpt11
          have heff : S.p.effs.length < 2 ^ 30 := by have := I2.out.2.1; omega
          obtain ⟨K, M, hsh, hK1, hK2, hK3⟩ := agree_shape G4.out
          have HStr := Lib.hid (straight_calls hpt11 heff 9 k K M hsh hK1 hK2 hK3 (by have := hk6.out; omega))
          have HRch := Lib.hid (fun (w' : World) (hf : New wr w') => reached_calls (w := w') (p := S.p) (Hpt11.out.keep hf.size (fun _ _ ho _ => hf.get ho (fun f => f))) heff g.id g.st g.step g.steps.length g.tries g.due)
          have hrch : reachedM S.p.effs g.id g.st g.steps.length = true := by
            rw [G2.out, G3.out]; exact agree_reached G4.out
          rw [hrch] at HRch
          have Hcs := Lib.hid hcs
          have hlow : Hid (Low w.heap.size w wr) := (Hlt.out.trans (HN10.out.low Hlt.out.size (fun _ f => f.elim))).trans (Hf11.out.low (Nat.le_trans Hlt.out.size HN10.out.size) (fun _ f => f.elim))
          have hnl : ¬ ((S.p.log.length : Int) < S.p.log.length) := by omega
          clear hcs hpt11 heff hsh hK1 hK2 hK3 hrch hm hml hlog30
          have hcv := cellv wr
          go_upto_region 24 with fail
          clear hcv hpb11
          rcases G5.out with ⟨hst3, hnv⟩ | ⟨hst4, hnv⟩
          · rw [hnv]
            have Hst3 := Lib.hid hst3
            clear hst3 hnv
            go_upto_region 25 with (first
              | (go_at_call 22; refine Calls.mono HStr.out ?_; rintro e w12 ⟨rfl, hf12⟩)
              | fail)
            have hc12 := hf12.get Hcs.out (fun f => f)
            have HR12 := Lib.hid (HRch.out w12 hf12)
            have Hl12 := Lib.hid (hlow.out.trans (hf12.low hlow.out.size (fun _ f => f.elim)))
            have Hc12 := Lib.hid hc12
            clear hf12
            have hcv := cellv w12
            go_upto_region 26 with (first
              | (go_at_call 23; refine Calls.mono HR12.out ?_; rintro e w13 ⟨rfl, hf13⟩)
              | fail)
            have hc13 := hf13.get Hc12.out (fun f => f)
            rw [Hst3.out] at hc13
            have Hl13 := Lib.hid (Hl12.out.trans (hf13.low Hl12.out.size (fun _ f => f.elim)))
            clear hf13 hc12 hcv
            have a1 : w13.cell? ⟨N10, 1, none⟩ = some (.int .i64 3) := by rw [cellv, hc13]; rfl
            clear hc13
            go_wp2_with fail
            go_ret
            exact ⟨rfl, Hl13.out⟩
          · rw [hnv]
            have Hst4 := Lib.hid hst4
            clear hst4 hnv
            go_upto_region 25 with (first
              | (go_at_call 22; refine Calls.mono HStr.out ?_; rintro e w12 ⟨rfl, hf12⟩)
              | fail)
            have hc12 := hf12.get Hcs.out (fun f => f)
            have HR12 := Lib.hid (HRch.out w12 hf12)
            have Hl12 := Lib.hid (hlow.out.trans (hf12.low hlow.out.size (fun _ f => f.elim)))
            have Hc12 := Lib.hid hc12
            clear hf12
            have hcv := cellv w12
            go_upto_region 26 with (first
              | (go_at_call 23; refine Calls.mono HR12.out ?_; rintro e w13 ⟨rfl, hf13⟩)
              | fail)
            have hc13 := hf13.get Hc12.out (fun f => f)
            rw [Hst4.out] at hc13
            have Hl13 := Lib.hid (Hl12.out.trans (hf13.low Hl12.out.size (fun _ f => f.elim)))
            clear hf13 hc12 hcv
            have a1 : w13.cell? ⟨N10, 1, none⟩ = some (.int .i64 4) := by rw [cellv, hc13]; rfl
            clear hc13
            go_wp2_with fail
            go_ret
            exact ⟨rfl, Hl13.out⟩
end Go.Proofs.YtkafmfdipmhleaaGreatDoor
