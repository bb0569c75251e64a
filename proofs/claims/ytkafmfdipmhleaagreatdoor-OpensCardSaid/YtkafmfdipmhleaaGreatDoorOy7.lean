/-
  What is proved: a disk of the script: what Open answers is the document's answer. a script's world, and a step on what the caller owns. a step of a script that only formats and opens. a script that formats and opens: small, upTo.
-/
import Derived.Test.YtkafmfdipmhleaaGreatDoorOy6

namespace Go.Proofs.YtkafmfdipmhleaaGreatDoor
open Go.RowKit Go.Maps

/-- What Open makes: nothing turns but the disk's count. -/
def OpR (w : World) (o : OD) (pause : Int) (xv ev : Value) (w' : World) : Prop :=
  ∃ d, DiskAt w' o.db o.bb d ∧ Fr (· = o.db) w w' ∧
    ((xv = .pointer none ∧ ∃ nb, ev = .iface 121 (.pointer (some ⟨nb, 0, none⟩)) ∧ (∃ op, w'.heap[nb]? = some (.cells (faultCells op (errOf (⟨oBlk o.n o.ep, none, 0, 0, 0, -1, 0, 0⟩ : DiskM) pause)) 123 (0, 0))) ∧ (o.ep = 0 ∨ (pause < 1 ∨ 64 < pause) ∨ o.fits = false)) ∨
     (ev = .nilIface ∧ o.ep ≠ 0 ∧ (1 ≤ pause ∧ pause ≤ 64) ∧ o.fits = true ∧ ∃ q s, xv = .pointer (some ⟨q.xb, 0, none⟩) ∧ EvAt w' q [] s ∧ s.sagas = []))
theorem errOf_same {d : DiskM} {m : Nat} {o : OD} (h : OdD m o d) (pause : Int) : errOf d pause = errOf (⟨oBlk o.n o.ep, none, 0, 0, 0, -1, 0, 0⟩ : DiskM) pause := by
  unfold errOf DiskM.fits
  rw [h.blocks]
def default_rec : RecM := ⟨0, 0, 0, 0, 0, []⟩
theorem opened_call {w : World} {m : Nat} {o : OD} {pause : Int} {d : DiskM} (hd : DiskAt w o.db o.bb d) (hD : OdD (m + 1) o d) (hep : o.ep < 2 ^ 32) :
    Calls Tryz.prog 30 #[.pointer (some ⟨o.db, 0, none⟩), .int .i64 pause, .pointer (some ⟨o.pb, 0, none⟩)] w fun e w' => ∃ xv ev, e = .returned (.tuple #[xv, ev]) ∧ OpR w o pause xv ev w' ∧ ∃ d', DiskAt w' o.db o.bb d' ∧ OdD m o d' ∧ d'.writes = d.writes ∧ d'.pend = d.pend := by
  have hc := hD.cal
  have hrd : ∀ k, k ≤ 10000 → OdD m o (d.reads k) := fun k hk => ⟨hD.quiet, hD.pend, hD.blocks, ⟨by show 0 ≤ d.calls + (k : Int); omega, by show d.calls + (k : Int) + 20000 * m ≤ 2 ^ 40; omega⟩⟩
  by_cases herr : o.ep = 0 ∨ (pause < 1 ∨ 64 < pause) ∨ o.fits = false
  · obtain ⟨r0, h0⟩ : ∃ r0, parseM (d.look 0) = some (r0, false) ∨ (pause < 1 ∨ 64 < pause) ∨ d.fits = false := by
      by_cases hf : o.fits = true
      · rcases od_parse hD hf hep with ⟨_, r, hr⟩ | ⟨h1, _⟩
        · exact ⟨r, .inl hr⟩
        · rcases herr with h2 | h2 | h2
          · exact absurd h2 h1
          · exact ⟨default_rec, .inr (.inl h2)⟩
          · rw [hf] at h2; cases h2
      · exact ⟨default_rec, .inr (.inr (by rw [hD.fits]; simpa using hf))⟩
    refine Calls.mono (pOpen_err (pb := o.pb) hd hD.quiet (by omega) r0 h0) ?_
    rintro e w' ⟨nb, k, hk, rfl, hfb, hd', hf⟩
    rw [errOf_same hD] at hfb
    exact ⟨_, _, rfl, ⟨_, hd', hf, .inl ⟨rfl, nb, rfl, ⟨_, hfb⟩, herr⟩⟩, _, hd', hrd k hk, rfl, rfl⟩
  · have h1 : o.ep ≠ 0 := fun h => herr (.inl h)
    have h2 : 1 ≤ pause ∧ pause ≤ 64 := by
      have : ¬ (pause < 1 ∨ 64 < pause) := fun h => herr (.inr (.inl h))
      omega
    have h3 : o.fits = true := by
      cases hf : o.fits
      · exact absurd (.inr (.inr hf)) herr
      · rfl
    have hn : 8 ≤ o.n ∧ o.n ≤ 400 := by simp [OD.fits] at h3; exact h3
    have hdf : d.fits = true := by rw [hD.fits]; exact h3
    rcases od_parse hD h3 hep with ⟨h0, _⟩ | ⟨_, hp⟩
    · exact absurd h0 h1
    have hlen : d.blocks.length = o.n := by rw [hD.blocks, oBlk_len]
    have hl1 : d.look (1 + evLen []) = zer := by
      show d.look 1 = zer
      simp only [DiskM.look, hD.pend, hD.blocks]
      exact oBlk_one _ _ 1 (by omega) (by omega)
    obtain ⟨rz, hz⟩ := parse_zer
    have hst : JStop d o.ep (1 + evLen []) := ⟨rz, false, by rw [hl1]; exact hz, .inl rfl⟩
    have hO := pOpen_any (pb := o.pb) hd hD.quiet (by omega) ⟨1, o.ep, 0, 0, 0, []⟩ hp rfl [] trivial hst trivial (by show 0 + 1 < d.blocks.length; omega) hdf pause h2
    refine Calls.mono hO ?_
    rintro e w' ⟨xb, jb, mb, bl, k, rfl, hxs, hk, hx, hj, hd', hm, hlb, hsg, hnd, hbl, hf⟩
    have hbl0 : bl = [] := List.length_eq_zero_iff.1 hlb
    subst hbl0
    exact ⟨_, _, rfl, ⟨_, hd', hf, .inr ⟨rfl, h1, h2, h3, ⟨xb, jb, mb, o.db, o.bb, o.pb⟩, ⟨pause, 0, [], ⟨o.ep, 1, true⟩, d, ⟨[], [], [], 0, 0⟩⟩, rfl, ⟨hx, hm, rfl, fun i g b hg => by simp at hg, List.nodup_nil⟩, rfl⟩⟩, _, hd', hrd k hk, rfl, rfl⟩
set_option maxRecDepth 100000 in
set_option maxHeartbeats 8000000 in
/-- Open. -/
theorem opened_calls {w : World} {m : Nat} {o : OD} {pause : Int} (h : OdAt w (m + 1) o) (hg : Handle w) (h0 : 0 < o.kb ∧ 0 < o.db ∧ 0 < o.bb) :
    Calls Tryz.prog 89 #[.pointer (some ⟨o.kb, 0, none⟩), .int .i64 pause] w fun e w' => e = .returned (.bool true) ∧ OdAt w' m o ∧ Fr (fun k => k = o.kb ∨ k = o.db) w w' := by
  obtain ⟨hn1, hn2, hn3, hn4, hn5⟩ := od_ne h
  obtain ⟨d, hd, hD⟩ := h.dk
  obtain ⟨xv, pz, hk⟩ := h.st
  have Hep := Lib.hid h.ep
  have Hn := Lib.hid h.n
  have hF1 : Fr (· = o.kb) w (w.setCell ⟨o.kb, 5, none⟩ (.pointer none)) := Fr.one o.kb w 5 (.pointer none)
  have hk1 : (w.setCell ⟨o.kb, 5, none⟩ (.pointer none)).heap[o.kb]? = some (.cells (odCells o (.pointer none) pz) 165 (0, 0)) := by
    rw [hp_setCell, if_pos rfl, hk]; rfl
  have hd1 : DiskAt (w.setCell ⟨o.kb, 5, none⟩ (.pointer none)) o.db o.bb d := hd.frame hF1 (by rintro k rfl; exact ⟨hn1, hn2, _, hk, by simp [kindOf]⟩)
  have hg1 : Handle (w.setCell ⟨o.kb, 5, none⟩ (.pointer none)) := hg.fr hF1 (by omega)
  have hp1 : FreshP (w.setCell ⟨o.kb, 5, none⟩ (.pointer none)) o.pb := h.pt.fr hF1 (fun e => hn3 e.symm)
  simp only [odCells] at hk
  clear hd hg
  have hcv0 := cellv w
  have hfv0 := frozv w
  go_enter Tryz.func89, Tryz.ntmps89
  go_upto_region 2 with fail
  generalize w.setCell ⟨o.kb, 5, none⟩ (.pointer none) = w1 at hF1 hk1 hd1 hg1 hp1 ⊢
  obtain ⟨la, lc, ev0, iv0, at0, hp1⟩ := hp1
  have HF1 := Lib.hid hF1
  have Hk1 := Lib.hid hk1
  have Hg1 := Lib.hid hg1
  have Hd1 := Lib.hid hd1
  have Hp1 := Lib.hid hp1
  have hpe : d.pending = 0 := by unfold DiskM.pending; rw [hD.pend]
  have HTd := Lib.hid (Told_calls Hd1.out)
  have HWr := Lib.hid (Writes_calls Hd1.out)
  have HPe := Lib.hid (Pending_calls Hd1.out)
  rw [hpe] at HPe
  have HNm := Lib.hid (fun (x : Int) (w' : World) => num_calls w' x)
  have hd1r : DiskAt w1.drew o.db o.bb d := hd1.new ((Fr.refl _ w1).drew)
  have HC := Lib.hid (opened_call (pause := pause) hd1r hD (by have := Hep.out; omega))
  have HD := Lib.hid hD
  simp only [odCells] at hk1
  clear hk hF1 hg1 hd1 hcv0 hfv0 hd1r hpe hD h
  have hcv := cellv w1
  go_upto_region 6 with (first
    | (go_at_call 33; refine Calls.mono HTd.out ?_; rintro e w2 ⟨rfl, rfl⟩)
    | (go_at_call 34; refine Calls.mono HWr.out ?_; rintro e w2 ⟨rfl, rfl⟩)
    | (go_at_call 31; refine Calls.mono HPe.out ?_; rintro e w2 ⟨rfl, rfl⟩)
    | fail)
  have hkr : ∀ w', Fr (· = o.db) w1.drew w' → w'.heap[o.kb]? = some (.cells (odCells o (.pointer none) pz) 165 (0, 0)) := fun w' hf => hf.get (w := w1.drew) Hk1.out hn1
  have Hkr := Lib.hid hkr
  refine op_r6 o.kb o.db o.pb (.int .i64 pause) w1 (fun xv ev w' => OpR w1.drew o pause xv ev w' ∧ ∃ d', DiskAt w' o.db o.bb d' ∧ OdD m o d' ∧ d'.writes = d.writes ∧ d'.pend = d.pend) (by rw [hcv, Hk1.out]; rfl) (by rw [hcv, Hk1.out]; rfl) (Calls.mono HC.out ?_) ?_
  · rintro e w' ⟨xv, ev, rfl, hR, hd'⟩
    obtain ⟨_, _, hf, _⟩ := id hR
    refine ⟨xv, ev, rfl, ⟨hR, hd'⟩, ?_, ?_⟩
    · rw [cellv, Hkr.out w' hf]; rfl
    · rw [cellv, Hkr.out w' hf]; rfl
  intros
  rename_i xv2 ev2 w5 hR5
  obtain ⟨hOp, d', hd', hD', hwr, hpn⟩ := hR5
  obtain ⟨_, _, hf5, hcase⟩ := id hOp
  have hk5 := Hkr.out w5 hf5
  have hp5 := hf5.get (w := w1.drew) Hp1.out hn4
  have hg5 : Handle w5 := (Hg1.out.new ((Fr.refl _ w1).drew)).fr hf5 (by omega)
  have HWr5 : Hid (∀ w', New w5 w' → Calls Tryz.prog 34 #[.pointer (some ⟨o.db, 0, none⟩)] w' fun e w'' => e = .returned (.int .i64 d.writes) ∧ w' = w'') := fun w' hf => by rw [← hwr]; exact Writes_calls (hd'.new hf)
  have hpe5 : d'.pending = 0 := by unfold DiskM.pending; rw [hpn, HD.out.pend]
  have HPe5 : Hid (∀ w', New w5 w' → Calls Tryz.prog 31 #[.pointer (some ⟨o.db, 0, none⟩)] w' fun e w'' => e = .returned (.int .i64 0) ∧ w' = w'') := fun w' hf => by rw [← hpe5]; exact Pending_calls (hd'.new hf)
  have HTd5 := Lib.hid (fun (w' : World) (hf : New w5 w') => Told_calls (hd'.new hf))
  have Hk5 := Lib.hid hk5
  have Hf5 : Hid (Fr (fun k => k = o.kb ∨ k = o.db) w w5) := (HF1.out.mono (fun _ _ e => .inl e)).trans ((Fr.refl _ w1).drew.trans (hf5.mono (fun _ _ e => .inr e)))
  have HFi := Lib.hid (fun (w' : World) (hf : New w5 w') => fits109 (hf.get Hk5.out (fun f => f)) (n := o.n) rfl)
  have hO5 : OdAt w5 m o := ⟨⟨d', hd', hD'⟩, ⟨_, _, hk5⟩, ⟨_, _, _, _, _, hp5⟩, by have := Hep.out; omega, Hn.out⟩
  have HO5 := Lib.hid hO5
  have Hg5 := Lib.hid hg5
  have HD5 := Lib.hid hD'
  have Hd5 := Lib.hid hd'
  have Hp5 := Lib.hid hp5
  generalize d.told = tl
  generalize d.writes = wt at HWr5 ⊢
  clear hOp hwr hpn hd' hD' hf5 hg5 hpe5 hO5 hk1 hp1 hcv hkr HC HTd HWr HPe
  rcases hcase with ⟨rfl, nb, rfl, ⟨op, hfb⟩, hwhy⟩ | ⟨rfl, hne0, hps, hfi, q, s, rfl, hEv, hs0⟩
  · simp only [odCells] at hk5
    by_cases hp1 : pause < 1
    · have hE : errOf (⟨oBlk o.n o.ep, none, 0, 0, 0, -1, 0, 0⟩ : DiskM) pause = 8 := by unfold errOf; rw [if_pos (.inl hp1)]
      rw [hE] at hfb
      clear hwhy hE
      have hcv := cellv w5
      go_wp2_with (first
        | (go_at_call 26; refine Calls.mono (toldP_fault nb op 8 w5 Hg5.out hfb) ?_; rintro e w6 ⟨rfl, hf6⟩; have hk6 := hf6.get Hk5.out (fun f => f); have hp6 := hf6.get Hp5.out (fun f => f); simp only [odCells] at hk6; have hcv6 := cellv w6)
        | (go_at_call 108; refine Calls.mono (HNm.out _ _) ?_; rintro e w7 ⟨rfl, rfl⟩)
        | (go_at_call 109; refine Calls.mono (HFi.out _ hf6) ?_; rintro e w8 ⟨rfl, rfl⟩)
        | (go_at_call 34; refine Calls.mono (HWr5.out _ hf6) ?_; rintro e w2 ⟨rfl, rfl⟩)
        | (go_at_call 31; refine Calls.mono (HPe5.out _ hf6) ?_; rintro e w2 ⟨rfl, rfl⟩)
        | (go_at_call 33; refine Calls.mono (HTd5.out _ hf6) ?_; rintro e w2 ⟨rfl, rfl⟩)
        | fail)
      go_ret
      exact ⟨rfl, HO5.out.new hf6, Hf5.out.trans (hf6.mono (fun _ _ f => f.elim))⟩
    · by_cases hp2 : 64 < pause
      · have hE : errOf (⟨oBlk o.n o.ep, none, 0, 0, 0, -1, 0, 0⟩ : DiskM) pause = 8 := by unfold errOf; rw [if_pos (.inr hp2)]
        rw [hE] at hfb
        clear hwhy hE
        have hcv := cellv w5
        go_wp2_with (first
          | (go_at_call 26; refine Calls.mono (toldP_fault nb op 8 w5 Hg5.out hfb) ?_; rintro e w6 ⟨rfl, hf6⟩; have hk6 := hf6.get Hk5.out (fun f => f); have hp6 := hf6.get Hp5.out (fun f => f); simp only [odCells] at hk6; have hcv6 := cellv w6)
          | (go_at_call 108; refine Calls.mono (HNm.out _ _) ?_; rintro e w7 ⟨rfl, rfl⟩)
          | (go_at_call 109; refine Calls.mono (HFi.out _ hf6) ?_; rintro e w8 ⟨rfl, rfl⟩)
          | (go_at_call 34; refine Calls.mono (HWr5.out _ hf6) ?_; rintro e w2 ⟨rfl, rfl⟩)
          | (go_at_call 31; refine Calls.mono (HPe5.out _ hf6) ?_; rintro e w2 ⟨rfl, rfl⟩)
          | (go_at_call 33; refine Calls.mono (HTd5.out _ hf6) ?_; rintro e w2 ⟨rfl, rfl⟩)
          | fail)
        go_ret
        exact ⟨rfl, HO5.out.new hf6, Hf5.out.trans (hf6.mono (fun _ _ f => f.elim))⟩
      · have hpn : ¬ (pause < 1 ∨ 64 < pause) := by omega
        have hfd : (⟨oBlk o.n o.ep, none, 0, 0, 0, -1, 0, 0⟩ : DiskM).fits = o.fits := by unfold DiskM.fits OD.fits; simp only [oBlk_len]
        cases hfi : o.fits
        · have hE : errOf (⟨oBlk o.n o.ep, none, 0, 0, 0, -1, 0, 0⟩ : DiskM) pause = 7 := by unfold errOf; rw [if_neg hpn, hfd, hfi, if_pos rfl]
          have hff : (decide (8 ≤ o.n) && decide (o.n ≤ 400)) = false := hfi
          rw [hff] at HFi
          rw [hE] at hfb
          clear hwhy hE
          clear hff hfi hfd hpn
          have hcv := cellv w5
          go_wp2_with (first
            | (go_at_call 26; refine Calls.mono (toldP_fault nb op 7 w5 Hg5.out hfb) ?_; rintro e w6 ⟨rfl, hf6⟩; have hk6 := hf6.get Hk5.out (fun f => f); have hp6 := hf6.get Hp5.out (fun f => f); simp only [odCells] at hk6; have hcv6 := cellv w6)
            | (go_at_call 108; refine Calls.mono (HNm.out _ _) ?_; rintro e w7 ⟨rfl, rfl⟩)
            | (go_at_call 109; refine Calls.mono (HFi.out _ hf6) ?_; rintro e w8 ⟨rfl, rfl⟩)
            | (go_at_call 34; refine Calls.mono (HWr5.out _ hf6) ?_; rintro e w2 ⟨rfl, rfl⟩)
            | (go_at_call 31; refine Calls.mono (HPe5.out _ hf6) ?_; rintro e w2 ⟨rfl, rfl⟩)
            | (go_at_call 33; refine Calls.mono (HTd5.out _ hf6) ?_; rintro e w2 ⟨rfl, rfl⟩)
            | fail)
          go_ret
          exact ⟨rfl, HO5.out.new hf6, Hf5.out.trans (hf6.mono (fun _ _ f => f.elim))⟩
        · have hE : errOf (⟨oBlk o.n o.ep, none, 0, 0, 0, -1, 0, 0⟩ : DiskM) pause = 6 := by unfold errOf; rw [if_neg hpn, hfd, hfi, if_neg (by decide)]
          have hff : (decide (8 ≤ o.n) && decide (o.n ≤ 400)) = true := hfi
          rw [hff] at HFi
          have he0 : o.ep = 0 := by
            rcases hwhy with h | h | h
            · exact h
            · exact absurd h hpn
            · rw [hfi] at h; cases h
          have hdec : decide (o.ep = 0) = true := by simp [he0]
          rw [hdec] at hk5
          rw [hE] at hfb
          clear hwhy hE
          clear hff hfi hfd hpn he0
          have hcv := cellv w5
          go_wp2_with (first
            | (go_at_call 26; refine Calls.mono (toldP_fault nb op 6 w5 Hg5.out hfb) ?_; rintro e w6 ⟨rfl, hf6⟩; have hk6 := hf6.get Hk5.out (fun f => f); have hp6 := hf6.get Hp5.out (fun f => f); simp only [odCells, hdec] at hk6; have hcv6 := cellv w6)
            | (go_at_call 108; refine Calls.mono (HNm.out _ _) ?_; rintro e w7 ⟨rfl, rfl⟩)
            | (go_at_call 109; refine Calls.mono (HFi.out _ hf6) ?_; rintro e w8 ⟨rfl, rfl⟩)
            | (go_at_call 34; refine Calls.mono (HWr5.out _ hf6) ?_; rintro e w2 ⟨rfl, rfl⟩)
            | (go_at_call 31; refine Calls.mono (HPe5.out _ hf6) ?_; rintro e w2 ⟨rfl, rfl⟩)
            | (go_at_call 33; refine Calls.mono (HTd5.out _ hf6) ?_; rintro e w2 ⟨rfl, rfl⟩)
            | fail)
          go_ret
          exact ⟨rfl, HO5.out.new hf6, Hf5.out.trans (hf6.mono (fun _ _ f => f.elim))⟩
  · have hff : (decide (8 ≤ o.n) && decide (o.n ≤ 400)) = true := hfi
    rw [hff] at HFi
    have HFo := Lib.hid (found_calls (pause := pause) HO5.out hEv hs0 hne0)
    have h1 : ¬ pause < 1 := by omega
    have h2 : ¬ (64 : Int) < pause := by omega
    have hdec : decide (o.ep = 0) = false := by simp [hne0]
    simp only [odCells, hdec] at hk5
    clear hff hfi hEv hs0 hps hne0
    have hcv := cellv w5
    go_wp2_with (first
      | (go_at_call 26; refine Calls.mono (toldP_nil w5) ?_; rintro e w6 ⟨rfl, hw6⟩; obtain rfl := hw6.symm)
      | (go_at_call 108; refine Calls.mono (HNm.out _ _) ?_; rintro e w7 ⟨rfl, rfl⟩)
      | (go_at_call 109; refine Calls.mono (HFi.out _ (Fr.refl _ _)) ?_; rintro e w8 ⟨rfl, rfl⟩)
      | (go_at_call 34; refine Calls.mono (HWr5.out _ (Fr.refl _ _)) ?_; rintro e w2 ⟨rfl, rfl⟩)
      | (go_at_call 31; refine Calls.mono (HPe5.out _ (Fr.refl _ _)) ?_; rintro e w2 ⟨rfl, rfl⟩)
      | (go_at_call 33; refine Calls.mono (HTd5.out _ (Fr.refl _ _)) ?_; rintro e w2 ⟨rfl, rfl⟩)
      | (go_at_call 110; refine Calls.mono HFo.out ?_; rintro e w9 ⟨rfl, hO9, hf9⟩)
      | fail)
    go_ret
    exact ⟨rfl, hO9, Hf5.out.trans (hf9.mono (fun _ _ e => .inl e))⟩
end Go.Proofs.YtkafmfdipmhleaaGreatDoor

namespace Go.Proofs.YtkafmfdipmhleaaGreatDoor
open Go.RowKit Go.Maps

/-- A step of a script. -/
structure OpM where
  k : Int
  x : Int
  a : Int
  b : Int
  s : ByteArray
  t : ByteArray
def OpM.cells (o : OpM) : Array Value := #[.int .i64 o.k, .int .i64 o.x, .int .i64 o.a, .int .i64 o.b, .string o.s, .string o.t]
def OpM.ok (o : OpM) : Prop := i64 o.k ∧ i64 o.x ∧ i64 o.a ∧ i64 o.b
theorem Tryz.info192 : (Tryz.prog.info? 192).map (fun i => (i.zero, i.size, i.bytes)) = some (some (.agg #[.string ⟨#[]⟩, .string ⟨#[]⟩]), 2, 32) := by kernel_rfl
theorem Tryz.info159 : (Tryz.prog.info? 159).map (fun i => (i.zero, i.size, i.bytes)) = some (some (.pointer none), 1, 8) := by kernel_rfl
theorem Tryz.info4b : (Tryz.prog.info? 4).map (fun i => (i.zero, i.size, i.bytes)) = some (some (.bool false), 1, 1) := by kernel_rfl
def ptrsOf (l : List OD) : List Value := l.map fun o => .pointer (some ⟨o.kb, 0, none⟩)
/-- The cells of a script's world. -/
structure WdAt (w : World) (B wb n m : Nat) (kv rv sv dv fv : Value) (ks rs : List Int) (ss : List (ByteArray × ByteArray)) (l : List OD) : Prop where
  cells : w.heap[wb]? = some (.cells #[kv, rv, sv, dv, fv] 118 (0, 0))
  keep : w.ownsRow B 3 1 kv ks.length (ks.map encZ)
  reps : w.ownsRow B 3 1 rv rs.length (rs.map encZ)
  apart : ∀ k, kv.ownBlock = some k → rv.ownBlock ≠ some k
  stps : w.ownsRow B 192 2 sv ss.length (stepCells ss)
  dsks : w.ownsRow B 159 1 dv l.length (ptrsOf l)
  fls : w.ownsRow B 4 1 fv n (List.replicate n (.bool false))
  num : n = l.length
  lk : ks.length + m ≤ 60000
  lr : rs.length + m ≤ 60000
  ls : ss.length + m ≤ 60000
/-- A script's world. -/
structure OW (w : World) (B wb m : Nat) (l : List OD) : Prop where
  wd : ∃ kv rv sv dv fv ks rs ss, WdAt w B wb l.length m kv rv sv dv fv ks rs ss l
  ds : ∀ o ∈ l, OdAt w m o
  nd : (l.map (·.kb)).Nodup ∧ (l.map (·.db)).Nodup ∧ (l.map (·.bb)).Nodup
  lo : B ≤ wb ∧ B ≤ w.heap.size ∧ ∀ o ∈ l, B ≤ o.kb ∧ B ≤ o.db ∧ B ≤ o.bb ∧ B ≤ o.pb
  len : l.length + m ≤ 60000
theorem own_frB {w w' : World} {B e size n : Nat} {v : Value} {xs : List Value} {S : Nat → Prop} (h : w.ownsRow B e size v n xs) (hf : Fr S w w') (hS : ∀ k, v.ownBlock = some k → ¬ S k) : w'.ownsRow B e size v n xs := by
  obtain ⟨h1, h2⟩ := h
  refine ⟨h1, ?_⟩
  rcases h2 with h2 | ⟨g, cap, cur, hv, hg, hh, r⟩
  · exact .inl h2
  · exact .inr ⟨g, cap, cur, hv, hg, hf.get hh (hS g (by rw [hv]; rfl)), r⟩
/-- Blocks of these kinds are none of a disk's. -/
theorem ods_keep {w w' : World} {l : List OD} {m : Nat} {S : Nat → Prop} (hd : ∀ o ∈ l, OdAt w m o) (hf : Fr S w w') (hS : ∀ k, S k → ∃ ob, w.heap[k]? = some ob ∧ kindOf ob ∈ [119, 4, 193, 160, 5]) : ∀ o ∈ l, OdAt w' m o := by
  intro o ho
  have h := hd o ho
  refine h.fr hf (fun k hk => ?_)
  obtain ⟨ob, h1, h2⟩ := hS k hk
  obtain ⟨d, ⟨_, _, _, _, e1, e2, _⟩, _⟩ := h.dk
  obtain ⟨_, _, e3⟩ := h.st
  obtain ⟨_, _, _, _, _, e4⟩ := h.pt
  refine ⟨?_, ?_, ?_, ?_⟩ <;> rintro rfl
  · rw [e3] at h1; cases h1; simp [kindOf] at h2
  · rw [e1] at h1; cases h1; simp [kindOf] at h2
  · rw [e2] at h1; cases h1; simp [kindOf] at h2
  · rw [e4] at h1; cases h1; simp [kindOf] at h2
theorem WdAt.fr {w w' : World} {B wb n m : Nat} {kv rv sv dv fv : Value} {ks rs : List Int} {ss : List (ByteArray × ByteArray)} {l : List OD} {S : Nat → Prop} (h : WdAt w B wb n m kv rv sv dv fv ks rs ss l) (hf : Fr S w w') (hS : ∀ k, S k → ∃ ob, w.heap[k]? = some ob ∧ kindOf ob ∉ [119, 4, 193, 160, 5]) : WdAt w' B wb n m kv rv sv dv fv ks rs ss l := by
  have hk : ∀ j, j ∈ [119, 4, 193, 160, 5] → ∀ k, S k → ∃ o, w.heap[k]? = some o ∧ kindOf o ≠ j := fun j hj k hk => by
    obtain ⟨ob, h1, h2⟩ := hS k hk
    exact ⟨ob, h1, fun e => h2 (by rw [e]; exact hj)⟩
  refine ⟨hf.get h.cells (fun s => ?_), ownsRow_fr h.keep hf (hk 4 (by simp)), ownsRow_fr h.reps hf (hk 4 (by simp)), h.apart, ownsRow_fr h.stps hf (hk 193 (by simp)), ownsRow_fr h.dsks hf (hk 160 (by simp)), ownsRow_fr h.fls hf (hk 5 (by simp)), h.num, h.lk, h.lr, h.ls⟩
  obtain ⟨ob, h1, h2⟩ := hk 119 (by simp) wb s
  rw [h.cells] at h1; cases h1
  exact h2 (by simp [kindOf])
theorem WdAt.less {w : World} {B wb n m k : Nat} {kv rv sv dv fv : Value} {ks rs : List Int} {ss : List (ByteArray × ByteArray)} {l : List OD} (h : WdAt w B wb n m kv rv sv dv fv ks rs ss l) (hk : k ≤ m) : WdAt w B wb n k kv rv sv dv fv ks rs ss l :=
  ⟨h.cells, h.keep, h.reps, h.apart, h.stps, h.dsks, h.fls, h.num, by have := h.lk; omega, by have := h.lr; omega, by have := h.ls; omega⟩
theorem OW.less {w : World} {B wb m k : Nat} {l : List OD} (h : OW w B wb m l) (hk : k ≤ m) : OW w B wb k l := by
  obtain ⟨kv, rv, sv, dv, fv, ks, rs, ss, hw⟩ := h.wd
  exact ⟨⟨kv, rv, sv, dv, fv, ks, rs, ss, hw.less hk⟩, fun o ho => (h.ds o ho).less hk, h.nd, h.lo, by have := h.len; omega⟩
theorem OW.new {w w' : World} {B wb m : Nat} {l : List OD} (h : OW w B wb m l) (hf : New w w') : OW w' B wb m l := by
  obtain ⟨kv, rv, sv, dv, fv, ks, rs, ss, hw⟩ := h.wd
  exact ⟨⟨kv, rv, sv, dv, fv, ks, rs, ss, hw.fr hf (fun _ f => f.elim)⟩, fun o ho => (h.ds o ho).new hf, h.nd, ⟨h.lo.1, Nat.le_trans h.lo.2.1 hf.size, h.lo.2.2⟩, h.len⟩
/-- The world's own cells have turned, and rows of its own. -/
theorem OW.turn {w w' : World} {B wb m : Nat} {l : List OD} {kv rv sv dv fv : Value} {ks rs : List Int} {ss : List (ByteArray × ByteArray)} {S : Nat → Prop} (h : OW w B wb m l) (hf : Fr S w w') (hS : ∀ k, S k → ∃ ob, w.heap[k]? = some ob ∧ kindOf ob ∈ [119, 4, 193, 160, 5]) (hw : WdAt w' B wb l.length m kv rv sv dv fv ks rs ss l) : OW w' B wb m l :=
  ⟨⟨kv, rv, sv, dv, fv, ks, rs, ss, hw⟩, ods_keep h.ds hf hS, h.nd, ⟨h.lo.1, Nat.le_trans h.lo.2.1 hf.size, h.lo.2.2⟩, h.len⟩
theorem own_baseM {w : World} {B C e size n : Nat} {v : Value} {xs : List Value} (h : w.ownsRow B e size v n xs) (hC : C ≤ B) : w.ownsRow C e size v n xs := by
  obtain ⟨h1, h2⟩ := h
  refine ⟨h1, ?_⟩
  rcases h2 with h2 | ⟨g, cap, cur, hv, hg, r⟩
  · exact .inl h2
  · exact .inr ⟨g, cap, cur, hv, Nat.le_trans hC hg, r⟩
theorem stp_len (l : List (ByteArray × ByteArray)) : (stepCells l).length = l.length * 2 := by
  induction l with
  | nil => rfl
  | cons a l ih => simp [stepCells] at ih ⊢; omega
theorem own_inK {w : World} {base : Nat} {e : TypeId} {size : Nat} {v : Value} {n : Nat} {xs : List Value} (h : w.ownsRow base e size v n xs) {k : Nat} (hk : v.ownBlock = some k) (he : e + 1 ∈ [119, 4, 193, 160, 5]) : ∃ ob, w.heap[k]? = some ob ∧ kindOf ob ∈ [119, 4, 193, 160, 5] := by
  obtain ⟨o, h1, h2⟩ := own_kind h hk
  exact ⟨o, h1, by rw [h2]; exact he⟩
theorem OW.loLow {w w' : World} {B wb m : Nat} {l : List OD} {S : Nat → Prop} (h : OW w B wb m l) (hf : Fr S w w') (hS : ∀ k, S k → B ≤ k) : Low B w w' := hf.low h.lo.2.1 hS
theorem fr_KO {w w' : World} {S : Nat → Prop} (hf : Fr S w w') (hS : ∀ k, S k → ∃ ob, w.heap[k]? = some ob ∧ kindOf ob ∈ [119, 4, 193, 160, 5]) : FrK [119, 4, 193, 160, 5] w w' :=
  hf.toK (fun k o hk ho => by
    obtain ⟨ob, h1, h2⟩ := hS k hk
    rw [ho] at h1; cases h1; exact h2)
def OwnPost (w : World) (B wb m : Nat) (o : OpM) (e : Ending) (w' : World) : Prop :=
  e = .returned (.bool (decide (1 ≤ o.k) && decide (o.k ≤ 6))) ∧ (∃ l', OW w' B wb m l') ∧ Low B w w' ∧ FrK [119, 4, 193, 160, 5] w w'
set_option maxRecDepth 100000 in
set_option maxHeartbeats 8000000 in
theorem owner_calls {w : World} {B wb m : Nat} {l : List OD} {o : OpM} (h : OW w B wb (m + 1) l) :
    Calls Tryz.prog 85 #[.pointer (some ⟨wb, 0, none⟩), .agg o.cells] w (OwnPost w B wb m o) := by
  obtain ⟨k, x, a, b, s, t⟩ := o
  have hN0 : New w (w.alloc (.cells #[.int .i64 k, .int .i64 x, .int .i64 a, .int .i64 b, .string s, .string t] 112)) := (Fr.refl _ w).alloc _
  have hob := heap_alloc_new w (.cells #[.int .i64 k, .int .i64 x, .int .i64 a, .int .i64 b, .string s, .string t] 112)
  have h1 := (h.less (k := m) (by omega)).new hN0
  have hl0 := h.len
  have HLw : Hid (Low B w (w.alloc (.cells #[.int .i64 k, .int .i64 x, .int .i64 a, .int .i64 b, .string s, .string t] 112))) := hN0.low h.lo.2.1 (fun _ f => f.elim)
  have HKw : Hid (FrK [119, 4, 193, 160, 5] w (w.alloc (.cells #[.int .i64 k, .int .i64 x, .int .i64 a, .int .i64 b, .string s, .string t] 112))) := hN0.toK (fun _ _ f _ => f.elim)
  obtain ⟨kv, rv, sv, dv, fv, ks, rs, ss, hw⟩ := h.wd
  have hw0 := hw.fr hN0 (fun _ f => f.elim)
  have Hl1 := Lib.hid hw0.lk
  have Hl2 := Lib.hid hw0.lr
  have Hl3 := Lib.hid hw0.ls
  have hd1 : Hid (∀ o ∈ l, OdAt (w.alloc (.cells #[.int .i64 k, .int .i64 x, .int .i64 a, .int .i64 b, .string s, .string t] 112)) m o) := h1.ds
  have Hh := Lib.hid h
  simp only [OpM.cells]
  clear h hN0 hw
  go_enter Tryz.func85, Tryz.ntmps85
  go_upto_region 1 with fail
  generalize (w.alloc (.cells #[.int .i64 k, .int .i64 x, .int .i64 a, .int .i64 b, .string s, .string t] 112)) = w1 at *
  generalize w.heap.size = ob at *
  have hw1 := hw0.less (k := m) (by omega)
  have H1 := Lib.hid h1
  have Hw1 := Lib.hid hw1
  have Hob := Lib.hid hob
  have hp := hw1.cells
  have hBz : Hid (B ≤ w1.heap.size) := h1.lo.2.1
  clear h1 hw1 hw0
  have hcv := cellv w1
  have hfv := frozv w1
  by_cases k1 : k = 1
  · subst k1
    go_upto_region 4 with fail
    refine ow_r4 wb ob a _ _ _ _ _ ks kv rv sv dv fv B w1 hp hob Hw1.out.keep hBz.out (by have := Hl1.out; omega) ?_
    intros
    rename_i kv' w2 hf2 hp2 ho2 hnb2
    have hK := Hw1.out
    have hF := hf2
    have hS : ∀ k, (k = wb ∨ kv.ownBlock = some k) → ∃ ob, w1.heap[k]? = some ob ∧ kindOf ob ∈ [119, 4, 193, 160, 5] := by
      rintro k (rfl | hk)
      · exact ⟨_, hp, by simp [kindOf]⟩
      · exact own_inK hK.keep hk (by simp)
    have hne : ∀ j, j ∈ [193, 160, 5] → ∀ k, (k = wb ∨ kv.ownBlock = some k) → ∃ ob, w1.heap[k]? = some ob ∧ kindOf ob ≠ j := by
      rintro j hj k (rfl | hk)
      · exact ⟨_, hp, by simp [kindOf] at hj ⊢; omega⟩
      · obtain ⟨o, e1, e2⟩ := own_kind hK.keep hk
        exact ⟨o, e1, by rw [e2]; simp at hj; omega⟩
    have hW2 : WdAt w2 B wb l.length m kv' rv sv dv fv (ks ++ [a]) rs ss l := by
      refine ⟨hp2, ho2, own_frB hK.reps hf2 (fun k hk => ?_), fun k hk e => ?_, ownsRow_fr hK.stps hf2 (hne 193 (by simp)), ownsRow_fr hK.dsks hf2 (hne 160 (by simp)), ownsRow_fr hK.fls hf2 (hne 5 (by simp)), rfl, by have := Hl1.out; simp; omega, hK.lr, hK.ls⟩
      · rintro (rfl | h)
        · obtain ⟨o, e1, e2⟩ := own_kind hK.reps hk
          rw [hp] at e1; cases e1; simp [kindOf] at e2
        · exact hK.apart k h hk
      · rcases hnb2 k hk with h | h
        · exact hK.apart k h e
        · have := (hK.reps.lt k e).2; omega
    have hO2 := H1.out.turn hf2 hS hW2
    have hL2 := HLw.out.trans (H1.out.loLow hf2 (by
      rintro k (rfl | hk)
      · exact H1.out.lo.1
      · exact (hK.keep.lt k hk).1))
    have HO2 := Lib.hid hO2
    have HL2 := Lib.hid hL2
    have HK2 := Lib.hid (HKw.out.trans (fr_KO hf2 hS))
    clear hK hF hS hne hW2 hO2 hL2 hf2 hp2 ho2 hnb2 hcv hfv
    go_wp2_with fail
    go_ret
    exact ⟨rfl, ⟨l, HO2.out⟩, HL2.out, HK2.out⟩
  by_cases k2 : k = 2
  · subst k2
    go_wp2_with fail
    go_ret
    have hf2 := Fr.one wb w1 0 (.slice none 0 0)
    have hK := Hw1.out
    have hS : ∀ k, k = wb → ∃ ob, w1.heap[k]? = some ob ∧ kindOf ob ∈ [119, 4, 193, 160, 5] := by
      rintro k rfl
      exact ⟨_, hp, by simp [kindOf]⟩
    have hne : ∀ j, j ∈ [4, 193, 160, 5] → ∀ k, k = wb → ∃ ob, w1.heap[k]? = some ob ∧ kindOf ob ≠ j := by
      rintro j hj k rfl
      exact ⟨_, hp, by simp [kindOf] at hj ⊢; omega⟩
    refine ⟨rfl, ⟨l, H1.out.turn hf2 hS (kv := .slice none 0 0) (rv := rv) (sv := sv) (dv := dv) (fv := fv) (ks := []) (rs := rs) (ss := ss) ⟨by rw [hp_setCell, if_pos rfl, hp]; rfl, World.ownsRow_nil _ _ _ _, ownsRow_fr hK.reps hf2 (hne 4 (by simp)), fun k hk => by (cases hk), ownsRow_fr hK.stps hf2 (hne 193 (by simp)), ownsRow_fr hK.dsks hf2 (hne 160 (by simp)), ownsRow_fr hK.fls hf2 (hne 5 (by simp)), rfl, by have := Hl1.out; show 0 + m ≤ 60000; omega, hK.lr, hK.ls⟩⟩, HLw.out.trans (H1.out.loLow hf2 (by rintro k rfl; exact H1.out.lo.1)), HKw.out.trans (fr_KO hf2 hS)⟩
  by_cases k3 : k = 3
  · subst k3
    go_upto_region 8 with fail
    refine ow_r8 wb ob a _ _ _ _ _ rs rv kv sv dv fv B w1 hp hob Hw1.out.reps hBz.out (by have := Hl2.out; omega) ?_
    intros
    rename_i rv' w2 hf2 hp2 ho2 hnb2
    have hK := Hw1.out
    have hF := hf2
    have hS : ∀ k, (k = wb ∨ rv.ownBlock = some k) → ∃ ob, w1.heap[k]? = some ob ∧ kindOf ob ∈ [119, 4, 193, 160, 5] := by
      rintro k (rfl | hk)
      · exact ⟨_, hp, by simp [kindOf]⟩
      · exact own_inK hK.reps hk (by simp)
    have hne : ∀ j, j ∈ [193, 160, 5] → ∀ k, (k = wb ∨ rv.ownBlock = some k) → ∃ ob, w1.heap[k]? = some ob ∧ kindOf ob ≠ j := by
      rintro j hj k (rfl | hk)
      · exact ⟨_, hp, by simp [kindOf] at hj ⊢; omega⟩
      · obtain ⟨o, e1, e2⟩ := own_kind hK.reps hk
        exact ⟨o, e1, by rw [e2]; simp at hj; omega⟩
    have hW2 : WdAt w2 B wb l.length m kv rv' sv dv fv ks (rs ++ [a]) ss l := by
      refine ⟨hp2, own_frB hK.keep hf2 (fun k hk => ?_), ho2, fun k hk e => ?_, ownsRow_fr hK.stps hf2 (hne 193 (by simp)), ownsRow_fr hK.dsks hf2 (hne 160 (by simp)), ownsRow_fr hK.fls hf2 (hne 5 (by simp)), rfl, hK.lk, by have := Hl2.out; simp; omega, hK.ls⟩
      · rintro (rfl | h)
        · obtain ⟨o, e1, e2⟩ := own_kind hK.keep hk
          rw [hp] at e1; cases e1; simp [kindOf] at e2
        · exact hK.apart k hk h
      · rcases hnb2 k e with h | h
        · exact hK.apart k hk h
        · have := (hK.keep.lt k hk).2; omega
    have hO2 := H1.out.turn hf2 hS hW2
    have hL2 := HLw.out.trans (H1.out.loLow hf2 (by
      rintro k (rfl | hk)
      · exact H1.out.lo.1
      · exact (hK.reps.lt k hk).1))
    have HO2 := Lib.hid hO2
    have HL2 := Lib.hid hL2
    have HK2 := Lib.hid (HKw.out.trans (fr_KO hf2 hS))
    clear hK hF hS hne hW2 hO2 hL2 hf2 hp2 ho2 hnb2 hcv hfv
    go_wp2_with fail
    go_ret
    exact ⟨rfl, ⟨l, HO2.out⟩, HL2.out, HK2.out⟩
  by_cases k4 : k = 4
  · subst k4
    obtain ⟨i0, hi, hz0, hz1, hz2⟩ := info_parts Tryz.info192
    have hlc : (stepCells ss).length = ss.length * 2 := stp_len ss
    rcases Hw1.out.stps.2 with ⟨rfl, h0⟩ | ⟨g, cap, cur, hsv, hg, hh, hn, hq1, hq2, htk⟩
    · obtain rfl := List.length_eq_zero_iff.1 h0
      have hr : ∀ ty, (Builtin.append_ #[114, 114] ty #[.slice none 0 0, .slice none 0 0]).run Tryz.prog w1 = .ok (.slice none 0 0) w1 := by
        intro ty
        simp [Builtin.append_, run_underlying Tryz.underlying114, sizeOf, typeInfo, hi, Builtin.lenOf, Builtin.firstCells]
      go_upto_region 12 with (first
        | (at_builtin; refine Lib.wpList_append_run _ rfl _ _ _ _ rfl _ _ rfl rfl _ _ (hr _) ?_; go_frame)
        | fail)
      have hr1 : w1.ownsRow w1.heap.size 192 2 (.slice none 0 0) 0 [] := World.ownsRow_nil _ _ _ _
      have hf2 : New w1 w1 := Fr.refl _ _
      have hp2 := hf2.get hp (fun f => f)
      have hob2 := hf2.get Hob.out (fun f => f)
      have hoA := Lib.hid (hr1.alloc (.cells #[.string s, .string t] 192))
      have hnews : ∀ (j : Nat) (u : Value), [Value.string s, Value.string t][j]? = some u → (w1.alloc (.cells #[.string s, .string t] 192)).cell? ((⟨w1.heap.size, 0, none⟩ : Addr).add j) = some u := World.news_of_block (heap_alloc_new w1 _)
      have Hnews := Lib.hid hnews
      have Hf2 := Lib.hid hf2
      have Hp2 := Lib.hid hp2
      have Hr1 := Lib.hid hr1
      have hpA : (w1.alloc (.cells #[.string s, .string t] 192)).heap[wb]? = some (.cells #[kv, rv, .slice none 0 0, dv, fv] 118 (0, 0)) := heap_alloc_keep _ hp2
      have HpA := Lib.hid hpA
      clear hnews hf2 hr1 hpA hr
      go_wp2_with (first
        | (at_builtin; refine wpList_append_own _ rfl _ _ 114 rfl w1.heap.size 192 i0 (.agg #[.string ⟨#[]⟩, .string ⟨#[]⟩]) 2 32 Tryz.underlying114 hi hz0 hz1 hz2 rfl (by decide) _ _ _ rfl hoA.out ⟨w1.heap.size, 0, none⟩ 1 1 [Value.string s, Value.string t] rfl rfl Hnews.out (by intro u hu; simp at hu; rcases hu with rfl | rfl <;> rfl) (by unfold maxLen; omega) (by omega) (by simp) ?_; intro sv' w3 hown3 hg3 _; obtain ⟨vb, vm, vd, rfl⟩ := own_slice hown3; have hF3 := ((Fr.refl _ w1).alloc (.cells #[.string s, .string t] 192)).trans (Fr.ofGrown hg3); have hp3 := hF3.get Hp2.out (fun e => own_other Hr1.out Hp2.out (by simp [kindOf]) e); have hcv3 := cellv w3; have hfv3 := frozv w3; go_frame)
        | fail)
      go_ret
      have hK := Hw1.out
      have hN3 : New w1 w3 := Hf2.out.trans' hF3 (fun i hi e => by have := (Hr1.out.lt i e).1; omega)
      have hfS := Fr.one wb w3 2 (.slice vb vm vd)
      have hf4 : Fr (· = wb) w1 (w3.setCell ⟨wb, 2, none⟩ (.slice vb vm vd)) := (hN3.mono (fun _ _ f => f.elim)).trans hfS
      have hS : ∀ k, k = wb → ∃ ob, w1.heap[k]? = some ob ∧ kindOf ob ∈ [119, 4, 193, 160, 5] := by
        rintro k rfl
        exact ⟨_, hp, by simp [kindOf]⟩
      have hne : ∀ j, j ∈ [4, 193, 160, 5] → ∀ k, k = wb → ∃ ob, w1.heap[k]? = some ob ∧ kindOf ob ≠ j := by
        rintro j hj k rfl
        exact ⟨_, hp, by simp [kindOf] at hj ⊢; omega⟩
      have hst : (w3.setCell ⟨wb, 2, none⟩ (.slice vb vm vd)).ownsRow B 192 2 (.slice vb vm vd) ([] ++ [(s, t)]).length (stepCells ([] ++ [(s, t)])) := by
        refine own_baseM (ownsRow_fr ?_ hfS (by rintro k rfl; exact ⟨_, hp3, by simp [kindOf]⟩)) hBz.out
        exact hown3
      exact ⟨rfl, ⟨l, H1.out.turn hf4 hS (kv := kv) (rv := rv) (sv := .slice vb vm vd) (dv := dv) (fv := fv) (ks := ks) (rs := rs) (ss := [] ++ [(s, t)]) ⟨by rw [hp_setCell, if_pos rfl, hp3]; rfl, ownsRow_fr hK.keep hf4 (hne 4 (by simp)), ownsRow_fr hK.reps hf4 (hne 4 (by simp)), hK.apart, hst, ownsRow_fr hK.dsks hf4 (hne 160 (by simp)), ownsRow_fr hK.fls hf4 (hne 5 (by simp)), rfl, hK.lk, hK.lr, by have := Hl3.out; simp; omega⟩⟩, HLw.out.trans (H1.out.loLow hf4 (by rintro k rfl; exact H1.out.lo.1)), HKw.out.trans (fr_KO hf4 hS)⟩
    · have hnews0 : ∀ (j : Nat) (u : Value), (stepCells ss)[j]? = some u → w1.cell? ((⟨g, 0, none⟩ : Addr).add j) = some u := by
        intro j u hj
        have hjl := (List.getElem?_eq_some_iff.1 hj).1
        rw [Addr.add_lit, cellv, hh, cellOf_cells, Nat.zero_add]
        rw [← htk, List.getElem?_take_of_lt (by omega)] at hj
        simpa using hj
      have Hnews0 := Lib.hid hnews0
      have hone : ∀ u ∈ stepCells ss, u.oneCell' = true := by
        intro u hu
        simp only [stepCells, List.mem_flatMap] at hu
        obtain ⟨p, _, hu⟩ := hu
        simp at hu
        rcases hu with rfl | rfl <;> rfl
      have Hone := Lib.hid hone
      subst hsv
      clear hnews0 hone hh htk
      go_upto_region 12 with (first
        | (at_builtin; refine wpList_append_own _ rfl _ _ 114 rfl w1.heap.size 192 i0 (.agg #[.string ⟨#[]⟩, .string ⟨#[]⟩]) 2 32 Tryz.underlying114 hi hz0 hz1 hz2 rfl (by decide) _ _ _ rfl (World.ownsRow_nil w1 w1.heap.size 192 2) ⟨g, 0, none⟩ ss.length cap (stepCells ss) rfl hlc Hnews0.out Hone.out (by have := Hl3.out; unfold maxLen; omega) (by have := Hl3.out; omega) (Nat.le_refl _) ?_; intro sv1 w2 hr1 hg1 _; obtain ⟨ua, um, uc, rfl⟩ := own_slice hr1; go_frame)
        | fail)
      have hf2 : New w1 w2 := (Fr.ofGrown hg1).mono (fun _ _ e => by cases e)
      rw [Nat.zero_add, List.nil_append] at hr1
      have hp2 := hf2.get hp (fun f => f)
      have hob2 := hf2.get Hob.out (fun f => f)
      have hoA := Lib.hid (hr1.alloc (.cells #[.string s, .string t] 192))
      have hnews : ∀ (j : Nat) (u : Value), [Value.string s, Value.string t][j]? = some u → (w2.alloc (.cells #[.string s, .string t] 192)).cell? ((⟨w2.heap.size, 0, none⟩ : Addr).add j) = some u := World.news_of_block (heap_alloc_new w2 _)
      have Hnews := Lib.hid hnews
      have Hf2 := Lib.hid hf2
      have Hp2 := Lib.hid hp2
      have Hr1 := Lib.hid hr1
      have hpA : (w2.alloc (.cells #[.string s, .string t] 192)).heap[wb]? = some (.cells #[kv, rv, .slice (some ⟨g, 0, none⟩) ss.length cap, dv, fv] 118 (0, 0)) := heap_alloc_keep _ hp2
      have HpA := Lib.hid hpA
      clear hnews hf2 hr1 hpA hcv hfv
      have hcv := cellv w2
      go_wp2_with (first
        | (at_builtin; refine wpList_append_own _ rfl _ _ 114 rfl w1.heap.size 192 i0 (.agg #[.string ⟨#[]⟩, .string ⟨#[]⟩]) 2 32 Tryz.underlying114 hi hz0 hz1 hz2 rfl (by decide) _ _ _ rfl hoA.out ⟨w2.heap.size, 0, none⟩ 1 1 [Value.string s, Value.string t] rfl rfl Hnews.out (by intro u hu; simp at hu; rcases hu with rfl | rfl <;> rfl) (by have := Hl3.out; unfold maxLen; omega) (by have := Hl3.out; omega) (by have := Hf2.out.size; simp; omega) ?_; intro sv' w3 hown3 hg3 _; obtain ⟨vb, vm, vd, rfl⟩ := own_slice hown3; have hF3 := ((Fr.refl _ w2).alloc (.cells #[.string s, .string t] 192)).trans (Fr.ofGrown hg3); have hp3 := hF3.get Hp2.out (fun e => own_other Hr1.out Hp2.out (by simp [kindOf]) e); have hcv3 := cellv w3; have hfv3 := frozv w3; go_frame)
        | fail)
      go_ret
      have hK := Hw1.out
      have hN3 : New w1 w3 := Hf2.out.trans' hF3 (fun i hi e => by have := (Hr1.out.lt i e).1; omega)
      have hfS := Fr.one wb w3 2 (.slice vb vm vd)
      have hf4 : Fr (· = wb) w1 (w3.setCell ⟨wb, 2, none⟩ (.slice vb vm vd)) := (hN3.mono (fun _ _ f => f.elim)).trans hfS
      have hS : ∀ k, k = wb → ∃ ob, w1.heap[k]? = some ob ∧ kindOf ob ∈ [119, 4, 193, 160, 5] := by
        rintro k rfl
        exact ⟨_, hp, by simp [kindOf]⟩
      have hne : ∀ j, j ∈ [4, 193, 160, 5] → ∀ k, k = wb → ∃ ob, w1.heap[k]? = some ob ∧ kindOf ob ≠ j := by
        rintro j hj k rfl
        exact ⟨_, hp, by simp [kindOf] at hj ⊢; omega⟩
      have hst : (w3.setCell ⟨wb, 2, none⟩ (.slice vb vm vd)).ownsRow B 192 2 (.slice vb vm vd) (ss ++ [(s, t)]).length (stepCells (ss ++ [(s, t)])) := by
        refine own_baseM (ownsRow_fr ?_ hfS (by rintro k rfl; exact ⟨_, hp3, by simp [kindOf]⟩)) hBz.out
        rw [List.length_append, show stepCells (ss ++ [(s, t)]) = stepCells ss ++ [.string s, .string t] by simp [stepCells]]
        exact hown3
      exact ⟨rfl, ⟨l, H1.out.turn hf4 hS (kv := kv) (rv := rv) (sv := .slice vb vm vd) (dv := dv) (fv := fv) (ks := ks) (rs := rs) (ss := ss ++ [(s, t)]) ⟨by rw [hp_setCell, if_pos rfl, hp3]; rfl, ownsRow_fr hK.keep hf4 (hne 4 (by simp)), ownsRow_fr hK.reps hf4 (hne 4 (by simp)), hK.apart, hst, ownsRow_fr hK.dsks hf4 (hne 160 (by simp)), ownsRow_fr hK.fls hf4 (hne 5 (by simp)), rfl, hK.lk, hK.lr, by have := Hl3.out; simp; omega⟩⟩, HLw.out.trans (H1.out.loLow hf4 (by rintro k rfl; exact H1.out.lo.1)), HKw.out.trans (fr_KO hf4 hS)⟩
  by_cases k5 : k = 5
  · subst k5
    go_wp2_with fail
    go_ret
    have hf2 := Fr.one wb w1 2 (.slice none 0 0)
    have hK := Hw1.out
    have hS : ∀ k, k = wb → ∃ ob, w1.heap[k]? = some ob ∧ kindOf ob ∈ [119, 4, 193, 160, 5] := by
      rintro k rfl
      exact ⟨_, hp, by simp [kindOf]⟩
    have hne : ∀ j, j ∈ [4, 193, 160, 5] → ∀ k, k = wb → ∃ ob, w1.heap[k]? = some ob ∧ kindOf ob ≠ j := by
      rintro j hj k rfl
      exact ⟨_, hp, by simp [kindOf] at hj ⊢; omega⟩
    refine ⟨rfl, ⟨l, H1.out.turn hf2 hS (kv := kv) (rv := rv) (sv := .slice none 0 0) (dv := dv) (fv := fv) (ks := ks) (rs := rs) (ss := []) ⟨by rw [hp_setCell, if_pos rfl, hp]; rfl, ownsRow_fr hK.keep hf2 (hne 4 (by simp)), ownsRow_fr hK.reps hf2 (hne 4 (by simp)), hK.apart, World.ownsRow_nil _ _ _ _, ownsRow_fr hK.dsks hf2 (hne 160 (by simp)), ownsRow_fr hK.fls hf2 (hne 5 (by simp)), rfl, hK.lk, hK.lr, by have := Hl1.out; show 0 + m ≤ 60000; omega⟩⟩, HLw.out.trans (H1.out.loLow hf2 (by rintro k rfl; exact H1.out.lo.1)), HKw.out.trans (fr_KO hf2 hS)⟩
  by_cases k6 : k = 6
  · subst k6
    obtain ⟨i1, hi1, hz1, hs1, hb1⟩ := info_parts Tryz.info159
    obtain ⟨i4, hi4, hz4, hs4, hb4⟩ := info_parts Tryz.info4b
    go_upto_region 16 with fail
    refine ow_r16 wb ob a _ _ _ _ _ rs kv rv sv dv fv w1 hp hob (own_ints Hw1.out.reps) (by have := Hl2.out; omega) ?_
    intros
    rename_i dvv pvv w3 hN3 hD3 hP3
    obtain ⟨db, bb, rfl, hdb, hbb, hdk⟩ := hD3
    obtain ⟨pb, rfl, hpb, hfp⟩ := hP3
    have hn4 := heap_alloc_new w3 (.cells #[.pointer (some ⟨db, 0, none⟩), .pointer (some ⟨pb, 0, none⟩), .int .i64 (blkM a), .bool true, .bool false, .pointer none, .int .i64 0, .int .i64 0, .bool false, .slice none 0 0] 165)
    have hN4 : New w3 (w3.alloc (.cells #[.pointer (some ⟨db, 0, none⟩), .pointer (some ⟨pb, 0, none⟩), .int .i64 (blkM a), .bool true, .bool false, .pointer none, .int .i64 0, .int .i64 0, .bool false, .slice none 0 0] 165)) := (Fr.refl _ w3).alloc _
    have hkb : w1.heap.size ≤ w3.heap.size := hN3.size
    generalize w3.alloc (.cells #[.pointer (some ⟨db, 0, none⟩), .pointer (some ⟨pb, 0, none⟩), .int .i64 (blkM a), .bool true, .bool false, .pointer none, .int .i64 0, .int .i64 0, .bool false, .slice none 0 0] 165) = w4 at hn4 hN4 ⊢
    generalize w3.heap.size = kb at hn4 hkb ⊢
    have hO' : OdAt w4 m ⟨kb, db, bb, pb, blkM a, 0⟩ := ⟨⟨_, hdk.new hN4, ⟨new_quiet _, rfl, rfl, ⟨by show (0 : Int) ≤ 0; omega, by show (0 : Int) + 20000 * m ≤ 2 ^ 40; omega⟩⟩⟩, ⟨.pointer none, 0, hn4⟩, hfp.fr hN4 (fun f => f), by show 0 + m ≤ 100000; omega, blkM_lt a⟩
    have hN14 := hN3.trans hN4
    have H4 : Hid (∀ o ∈ l ++ [⟨kb, db, bb, pb, blkM a, 0⟩], OdAt w4 m o) := by
      intro o ho
      rcases List.mem_append.1 ho with h | h
      · exact (hd1.out o h).new hN14
      · simp at h; subst h; exact hO'
    have Hlo' : Hid (w1.heap.size ≤ kb ∧ w1.heap.size ≤ db ∧ w1.heap.size ≤ bb ∧ w1.heap.size ≤ pb) := ⟨hkb, hdb, hbb, hpb⟩
    have HN14 := Lib.hid hN14
    have hW4 := Hw1.out.fr hN14 (fun _ f => f.elim)
    have HW4 := Lib.hid hW4
    have hp4 := hW4.cells
    have Hp4 := Lib.hid hp4
    have hoA := Lib.hid (hW4.dsks.alloc (.cells #[.pointer (some ⟨kb, 0, none⟩)] 159))
    have hnews : ∀ (j : Nat) (u : Value), [Value.pointer (some ⟨kb, 0, none⟩)][j]? = some u → (w4.alloc (.cells #[.pointer (some ⟨kb, 0, none⟩)] 159)).cell? ((⟨w4.heap.size, 0, none⟩ : Addr).add j) = some u := World.news_of_block (heap_alloc_new w4 _)
    have Hnews := Lib.hid hnews
    have hBz4 : Hid (B ≤ w4.heap.size) := Nat.le_trans hBz.out hN14.size
    have hlen := Lib.hid hl0
    have HF : Hid (∀ w', Fr (fun k => dv.ownBlock = some k) w4 w' → w'.heap[wb]? = some (.cells #[kv, rv, sv, dv, fv] 118 (0, 0))) := fun w' hf => hf.get hp4 (fun e => own_other HW4.out.dsks hp4 (by simp [kindOf]) e)
    obtain ⟨da, dn, dc, hdv⟩ := own_slice hW4.dsks
    subst hdv
    clear hO' hN14 hW4 hnews hdk hfp hn4 hN4 hN3 hkb hdb hbb hpb hcv hfv hob hp hl0
    have hcv := cellv w4
    have hfv := frozv w4
    go_upto_region 18 with (first
      | (at_builtin; refine wpList_append_own _ rfl _ _ 115 rfl B 159 i1 (.pointer none) 1 8 Tryz.underlying115 hi1 hz1 hs1 hb1 rfl (by decide) _ _ _ rfl hoA.out ⟨w4.heap.size, 0, none⟩ 1 1 [Value.pointer (some ⟨kb, 0, none⟩)] rfl rfl Hnews.out (by intro u hu; simp at hu; subst hu; rfl) (by have := hlen.out; unfold maxLen; omega) (by have := hlen.out; omega) (by have := hBz4.out; simp; omega) ?_; intro dv' w5 hown5 hg5 _; obtain ⟨vb, vm, vd, rfl⟩ := own_slice hown5; have hF5 := ((Fr.refl (fun k => (Value.slice da dn dc).ownBlock = some k) w4).alloc (.cells #[.pointer (some ⟨kb, 0, none⟩)] 159)).trans (Fr.ofGrown hg5); have hp5 := HF.out _ hF5; have hcv5 := cellv w5; have hfv5 := frozv w5; go_frame)
      | fail)
    have hS4 : ∀ k, (k = wb ∨ (Value.slice da dn dc).ownBlock = some k) → ∃ ob, w4.heap[k]? = some ob ∧ kindOf ob ∈ [119, 160] := by
      rintro k (rfl | hk)
      · exact ⟨_, Hp4.out, by simp [kindOf]⟩
      · obtain ⟨o, e1, e2⟩ := own_kind HW4.out.dsks hk
        exact ⟨o, e1, by rw [e2]; simp⟩
    have hF6 : Fr (fun k => k = wb ∨ (Value.slice da dn dc).ownBlock = some k) w4 (w5.setCell ⟨wb, 3, none⟩ (.slice vb vm vd)) := (hF5.mono (fun _ _ h => .inr h)).trans ((Fr.one wb w5 3 (.slice vb vm vd)).mono (fun _ _ e => .inl e))
    have hp6 : (w5.setCell ⟨wb, 3, none⟩ (.slice vb vm vd)).heap[wb]? = some (.cells #[kv, rv, sv, .slice vb vm vd, fv] 118 (0, 0)) := by
      rw [hp_setCell, if_pos rfl, hp5]; rfl
    have hd6 : (w5.setCell ⟨wb, 3, none⟩ (.slice vb vm vd)).ownsRow B 159 1 (.slice vb vm vd) (l.length + 1) (ptrsOf l ++ [.pointer (some ⟨kb, 0, none⟩)]) := ownsRow_fr hown5 (Fr.one wb w5 3 (.slice vb vm vd)) (by rintro k rfl; exact ⟨_, hp5, by simp [kindOf]⟩)
    generalize w5.setCell ⟨wb, 3, none⟩ (.slice vb vm vd) = w6 at hF6 hp6 hd6 ⊢
    have hne4 : ∀ j, j ∈ [4, 193, 5] → ∀ k, (k = wb ∨ (Value.slice da dn dc).ownBlock = some k) → ∃ ob, w4.heap[k]? = some ob ∧ kindOf ob ≠ j := fun j hj k hk => by
      obtain ⟨o, e1, e2⟩ := hS4 k hk
      exact ⟨o, e1, by simp at hj e2; omega⟩
    have hfl6 := ownsRow_fr HW4.out.fls hF6 (hne4 5 (by simp))
    have hoB := Lib.hid (hfl6.alloc (.cells #[.bool false] 4))
    have hnewsB : ∀ (j : Nat) (u : Value), [Value.bool false][j]? = some u → (w6.alloc (.cells #[.bool false] 4)).cell? ((⟨w6.heap.size, 0, none⟩ : Addr).add j) = some u := World.news_of_block (heap_alloc_new w6 _)
    have HnewsB := Lib.hid hnewsB
    have hBz6 : Hid (B ≤ w6.heap.size) := Nat.le_trans hBz4.out hF6.size
    have HFB : Hid (∀ w', Fr (fun k => fv.ownBlock = some k) w6 w' → w'.heap[wb]? = some (.cells #[kv, rv, sv, .slice vb vm vd, fv] 118 (0, 0))) := fun w' hf => hf.get hp6 (fun e => own_other hfl6 hp6 (by simp [kindOf]) e)
    have HF6 := Lib.hid hF6
    have Hp6 := Lib.hid hp6
    have Hd6 := Lib.hid hd6
    have Hfl6 := Lib.hid hfl6
    have HS4 := Lib.hid hS4
    obtain ⟨fa, fn, fc, hfv'⟩ := own_slice hfl6
    subst hfv'
    clear hF5 hown5 hg5 hp5 hcv5 hfv5 hcv hfv hF6 hd6 hfl6 hnewsB hS4 hne4 hp4 HF hoA Hnews
    have hcv := cellv w6
    have hfv := frozv w6
    go_wp2_with (first
      | (at_builtin; refine wpList_append_own _ rfl _ _ 116 rfl B 4 i4 (.bool false) 1 1 Tryz.underlying116 hi4 hz4 hs4 hb4 rfl (by decide) _ _ _ rfl hoB.out ⟨w6.heap.size, 0, none⟩ 1 1 [Value.bool false] rfl rfl HnewsB.out (by intro u hu; simp at hu; subst hu; rfl) (by have := hlen.out; unfold maxLen; omega) (by have := hlen.out; omega) (by have := hBz6.out; simp; omega) ?_; intro fv' w7 hown7 hg7 _; obtain ⟨ga, gn, gc, rfl⟩ := own_slice hown7; have hF7 := ((Fr.refl (fun k => (Value.slice fa fn fc).ownBlock = some k) w6).alloc (.cells #[.bool false] 4)).trans (Fr.ofGrown hg7); have hp7 := HFB.out _ hF7; have hcv7 := cellv w7; have hfv7 := frozv w7; go_frame)
      | fail)
    go_ret
    have hF8 : Fr (fun k => k = wb ∨ (Value.slice fa fn fc).ownBlock = some k) w6 (w7.setCell ⟨wb, 4, none⟩ (.slice ga gn gc)) := (hF7.mono (fun _ _ h => .inr h)).trans ((Fr.one wb w7 4 (.slice ga gn gc)).mono (fun _ _ e => .inl e))
    have hp8 : (w7.setCell ⟨wb, 4, none⟩ (.slice ga gn gc)).heap[wb]? = some (.cells #[kv, rv, sv, .slice vb vm vd, .slice ga gn gc] 118 (0, 0)) := by
      rw [hp_setCell, if_pos rfl, hp7]; rfl
    have hf8 : (w7.setCell ⟨wb, 4, none⟩ (.slice ga gn gc)).ownsRow B 4 1 (.slice ga gn gc) (l.length + 1) (List.replicate l.length (.bool false) ++ [.bool false]) := ownsRow_fr hown7 (Fr.one wb w7 4 (.slice ga gn gc)) (by rintro k rfl; exact ⟨_, hp7, by simp [kindOf]⟩)
    generalize w7.setCell ⟨wb, 4, none⟩ (.slice ga gn gc) = w8 at hF8 hp8 hf8 ⊢
    have hS6 : ∀ k, (k = wb ∨ (Value.slice fa fn fc).ownBlock = some k) → ∃ ob, w6.heap[k]? = some ob ∧ kindOf ob ∈ [119, 5] := by
      rintro k (rfl | hk)
      · exact ⟨_, Hp6.out, by simp [kindOf]⟩
      · obtain ⟨o, e1, e2⟩ := own_kind Hfl6.out hk
        exact ⟨o, e1, by rw [e2]; simp⟩
    have hn4 : ∀ j, j ∈ [4, 193, 5] → ∀ k, (k = wb ∨ (Value.slice da dn dc).ownBlock = some k) → ∃ ob, w4.heap[k]? = some ob ∧ kindOf ob ≠ j := fun j hj k hk => by
      obtain ⟨o, e1, e2⟩ := HS4.out k hk
      exact ⟨o, e1, by simp at hj e2; omega⟩
    have hn6 : ∀ j, j ∈ [4, 193, 160] → ∀ k, (k = wb ∨ (Value.slice fa fn fc).ownBlock = some k) → ∃ ob, w6.heap[k]? = some ob ∧ kindOf ob ≠ j := fun j hj k hk => by
      obtain ⟨o, e1, e2⟩ := hS6 k hk
      exact ⟨o, e1, by simp at hj e2; omega⟩
    have hK := HW4.out
    have hds1 : ∀ o ∈ l ++ [⟨kb, db, bb, pb, blkM a, 0⟩], OdAt w6 m o := by
      refine ods_keep H4.out HF6.out ?_
      intro k hk
      obtain ⟨o, e1, e2⟩ := HS4.out k hk
      exact ⟨o, e1, by simp at e2 ⊢; omega⟩
    have hds : ∀ o ∈ l ++ [⟨kb, db, bb, pb, blkM a, 0⟩], OdAt w8 m o := by
      refine ods_keep hds1 hF8 ?_
      intro k hk
      obtain ⟨o, e1, e2⟩ := hS6 k hk
      exact ⟨o, e1, by simp at e2 ⊢; omega⟩
    have hlow1 : Low B w1 w4 := HN14.out.low H1.out.lo.2.1 (fun _ f => f.elim)
    have hlow2 : Low B w4 w6 := HF6.out.low hBz4.out (by
      rintro k (rfl | hk)
      · exact H1.out.lo.1
      · exact (hK.dsks.lt k hk).1)
    have hlow3 : Low B w6 w8 := hF8.low hBz6.out (by
      rintro k (rfl | hk)
      · exact H1.out.lo.1
      · exact (Hfl6.out.lt k hk).1)
    have hko2 : FrK [119, 4, 193, 160, 5] w4 w6 := by
      refine fr_KO HF6.out ?_
      intro k hk
      obtain ⟨o, e1, e2⟩ := HS4.out k hk
      exact ⟨o, e1, by simp at e2 ⊢; omega⟩
    have hko3 : FrK [119, 4, 193, 160, 5] w6 w8 := by
      refine fr_KO hF8 ?_
      intro k hk
      obtain ⟨o, e1, e2⟩ := hS6 k hk
      exact ⟨o, e1, by simp at e2 ⊢; omega⟩
    have hlt : ∀ o ∈ l, o.kb < w1.heap.size ∧ o.db < w1.heap.size ∧ o.bb < w1.heap.size := by
      intro o ho
      have h := hd1.out o ho
      obtain ⟨d, e1, _⟩ := h.dk
      obtain ⟨_, _, e3⟩ := h.st
      have := disk_lt e1
      exact ⟨lt_of_hp e3, this.1, this.2⟩
    have hL := Hlo'.out
    have hB1 := hBz.out
    refine ⟨rfl, ⟨l ++ [⟨kb, db, bb, pb, blkM a, 0⟩], ⟨kv, rv, sv, .slice vb vm vd, .slice ga gn gc, ks, rs, ss, ?_⟩, hds, ?_, ⟨H1.out.lo.1, Nat.le_trans hBz6.out hF8.size, ?_⟩, ?_⟩, ((HLw.out.trans hlow1).trans hlow2).trans hlow3, ((HKw.out.trans (HN14.out.toK (fun _ _ f _ => f.elim))).trans hko2).trans hko3⟩
    · refine ⟨hp8, ownsRow_fr (ownsRow_fr hK.keep HF6.out (hn4 4 (by simp))) hF8 (hn6 4 (by simp)), ownsRow_fr (ownsRow_fr hK.reps HF6.out (hn4 4 (by simp))) hF8 (hn6 4 (by simp)), hK.apart, ownsRow_fr (ownsRow_fr hK.stps HF6.out (hn4 193 (by simp))) hF8 (hn6 193 (by simp)), ?_, ?_, rfl, hK.lk, hK.lr, hK.ls⟩
      · have := ownsRow_fr Hd6.out hF8 (hn6 160 (by simp))
        rw [List.length_append, show ptrsOf (l ++ [⟨kb, db, bb, pb, blkM a, 0⟩]) = ptrsOf l ++ [.pointer (some ⟨kb, 0, none⟩)] by simp [ptrsOf]]
        exact this
      · rw [List.length_append]
        show w8.ownsRow B 4 1 (.slice ga gn gc) (l.length + 1) (List.replicate (l.length + 1) (.bool false))
        rw [List.replicate_succ']; exact hf8
    · obtain ⟨n1, n2, n3⟩ := H1.out.nd
      have key : ∀ (f : OD → Nat), (l.map f).Nodup → (∀ o ∈ l, f o < w1.heap.size) → w1.heap.size ≤ f ⟨kb, db, bb, pb, blkM a, 0⟩ → ((l ++ [(⟨kb, db, bb, pb, blkM a, 0⟩ : OD)]).map f).Nodup := by
        intro f h1 h2 h3
        rw [List.map_append, List.nodup_append]
        refine ⟨h1, by simp, fun x hx y hy e => ?_⟩
        obtain ⟨o, ho, rfl⟩ := List.mem_map.1 hx
        simp at hy
        have := h2 o ho
        omega
      exact ⟨key (·.kb) n1 (fun o ho => (hlt o ho).1) hL.1, key (·.db) n2 (fun o ho => (hlt o ho).2.1) hL.2.1, key (·.bb) n3 (fun o ho => (hlt o ho).2.2) hL.2.2.1⟩
    · intro o ho
      rcases List.mem_append.1 ho with h | h
      · exact H1.out.lo.2.2 o h
      · simp at h; subst h
        exact ⟨Nat.le_trans hB1 hL.1, Nat.le_trans hB1 hL.2.1, Nat.le_trans hB1 hL.2.2.1, Nat.le_trans hB1 hL.2.2.2⟩
    · have := hlen.out
      simp; omega
  · go_wp2_with fail
    go_ret
    refine ⟨?_, ⟨l, H1.out⟩, HLw.out, HKw.out⟩
    show Ending.returned (.bool false) = .returned (.bool (decide (1 ≤ k) && decide (k ≤ 6)))
    have : (decide (1 ≤ k) && decide (k ≤ 6)) = false := by
      simp only [Bool.and_eq_false_iff, decide_eq_false_iff_not]; omega
    rw [this]
end Go.Proofs.YtkafmfdipmhleaaGreatDoor

namespace Go.Proofs.YtkafmfdipmhleaaGreatDoor
open Go.RowKit Go.Maps

/-- One disk has turned. -/
theorem OW.disk {w w' : World} {B wb m k : Nat} {l : List OD} {o o' : OD} (h : OW w B wb m l) (hk : l[k]? = some o) (hf : Fr (fun k => k = o.kb ∨ k = o.db ∨ k = o.bb) w w') (ho : OdAt w' m o') (he : o'.kb = o.kb ∧ o'.db = o.db ∧ o'.bb = o.bb ∧ o'.pb = o.pb) : OW w' B wb m (l.set k o') := by
  have hmem := List.mem_of_getElem? hk
  have hko := h.ds o hmem
  have hlen : k < l.length := (List.getElem?_eq_some_iff.1 hk).1
  have hmap : ∀ (f : OD → Nat), f o' = f o → (l.set k o').map f = l.map f := by
    intro f hfo
    apply List.ext_getElem?
    intro i
    rw [List.getElem?_map, List.getElem?_map]
    by_cases e : i = k
    · subst e
      rw [List.getElem?_set_self hlen, hk]; simp [hfo]
    · rw [List.getElem?_set_ne (fun h => e h.symm)]
  obtain ⟨kv, rv, sv, dv, fv, ks, rs, ss, hw⟩ := h.wd
  obtain ⟨d, ⟨_, _, _, _, e1, e2, _⟩, _⟩ := hko.dk
  obtain ⟨_, _, e3⟩ := hko.st
  have hS : ∀ k, (k = o.kb ∨ k = o.db ∨ k = o.bb) → ∃ ob, w.heap[k]? = some ob ∧ kindOf ob ∈ [166, 103, 104] := by
    rintro k (rfl | rfl | rfl)
    · exact ⟨_, e3, by simp [kindOf]⟩
    · exact ⟨_, e1, by simp [kindOf]⟩
    · exact ⟨_, e2, by simp [kindOf]⟩
  have hw' := hw.fr hf (fun k hk => by
    obtain ⟨ob, a1, a2⟩ := hS k hk
    exact ⟨ob, a1, by simp at a2 ⊢; omega⟩)
  have hpo : ptrsOf (l.set k o') = ptrsOf l := by
    unfold ptrsOf
    apply List.ext_getElem?
    intro i
    rw [List.getElem?_map, List.getElem?_map]
    by_cases e : i = k
    · subst e
      rw [List.getElem?_set_self hlen, hk]; simp [he.1]
    · rw [List.getElem?_set_ne (fun h => e h.symm)]
  refine ⟨⟨kv, rv, sv, dv, fv, ks, rs, ss, ?_⟩, ?_, ?_, ⟨h.lo.1, Nat.le_trans h.lo.2.1 hf.size, ?_⟩, by rw [List.length_set]; exact h.len⟩
  · rw [List.length_set]
    exact ⟨hw'.cells, hw'.keep, hw'.reps, hw'.apart, hw'.stps, by rw [List.length_set, hpo]; exact hw'.dsks, hw'.fls, by rw [List.length_set], hw'.lk, hw'.lr, hw'.ls⟩
  · intro x hx
    obtain ⟨i, hi⟩ := List.getElem?_of_mem hx
    by_cases e : i = k
    · subst e
      rw [List.getElem?_set_self hlen] at hi
      cases hi; exact ho
    · rw [List.getElem?_set_ne (fun h => e h.symm)] at hi
      have hxm := List.mem_of_getElem? hi
      have hxo := h.ds x hxm
      obtain ⟨n1, n2, n3⟩ := h.nd
      have hne : ∀ (f : OD → Nat), (l.map f).Nodup → f x ≠ f o := by
        intro f hn hfe
        have h1 : (l.map f)[i]? = some (f x) := by rw [List.getElem?_map, hi]; rfl
        have h2 : (l.map f)[k]? = some (f o) := by rw [List.getElem?_map, hk]; rfl
        obtain ⟨p1, q1⟩ := List.getElem?_eq_some_iff.1 h1
        obtain ⟨p2, q2⟩ := List.getElem?_eq_some_iff.1 h2
        have hpw := List.pairwise_iff_getElem.1 hn
        rcases Nat.lt_or_ge i k with h3 | h3
        · exact hpw i k p1 p2 h3 (by rw [q1, q2, hfe])
        · exact hpw k i p2 p1 (by omega) (by rw [q1, q2, hfe])
      obtain ⟨d', ⟨_, _, _, _, f1, f2, _⟩, _⟩ := hxo.dk
      obtain ⟨_, _, f3⟩ := hxo.st
      obtain ⟨_, _, _, _, _, f4⟩ := hxo.pt
      refine hxo.fr hf ?_
      rintro z (rfl | rfl | rfl)
      · exact ⟨fun e => hne (·.kb) n1 e.symm, ne_of_kind e3 f1 (by simp [kindOf]), ne_of_kind e3 f2 (by simp [kindOf]), ne_of_kind e3 f4 (by simp [kindOf])⟩
      · exact ⟨ne_of_kind e1 f3 (by simp [kindOf]), fun e => hne (·.db) n2 e.symm, ne_of_kind e1 f2 (by simp [kindOf]), ne_of_kind e1 f4 (by simp [kindOf])⟩
      · exact ⟨ne_of_kind e2 f3 (by simp [kindOf]), ne_of_kind e2 f1 (by simp [kindOf]), fun e => hne (·.bb) n3 e.symm, ne_of_kind e2 f4 (by simp [kindOf])⟩
  · rw [hmap _ he.1, hmap _ he.2.1, hmap _ he.2.2.1]; exact h.nd
  · intro x hx
    obtain ⟨i, hi⟩ := List.getElem?_of_mem hx
    by_cases e : i = k
    · subst e
      rw [List.getElem?_set_self hlen] at hi
      cases hi
      rw [he.1, he.2.1, he.2.2.1, he.2.2.2]; exact h.lo.2.2 o hmem
    · rw [List.getElem?_set_ne (fun h => e h.symm)] at hi
      exact h.lo.2.2 x (List.mem_of_getElem? hi)
/-- A cell of a row. -/
theorem own_cell {w : World} {B e n i : Nat} {v u : Value} {xs : List Value} (h : w.ownsRow B e 1 v n xs) (hi : i < n) (hx : xs[i]? = some u) : ∃ g cap cur, v = .slice (some ⟨g, 0, none⟩) n cap ∧ w.heap[g]? = some (.cells cur e (0, 0)) ∧ cur[i]? = some u := by
  rcases h.2 with ⟨_, h0⟩ | ⟨g, cap, cur, hv, hg, hh, hn, hq1, hq2, htk⟩
  · omega
  · refine ⟨g, cap, cur, hv, hh, ?_⟩
    rw [← htk, List.getElem?_take_of_lt (by omega)] at hx
    simpa using hx
theorem set_sameC {w : World} {g i : Nat} {cur : Array Value} {t : TypeId} {v : Value} (h : w.heap[g]? = some (.cells cur t (0, 0))) (hi : cur[i]? = some v) : New w (w.setCell ⟨g, i, none⟩ v) := by
  refine ⟨rfl, rfl, rfl, by simp, fun k hk _ => ?_⟩
  rw [hp_setCell]
  split
  · rename_i e
    subst e
    rw [h]
    have hlt := (Array.getElem?_eq_some_iff.1 hi).1
    have hv := (Array.getElem?_eq_some_iff.1 hi).2
    rw [objSet_cells]
    congr 2
    apply Array.ext_getElem?
    intro j
    by_cases e : i = j
    · subst e; simp [hlt, hv]
    · simp [Array.getElem?_setIfInBounds, e]
  · rfl
set_option maxRecDepth 100000 in
set_option maxHeartbeats 8000000 in
theorem step_calls {w : World} {B wb m : Nat} {l : List OD} {o : OpM} (h : OW w B wb (m + 2) l) (hok : o.ok) (hkd : o.k < 7 ∨ o.k = 10 ∨ o.k = 11) (hg : Handle w) (hB : 0 < B) :
    Calls Tryz.prog 60 #[.pointer (some ⟨wb, 0, none⟩), .agg o.cells] w fun e w' => e = .returned (.bool true) ∧ (∃ l', OW w' B wb m l') ∧ Low B w w' := by
  obtain ⟨k, x, a, b, s, t⟩ := o
  have hN0 : New w (w.alloc (.cells #[.int .i64 k, .int .i64 x, .int .i64 a, .int .i64 b, .string s, .string t] 112)) := (Fr.refl _ w).alloc _
  have hob := heap_alloc_new w (.cells #[.int .i64 k, .int .i64 x, .int .i64 a, .int .i64 b, .string s, .string t] 112)
  have HO1 := Lib.hid (owner_calls (o := ⟨k, x, a, b, s, t⟩) (m := m + 1) (h.new hN0))
  simp only [OpM.cells] at HO1
  have HL0 : Hid (Low B w (w.alloc (.cells #[.int .i64 k, .int .i64 x, .int .i64 a, .int .i64 b, .string s, .string t] 112))) := hN0.low h.lo.2.1 (fun _ f => f.elim)
  have Hsz : Hid (B ≤ w.heap.size) := h.lo.2.1
  have HN0 := Lib.hid hN0
  have Hob := Lib.hid hob
  have Hg := Lib.hid hg
  have Hok := Lib.hid hok
  have hkd : k < 7 ∨ k = 10 ∨ k = 11 := hkd
  have Hkd := Lib.hid hkd
  simp only [OpM.cells]
  clear h hN0 hg hok hkd
  go_enter Tryz.func60, Tryz.ntmps60
  go_upto_region 1 with fail
  generalize w.alloc (.cells #[.int .i64 k, .int .i64 x, .int .i64 a, .int .i64 b, .string s, .string t] 112) = w0 at *
  generalize w.heap.size = ob at *
  have hcv0 := cellv w0
  by_cases hown : 1 ≤ k ∧ k ≤ 6
  · have hdc : (decide (1 ≤ k) && decide (k ≤ 6)) = true := by simp [hown]
    have Hdc := Lib.hid hdc
    clear hdc
    go_wp2_with (first
      | (go_at_call 85; refine Calls.mono HO1.out ?_; rintro e w2 ⟨rfl, ⟨l2, h2⟩, hl2, hk2⟩; rw [Hdc.out])
      | fail)
    go_ret
    exact ⟨rfl, ⟨l2, h2.less (by omega)⟩, HL0.out.trans hl2⟩
  · have hdc : (decide (1 ≤ k) && decide (k ≤ 6)) = false := by
      simp only [Bool.and_eq_false_iff, decide_eq_false_iff_not]; omega
    have Hdc := Lib.hid hdc
    clear hdc
    go_upto_region 4 with (first
      | (go_at_call 85; refine Calls.mono HO1.out ?_; rintro e w2 ⟨rfl, ⟨l2, h2⟩, hl2, hk2⟩; rw [Hdc.out])
      | fail)
    have hob2 := hk2.block ob _ Hob.out (by simp [kindOf])
    have Hob2 := Lib.hid hob2
    have Hl2 := Lib.hid (HL0.out.trans hl2)
    have H2 := Lib.hid h2
    obtain ⟨kv, rv, sv, dv, fv, ks, rs, ss, hw2⟩ := h2.wd
    have Hw2 := Lib.hid hw2
    have hp2 := hw2.cells
    obtain ⟨da, dc, rfl⟩ : ∃ da dc, dv = .slice da l2.length dc := by
      rcases hw2.dsks.2 with ⟨e1, e2⟩ | ⟨g, cap, cur, e1, _⟩
      · exact ⟨none, 0, by rw [e1, e2]⟩
      · exact ⟨_, _, e1⟩
    clear hl2 hk2 h2 hw2 hcv0 hob HO1
    have hcv := cellv w2
    by_cases hl0 : l2.length = 0
    · have hl0I : (l2.length : Int) = 0 := by omega
      go_wp2_with fail
      go_ret
      exact ⟨rfl, ⟨l2, H2.out.less (by omega)⟩, Hl2.out⟩
    have hl0I : ¬ (l2.length : Int) = 0 := by omega
    by_cases hk7 : k < 7
    · go_wp2_with fail
      go_ret
      exact ⟨rfl, ⟨l2, H2.out.less (by omega)⟩, Hl2.out⟩
    have hk16 : ¬ (16 : Int) < k := by have := Hkd.out; omega
    go_upto_region 6 with fail
    have HP : Hid (∀ N, Calls Tryz.prog 86 #[.int .i64 x, .int .i64 l2.length] (w2.drewN N) fun e w' => e = .returned (.int .i64 (pickM x l2.length)) ∧ ∃ m, w' = w2.drewN m) := fun N => (lpick_calls (w2.drewN N) x l2.length Hok.out.2.1 (by have := H2.out.len; omega)).mono fun _ _ h => ⟨h.1, N, h.2.symm⟩
    have hpk := pickM_range x l2.length (by omega)
    obtain ⟨i, hi⟩ : ∃ i : Nat, pickM x l2.length = (i : Int) := ⟨(pickM x l2.length).toNat, by omega⟩
    rw [hi] at HP hpk
    have hil : i < l2.length := by omega
    clear hi
    go_quiet (first | (go_at_call 86; exact HP.out _))
    have hN3 : New w2 (w2.drewN nq) := (Fr.refl _ w2).drewN nq
    have hob3 := hN3.get Hob2.out (fun f => f)
    have h3 := H2.out.new hN3
    have hw3 := Hw2.out.fr hN3 (fun _ f => f.elim)
    have hl3 := Hl2.out.trans (hN3.low H2.out.lo.2.1 (fun _ f => f.elim))
    generalize w2.drewN nq = w3 at hN3 hob3 h3 hw3 hl3 ⊢
    have H3 := Lib.hid h3
    have Hl3 := Lib.hid hl3
    have Hob3 := Lib.hid hob3
    have Hw3 := Lib.hid hw3
    obtain ⟨od, hod⟩ : ∃ od, l2[i]? = some od := ⟨l2[i], List.getElem?_eq_getElem hil⟩
    obtain ⟨g, cap, cur, hdv, hh, hcu⟩ := own_cell hw3.dsks hil (by unfold ptrsOf; rw [List.getElem?_map, hod]; rfl)
    have hdv : da = some ⟨g, 0, none⟩ := by simp only [Value.slice.injEq] at hdv; exact hdv.1
    subst hdv
    have hdc : w3.cell? ⟨g, i, none⟩ = some (.pointer (some ⟨od.kb, 0, none⟩)) := by rw [cellv, hh, cellOf_cells]; exact hcu
    have hp3 := hw3.cells
    have hiI : (i : Int) < l2.length := by omega
    have hi0 : (0 : Int) ≤ i := by omega
    have Hod := Lib.hid hod
    have HNa := Lib.hid (fun (w' : World) => near_calls w' a Hok.out.2.2.1)
    have HNb := Lib.hid (fun (w' : World) => near_calls w' b Hok.out.2.2.2)
    clear hN3 h3 hw3 hl3 hod hh hcu HP hpk hp2 hob2 hcv
    have hcv := cellv w3
    go_upto_region 10 with (first
      | (go_at_call 87; refine Calls.mono (HNa.out _) ?_; rintro e w4 ⟨⟨xa, rfl⟩, rfl⟩)
      | (go_at_call 87; refine Calls.mono (HNb.out _) ?_; rintro e w4 ⟨⟨xb, rfl⟩, rfl⟩)
      | fail)
    have hg3 := handle_low Hg.out Hl3.out hB
    have hmem := List.mem_of_getElem? Hod.out
    have hod3 := H3.out.ds od hmem
    have hlo3 := H3.out.lo.2.2 od hmem
    have h0 : 0 < od.kb ∧ 0 < od.db ∧ 0 < od.bb := by omega
    by_cases hk10 : k = 10
    · subst hk10
      have HF := Lib.hid (formatted_calls hod3 hg3 h0)
      clear hod3 hlo3 hg3
      go_wp2_with (first
        | (go_at_call 88; refine Calls.mono HF.out ?_; rintro e w5 ⟨rfl, ho5, hf5⟩)
        | fail)
      go_ret
      refine ⟨rfl, ⟨_, (H3.out.less (k := m) (by omega)).disk Hod.out hf5 ho5 ?_⟩, Hl3.out.trans (hf5.low H3.out.lo.2.1 ?_)⟩
      · unfold OD.fmt; split <;> exact ⟨rfl, rfl, rfl, rfl⟩
      · have := H3.out.lo.2.2 od (List.mem_of_getElem? Hod.out)
        rintro z (rfl | rfl | rfl) <;> omega
    · have hk11 : k = 11 := by have := Hkd.out; omega
      subst hk11
      obtain ⟨d, hdk, hD⟩ := hod3.dk
      obtain ⟨xv, pz, hkb⟩ := hod3.st
      have hpe : d.pending = 0 := by unfold DiskM.pending; rw [hD.pend]
      have HPe := Lib.hid (Pending_calls hdk)
      rw [hpe] at HPe
      obtain ⟨fg, fcap, fcur, hfv', hfh, hfc⟩ := own_cell Hw3.out.fls (i := i) (u := .bool false) hil (by rw [List.getElem?_replicate, if_pos hil])
      subst hfv'
      have hfcell : w3.cell? ⟨fg, i, none⟩ = some (.bool false) := by rw [cellv, hfh, cellOf_cells]; exact hfc
      have hfcell2 : cellOf w3.heap[fg]? i = some (.bool false) := by rw [hfh, cellOf_cells]; exact hfc
      have hffr : w3.frozen? ⟨fg, i, none⟩ = false := by rw [frozv, hfh]; rfl
      have hN4 := set_sameC hfh hfc
      have HOp := Lib.hid (opened_calls (pause := a) (hod3.new hN4) (hg3.new hN4) h0)
      have HN4 := Lib.hid hN4
      have hob4 := hN4.get Hob3.out (fun f => f)
      simp only [odCells] at hkb
      clear hod3 hlo3 hg3 hdk hD hpe hfh hfc hN4
      by_cases hne : od.ep = 0
      · have hdec : decide (od.ep = 0) = true := by simp [hne]
        rw [hdec] at hkb
        clear hne hdec
        have Hob4 := Lib.hid hob4
        clear hob4
        go_upto_region 27 with (first
          | (go_at_call 31; refine Calls.mono HPe.out ?_; rintro e w5 ⟨rfl, rfl⟩)
          | fail)
        go_upto_region 28 with fail
        have hob4 := Hob4.out
        clear hfcell hfcell2 hffr hdc hp3 hkb hob3 hcv
        generalize w3.setCell ⟨fg, i, none⟩ (.bool false) = w4 at HN4 HOp hob4 ⊢
        have hcv4 := cellv w4
        go_wp2_with (first
          | (go_at_call 89; refine Calls.mono HOp.out ?_; rintro e w6 ⟨rfl, ho6, hf6⟩)
          | fail)
        go_ret
        have hset := ((H3.out.less (k := m) (by omega)).new HN4.out).disk Hod.out (hf6.mono (fun _ _ e => e.elim .inl (fun e => .inr (.inl e)))) ho6 ⟨rfl, rfl, rfl, rfl⟩
        refine ⟨rfl, ⟨_, hset⟩, (Hl3.out.trans (HN4.out.low H3.out.lo.2.1 (fun _ f => f.elim))).trans (hf6.low (Nat.le_trans H3.out.lo.2.1 HN4.out.size) ?_)⟩
        have := H3.out.lo.2.2 od (List.mem_of_getElem? Hod.out)
        rintro z (rfl | rfl) <;> omega
      · have hdec : decide (od.ep = 0) = false := by simp [hne]
        rw [hdec] at hkb
        clear hne hdec
        have Hob4 := Lib.hid hob4
        clear hob4
        go_upto_region 27 with (first
          | (go_at_call 31; refine Calls.mono HPe.out ?_; rintro e w5 ⟨rfl, rfl⟩)
          | fail)
        go_upto_region 28 with fail
        have hob4 := Hob4.out
        clear hfcell hfcell2 hffr hdc hp3 hkb hob3 hcv
        generalize w3.setCell ⟨fg, i, none⟩ (.bool false) = w4 at HN4 HOp hob4 ⊢
        have hcv4 := cellv w4
        go_wp2_with (first
          | (go_at_call 89; refine Calls.mono HOp.out ?_; rintro e w6 ⟨rfl, ho6, hf6⟩)
          | fail)
        go_ret
        have hset := ((H3.out.less (k := m) (by omega)).new HN4.out).disk Hod.out (hf6.mono (fun _ _ e => e.elim .inl (fun e => .inr (.inl e)))) ho6 ⟨rfl, rfl, rfl, rfl⟩
        refine ⟨rfl, ⟨_, hset⟩, (Hl3.out.trans (HN4.out.low H3.out.lo.2.1 (fun _ f => f.elim))).trans (hf6.low (Nat.le_trans H3.out.lo.2.1 HN4.out.size) ?_)⟩
        have := H3.out.lo.2.2 od (List.mem_of_getElem? Hod.out)
        rintro z (rfl | rfl) <;> omega
end Go.Proofs.YtkafmfdipmhleaaGreatDoor

namespace Go.Proofs.YtkafmfdipmhleaaGreatDoor
open Go.RowKit Go.Maps

/-- A slice whose steps read as L. -/
def ScrIn (w : World) (v : Value) (L : List OpM) : Prop :=
  (L = [] ∧ ∃ a c, v = .slice a 0 c) ∨ ∃ b off cap, v = .slice (some ⟨b, off, none⟩) L.length cap ∧ ∀ i o, L[i]? = some o → ∀ j u, o.cells[j]? = some u → w.cell? ⟨b, off + i * 6 + j, none⟩ = some u
theorem ScrIn.shape {w : World} {v : Value} {L : List OpM} (h : ScrIn w v L) : ∃ a c, v = .slice a L.length c := by
  rcases h with ⟨rfl, a, c, e⟩ | ⟨b, off, cap, e, _⟩
  · exact ⟨a, c, e⟩
  · exact ⟨_, _, e⟩
theorem ScrIn.low {w w' : World} {v : Value} {L : List OpM} (h : ScrIn w v L) (hl : Low w.heap.size w w') : ScrIn w' v L := by
  rcases h with h | ⟨b, off, cap, e, h2⟩
  · exact .inl h
  · refine .inr ⟨b, off, cap, e, fun i o ho j u hu => ?_⟩
    have h0 := h2 i o ho j u hu
    have hlt := World.block_lt_of_cell? w _ h0
    rw [← h0]; exact World.cell?_of_block (hl.block b hlt)
theorem ScrIn.at {w : World} {a : Option Addr} {n c : Nat} {L : List OpM} (h : ScrIn w (.slice a n c) L) (i : Nat) (o : OpM) (ho : L[i]? = some o) : ∃ b off, a = some ⟨b, off, none⟩ ∧ w.cell? ⟨b, off + i * 6, none⟩ = some (.int .i64 o.k) ∧ w.cell? ⟨b, off + i * 6 + 1, none⟩ = some (.int .i64 o.x) ∧ w.cell? ⟨b, off + i * 6 + 2, none⟩ = some (.int .i64 o.a) ∧ w.cell? ⟨b, off + i * 6 + 3, none⟩ = some (.int .i64 o.b) ∧ w.cell? ⟨b, off + i * 6 + 4, none⟩ = some (.string o.s) ∧ w.cell? ⟨b, off + i * 6 + 5, none⟩ = some (.string o.t) := by
  rcases h with ⟨rfl, _⟩ | ⟨b, off, cap, e, h2⟩
  · simp at ho
  · simp only [Value.slice.injEq] at e
    exact ⟨b, off, e.1, h2 i o ho 0 _ rfl, h2 i o ho 1 _ rfl, h2 i o ho 2 _ rfl, h2 i o ho 3 _ rfl, h2 i o ho 4 _ rfl, h2 i o ho 5 _ rfl⟩
def SmallPost (w : World) (L : List OpM) (e : Ending) (w' : World) : Prop := ∃ b, e = .returned (.bool b) ∧ New w w' ∧ (b = true → L.length ≤ 16384)
set_option maxRecDepth 100000 in
set_option maxHeartbeats 4000000 in
/-- small. -/
theorem small_calls {w : World} {v : Value} {L : List OpM} (h : ScrIn w v L) (hL : L.length ≤ maxLen) :
    Calls Tryz.prog 36 #[v] w (SmallPost w L) := by
  obtain ⟨a, c, rfl⟩ := h.shape
  have H := Lib.hid h
  clear h
  by_cases hl : L.length ≤ 16384
  · have hlI : ¬ (16384 : Int) < L.length := by omega
    have Hl := Lib.hid hl
    go_enter Tryz.func36, Tryz.ntmps36
    go_wp2_with fail
    go_loopw [3, 4] (fun n i wr => ∃ (k : Nat) (z : Int), k ≤ L.length ∧ i = .int .i64 k ∧ n = .int .i64 z ∧ New w wr) (fun _ i _ => L.length - (intOf i).toNat)
    case atStart => exact ⟨0, _, Nat.zero_le _, rfl, rfl, Fr.refl _ _⟩
    case round =>
      obtain ⟨k, z, hk, rfl, rfl, hf⟩ := hrel
      have Hf := Lib.hid hf
      clear hf
      by_cases hkl : k < L.length
      · obtain ⟨o, ho⟩ : ∃ o, L[k]? = some o := ⟨L[k], List.getElem?_eq_getElem hkl⟩
        obtain ⟨b, off, rfl, c0, c1, c2, c3, c4, c5⟩ := (H.out.low (Hf.out.low (Nat.le_refl _) (fun _ f => f.elim))).at k o ho
        have hkI : (k : Int) < L.length := by omega
        have hk0 : (0 : Int) ≤ k := by omega
        have Hkl := Lib.hid hkl
        go_upto_region 7 with fail
        go_quiet (fail)
        have hf2 := Hf.out.trans ((Fr.refl _ wr).drewN nq)
        have Hf2 := Lib.hid hf2
        clear c0 c1 c2 c3 c4 c5 hf2
        generalize wr.drewN nq = w2 at Hf2 ⊢
        by_cases hz : (16384 : Int) < wrap64 (wrap64 (z + o.s.size) + o.t.size)
        · go_wp2_with fail
          go_ret
          exact ⟨false, rfl, Hf2.out, fun h => by (cases h)⟩
        · go_wp2_with fail
          go_roundw
          case rel => exact ⟨k + 1, _, Hkl.out, by go_num, rfl, Hf2.out⟩
          case measure => have := Hkl.out; simp [intOf]; omega
      · have hkI : ¬ (k : Int) < L.length := by omega
        go_wp2_with fail
        go_ret
        exact ⟨true, rfl, Hf.out, fun _ => Hl.out⟩
  · have hlI : (16384 : Int) < L.length := by omega
    go_enter Tryz.func36, Tryz.ntmps36
    go_wp2_with fail
    go_ret
    exact ⟨false, rfl, Fr.refl _ _, fun h => by (cases h)⟩
def opCells (L : List OpM) : List Value := L.flatMap fun o => o.cells.toList
theorem opCells_len (L : List OpM) : (opCells L).length = L.length * 6 := by
  induction L with
  | nil => rfl
  | cons a L ih => simp [opCells, OpM.cells] at ih ⊢; omega
theorem opCells_get (L : List OpM) (i : Nat) (o : OpM) (ho : L[i]? = some o) (j : Nat) (u : Value) (hu : o.cells[j]? = some u) : (opCells L)[i * 6 + j]? = some u := by
  have hj : j < 6 := by
    have := (Array.getElem?_eq_some_iff.1 hu).1
    simpa [OpM.cells] using this
  induction L generalizing i with
  | nil => simp at ho
  | cons a L ih =>
    have h6 : (a.cells.toList).length = 6 := rfl
    have hc : opCells (a :: L) = a.cells.toList ++ opCells L := by simp [opCells]
    rw [hc]
    cases i with
    | zero =>
      simp at ho; subst ho
      rw [Nat.zero_mul, Nat.zero_add, List.getElem?_append_left (by omega)]
      simpa using hu
    | succ i =>
      rw [List.getElem?_append_right (by omega), h6, show (i + 1) * 6 + j - 6 = i * 6 + j by omega]
      exact ih i (by simpa using ho)
theorem scr_own {w : World} {B : Nat} {v : Value} {L : List OpM} (h : w.ownsRow B 112 6 v L.length (opCells L)) : ScrIn w v L := by
  rcases h.2 with ⟨rfl, h0⟩ | ⟨g, cap, cur, hv, hg, hh, hn, hq1, hq2, htk⟩
  · exact .inl ⟨List.length_eq_zero_iff.1 h0, none, 0, rfl⟩
  · refine .inr ⟨g, 0, cap, hv, fun i o ho j u hu => ?_⟩
    have hx := opCells_get L i o ho j u hu
    have hlt := (List.getElem?_eq_some_iff.1 hx).1
    rw [opCells_len] at hlt
    rw [cellv, hh, cellOf_cells, Nat.zero_add]
    rw [← htk, List.getElem?_take_of_lt (by omega)] at hx
    simpa using hx
def OpensOp (o : OpM) : Prop := o.ok ∧ (o.k < 7 ∨ o.k = 10 ∨ o.k = 11)
set_option maxRecDepth 100000 in
set_option maxHeartbeats 4000000 in
/-- upTo: nothing parts. -/
theorem upTo_calls {w : World} {v : Value} {L : List OpM} (h : ScrIn w v L) (hL : L.length ≤ 16384) (hop : ∀ o ∈ L, OpensOp o) (hg : Handle w) (h0 : 0 < w.heap.size) :
    Calls Tryz.prog 37 #[v] w fun e w' => e = .returned (.int .i64 (-1)) ∧ Low w.heap.size w w' := by
  obtain ⟨a, c, rfl⟩ := h.shape
  have H := Lib.hid h
  have Hop := Lib.hid hop
  have Hg := Lib.hid hg
  have H0 := Lib.hid h0
  have hN1 : New w (w.alloc (.cells #[.slice none 0 0, .slice none 0 0, .slice none 0 0, .slice none 0 0, .slice none 0 0] 118)) := (Fr.refl _ w).alloc _
  have hO1 : OW (w.alloc (.cells #[.slice none 0 0, .slice none 0 0, .slice none 0 0, .slice none 0 0, .slice none 0 0] 118)) w.heap.size w.heap.size (2 * L.length) [] :=
    ⟨⟨_, _, _, _, _, [], [], [], ⟨heap_alloc_new w _, World.ownsRow_nil _ _ _ _, World.ownsRow_nil _ _ _ _, fun k hk => by (cases hk), World.ownsRow_nil _ _ _ _, World.ownsRow_nil _ _ _ _, World.ownsRow_nil _ _ _ _, rfl, by show 0 + 2 * L.length ≤ 60000; omega, by show 0 + 2 * L.length ≤ 60000; omega, by show 0 + 2 * L.length ≤ 60000; omega⟩⟩, fun o ho => by simp at ho, ⟨List.nodup_nil, List.nodup_nil, List.nodup_nil⟩, ⟨Nat.le_refl _, hN1.size, fun o ho => by simp at ho⟩, by show 0 + 2 * L.length ≤ 60000; omega⟩
  have HO1 := Lib.hid hO1
  have HL1 := Lib.hid (hN1.low (Nat.le_refl _) (fun _ f => f.elim))
  clear h hop hg h0 hN1 hO1
  go_enter Tryz.func37, Tryz.ntmps37
  go_upto_region 2 with fail
  generalize w.alloc (.cells #[.slice none 0 0, .slice none 0 0, .slice none 0 0, .slice none 0 0, .slice none 0 0] 118) = w1 at HO1 HL1 ⊢
  go_wp2_with fail
  go_loopw [4] (fun i wr => ∃ k : Nat, k ≤ L.length ∧ i = .int .i64 k ∧ (∃ l, OW wr w.heap.size w.heap.size (2 * (L.length - k)) l) ∧ Low w.heap.size w wr) (fun i _ => L.length - (intOf i).toNat)
  case atStart => exact ⟨0, Nat.zero_le _, rfl, ⟨[], HO1.out⟩, HL1.out⟩
  case round =>
    obtain ⟨k, hk, rfl, ⟨l, hO⟩, hl⟩ := hrel
    have HO := Lib.hid hO
    have Hl := Lib.hid hl
    clear hO hl
    by_cases hkl : k < L.length
    · obtain ⟨o, ho⟩ : ∃ o, L[k]? = some o := ⟨L[k], List.getElem?_eq_getElem hkl⟩
      obtain ⟨b, off, rfl, c0, c1, c2, c3, c4, c5⟩ := (H.out.low Hl.out).at k o ho
      obtain ⟨hok, hkd⟩ := Hop.out o (List.mem_of_getElem? ho)
      have hO2 : OW wr w.heap.size w.heap.size (2 * (L.length - (k + 1)) + 2) l := HO.out.less (by omega)
      have HS := Lib.hid (step_calls hO2 hok hkd (handle_low Hg.out Hl.out H0.out) H0.out)
      simp only [OpM.cells] at HS
      have hkI : (k : Int) < L.length := by omega
      have hk0 : (0 : Int) ≤ k := by omega
      have Hkl := Lib.hid hkl
      clear hok hkd hO2 ho
      go_wp2_with (first
        | (go_at_call 60; refine Calls.mono HS.out ?_; rintro e w3 ⟨rfl, ⟨l3, hO3⟩, hl3⟩)
        | fail)
      go_roundw
      case rel => exact ⟨k + 1, Hkl.out, by go_num, ⟨l3, hO3⟩, Hl.out.trans hl3⟩
      case measure => have := Hkl.out; simp [intOf]; omega
    · have hkI : ¬ (k : Int) < L.length := by omega
      go_wp2_with fail
      go_ret
      exact ⟨rfl, Hl.out⟩
end Go.Proofs.YtkafmfdipmhleaaGreatDoor
