/-
  What is proved: the script's submitted: what Submit answers is the document's answer. a step on an engine. a disk of a script that runs: opened. a step of a script whose disks run. a script that formats and opens: small, upTo. the contract of Opens: it returns true, and leaves what was there as it was. a script whose disks run: upTo, plays.
-/
import Derived.Test.YtkafmfdipmhleaaGreatDoorRy13

namespace Go.Proofs.YtkafmfdipmhleaaGreatDoor
open Go.RowKit Go.Maps
theorem own_shapeN {w : World} {B e size n : Nat} {v : Value} {xs : List Value} (h : w.ownsRow B e size v n xs) : ∃ a c, v = .slice a n c := by
  rcases h.2 with ⟨h1, h2⟩ | ⟨g, cap, cur, h1, _⟩
  · exact ⟨none, 0, by rw [h1, h2]⟩
  · exact ⟨_, _, h1⟩
/-- How many may be told, and of what. -/
def SubCase (o : RD) (id : Int) (l : List (ByteArray × ByteArray)) (n want : Int) (fresh tk : Bool) : Prop :=
  (want ≠ 0 ∧ n = want ∧ tk = false) ∨ (want = 0 ∧ fresh = false ∧ n = 0 ∧ tk = false) ∨ (want = 0 ∧ fresh = true ∧ n = 3 ∧ tk = false ∧ ¬ 6 + 2 * (l.length : Int) + needM o.R ≤ o.n ∧ l.length ≤ 6) ∨
  (want = 0 ∧ fresh = true ∧ n = 0 ∧ tk = true ∧ wholeB id l = true ∧ thereB (sagasOf o.R) id = false ∧ ((1 + evLen o.evs : Nat) : Int) + (2 + (2 * l.length - 1) + leftSum (sagasOf o.R)) ≤ o.n)
set_option maxRecDepth 100000 in
set_option maxHeartbeats 8000000 in
theorem submitted_gen {w : World} {B m : Nat} {o : RD} {e : EngR} (h : RunAt w B o) (hk : RDok (m + 1) o) (hx : o.x = some e) (id : Int) {sv : Value} {l : List (ByteArray × ByteArray)} (hs : StpR w sv l) (hl : l.length ≤ 100000) (hg : Handle w) (hB : 0 < B) (hBw : B ≤ w.heap.size)
    (n want : Int) (fresh tk : Bool) (hsub : submM (sagasOf o.R) id l = (want, fresh)) (hcase : SubCase o id l n want fresh tk)
    (hC : ∀ w3 gH, New w w3 → StpH w3 gH l → Calls Tryz.prog 18 #[.pointer (some ⟨e.xb, 0, none⟩), .int .i64 id, .slice (some ⟨gH, 0, none⟩) l.length (l.length + 2)] w3 fun ee w' => ∃ ev, ee = .returned ev ∧ SubP w3 o e id l n tk ev w') :
    Calls Tryz.prog 112 #[.pointer (some ⟨o.kb, 0, none⟩), .int .i64 id, sv] w fun e w' => e = .returned (.bool true) ∧ TurnedTo (KeepA o) w B m o w' := by
  obtain ⟨sa, sc, rfl⟩ := hs.shape
  have hst := h.st
  have H := Lib.hid h
  have HK := Lib.hid hk
  have Hx := Lib.hid hx
  have HS := Lib.hid hs
  have Hl := Lib.hid hl
  have Hg := Lib.hid hg
  have HC := Lib.hid hC
  have Hsub := Lib.hid hsub
  have Hcase := Lib.hid hcase
  have HBw := Lib.hid hBw
  have HB := Lib.hid hB
  have Hst := Lib.hid hst
  have hxv : xvOf o = .pointer (some ⟨e.xb, 0, none⟩) := by unfold xvOf; rw [hx]
  have Hxv := Lib.hid hxv
  simp only [rdCells] at hst
  have hdec : decide (o.ep = 0) = false := by simp [hk.epx hx]
  obtain ⟨la, lc, hlv⟩ := h.ref.shape
  obtain ⟨hp1, hp2, hp3⟩ := h.parts
  obtain ⟨pa, pc, hpl⟩ := own_shapeN hp1
  have hps := h.ps
  have HF := Lib.hid (Find_calls h.ref hk.ord hk.lenR o.pz o.ck id)
  unfold engV FindPost at HF
  rw [hxv, hdec, hlv] at hst
  rw [hpl] at hps
  rw [hlv] at HF
  have Hlv := Lib.hid hlv
  have Hdec := Lib.hid hdec
  have Hpl := Lib.hid hpl
  have Hst' := Lib.hid hst
  have Hps := Lib.hid hps
  have HTd := Lib.hid (fun (w' : World) (hf : New w w') => Told_calls (h.dk.new hf))
  have HSt := Lib.hid (fun (w' : World) (hf : New w w') => stepsR_calls (hs.new hf) hl)
  have hne : (((o.p.log.length : Nat) : Int) != ((o.p.log.length : Nat) : Int)) = false := by simp
  have Hne := Lib.hid hne
  generalize hlen : o.p.log.length = plen at *
  clear h hk hx hs hl hg hxv hlv hdec hpl hp1 hp2 hp3 hC hsub hcase hne hB hBw
  have hcv := cellv w
  go_enter Tryz.func112, Tryz.ntmps112
  go_upto_region 3 with (first
    | (go_at_call 135; refine Calls.mono HF.out ?_; rintro e w2 ⟨rfl, hf2⟩)
    | fail)
  have hst2 := hf2.get Hst'.out (fun f => f)
  have hps2 := hf2.get Hps.out (fun f => f)
  have Hf2 := Lib.hid hf2
  clear hst hps hcv hf2
  have hcv := cellv w2
  by_cases ht : thereB (sagasOf o.R) id = true
  · obtain ⟨gs, hgs, hgi⟩ := there_get HK.out.ord ht
    obtain ⟨r, hr, hrg⟩ := ref_get hgs
    rw [ht]
    have hlt := (List.getElem?_eq_some_iff.1 hr).1
    have href2 := H.out.ref.new Hf2.out
    rw [Hlv.out] at href2
    obtain ⟨ga, rfl, c0, c1, c2, c3, c4, c5, c6⟩ := href2.at _ r hr
    have hst0 : (r.1.st == 0) = false := by
      have := HK.out.ok r.1 (List.mem_map.2 ⟨r, List.mem_of_getElem? hr, rfl⟩)
      have h5 := this.2.2.2.2
      simp; omega
    have hkI : ((findI (sagasOf o.R) id : Nat) : Int) < o.R.length := by omega
    have hk0 : (0 : Int) ≤ (findI (sagasOf o.R) id : Nat) := by omega
    rw [hcv] at c2
    clear c0 c1 c3 c4 c5 c6 href2 hlt hr hrg hgs hgi
    go_upto_region 8 with fail
    clear c2 hst0 hkI hk0
    go_upto_region 10 with (first
      | (go_at_call 33; refine Calls.mono (HTd.out _ Hf2.out) ?_; rintro e w2' ⟨rfl, rfl⟩)
      | fail)
    go_upto_region 11 with (first
      | (go_at_call 137; refine Calls.mono (HSt.out _ Hf2.out) ?_; rintro e w3 ⟨rfl, hsh3, hf3⟩)
      | fail)
    have Hf3 := Lib.hid (Hf2.out.trans hf3)
    have Hsh3 := Lib.hid hsh3
    have hgl := lt_of_hp (hsh3.choose_spec.1)
    have Hgl := Lib.hid hgl
    have Hgw : Hid (w.heap.size ≤ w2.heap.size) := Hf2.out.size
    generalize w2.heap.size = gH at Hsh3 Hgl Hgw ⊢
    have hst3 := Hf3.out.get Hst'.out (fun f => f)
    have HCa := Lib.hid (HC.out _ _ Hf3.out Hsh3.out)
    clear hst2 hps2 hcv hsh3 hf3 hgl
    have hcv := cellv w3
    go_upto_region 12 with (first
      | (go_at_call 18; refine Calls.mono HCa.out ?_; rintro ee w4 ⟨ev, rfl, hS4⟩)
      | fail)
    have h3 := H.out.new HK.out.pend Hf3.out
    have hEB : ∀ k, EngB (o.pl_ e) k → o.own k ∧ ∃ ob, w3.heap[k]? = some ob ∧ kindOf ob ∈ [80, 133, 0, 103, 104] := fun k hk => engB_kind h3 Hx.out hk
    have hnk : ∀ {k : Nat} {ob : Obj}, w3.heap[k]? = some ob → kindOf ob ∉ [80, 133, 0, 103, 104] → ¬ EngB (o.pl_ e) k := by
      intro k ob h1 h2 h3
      obtain ⟨_, ob', h4, h5⟩ := hEB k h3
      rw [h1] at h4; cases h4
      exact h2 h5
    have hst4 := hS4.fr.get hst3 (hnk hst3 (by simp [kindOf]))
    have hps3 := Hf3.out.get Hps.out (fun f => f)
    have hps4 := hS4.fr.get hps3 (hnk hps3 (by simp [kindOf]))
    have href4 : RefAt w4 B o.lv o.R := h3.ref.fr hS4.fr (fun k hk => by
      obtain ⟨_, ob, h4, h5⟩ := hEB k hk
      exact ⟨ob, h4, fun h => by simp at h5 h; omega⟩) (fun k hk he => by
      obtain ⟨c, hc⟩ := own_cells h3.ref.own hk
      exact hnk hc (by simp [kindOf]) he)
    have hstp4 : StpR w4 (.slice sa l.length sc) l := (HS.out.new Hf3.out).fr hS4.fr (fun k hk => by
      obtain ⟨_, ob, h4, h5⟩ := hEB k hk
      exact ⟨ob, h4, fun h => by simp at h5; omega⟩)
    have hsh4 : StpH w4 gH l := by
      obtain ⟨c, h1, _⟩ := Hsh3.out
      exact Hsh3.out.fr hS4.fr (hnk h1 (by simp [kindOf]))
    have hh4 : Handle w4 := (Hg.out.new Hf3.out).fr hS4.fr (fun he => by
      have := h3.lo 0 (hEB 0 he).1
      have := HB.out; omega)
    have HSti := Lib.hid (still_calls hsh4 hstp4 Hl.out)
    have H4s := Lib.hid hS4
    have Href4 := Lib.hid href4
    have Hstp4 := Lib.hid hstp4
    have Hsh4 := Lib.hid hsh4
    have Hh4 := Lib.hid hh4
    have Hst4 := Lib.hid hst4
    have Hps4 := Lib.hid hps4
    have Hnk := Lib.hid (fun (k : Nat) (ob : Obj) h1 h2 => @hnk k ob h1 h2)
    have HEB := Lib.hid hEB
    clear h3 hEB hnk hst4 hps3 hps4 href4 hstp4 hsh4 hh4 hS4 hst3 hcv
    go_upto_region 13 with (first
      | (go_at_call 138; refine Calls.mono HSti.out ?_; rintro e5 w5 ⟨rfl, hf5⟩)
      | fail)
    have hst5 := hf5.get Hst4.out (Hsh4.out.kind Hst4.out (by simp [kindOf]))
    have hps5 := hf5.get Hps4.out (Hsh4.out.kind Hps4.out (by simp [kindOf]))
    have hgS : ∀ k, k = gH → ∃ ob, w4.heap[k]? = some ob ∧ kindOf ob = 55 := by
      rintro k rfl
      obtain ⟨c, h1, _⟩ := Hsh4.out
      exact ⟨_, h1, by simp [kindOf]⟩
    have href5 : RefAt w5 B o.lv o.R := Href4.out.fr hf5 (fun k hk => by
      obtain ⟨ob, h4, h5⟩ := hgS k hk
      exact ⟨ob, h4, fun h => by simp at h; omega⟩) (fun k hk => by
      obtain ⟨c, hc⟩ := own_cells Href4.out.own hk
      exact Hsh4.out.kind hc (by simp [kindOf]))
    have hstp5 : StpR w5 (.slice sa l.length sc) l := Hstp4.out.fr hf5 (fun k hk => by
      obtain ⟨ob, h4, h5⟩ := hgS k hk
      exact ⟨ob, h4, fun h => by omega⟩)
    have hh5 : Handle w5 := Hh4.out.fr hf5 (by have := HB.out; have := HBw.out; have := Hgw.out; have := Hf2.out.size; omega)
    have HTo := Lib.hid (H4s.out.told gH w5 Hgl.out hf5 hh5)
    have HNm := Lib.hid (fun (x : Int) (w' : World) => num_calls w' x)
    have HSb := Lib.hid (fun (w' : World) (hf : New w5 w') => SubmitsR_calls (href5.new hf) HK.out.ord HK.out.lenR HK.out.steps6 o.pz o.ck id (hstp5.new hf) Hl.out)
    unfold engV at HSb
    rw [Hsub.out, Hlv.out] at HSb
    have Hf5 := Lib.hid hf5
    have Hst5 := Lib.hid hst5
    have Hps5 := Lib.hid hps5
    have Href5 := Lib.hid href5
    have Hstp5 := Lib.hid hstp5
    clear hf5 hst5 hps5 hgS href5 hstp5 hh5
    go_upto_region 15 with (first
      | (go_at_call 26; refine Calls.mono HTo.out ?_; rintro e6 w6 ⟨rfl, hf6⟩)
      | (go_at_call 108; refine Calls.mono (HNm.out _ _) ?_; rintro e7 w7 ⟨rfl, rfl⟩)
      | fail)
    have hst6 := hf6.get Hst5.out (fun f => f)
    have Hf6 := Lib.hid hf6
    have HSb6 := Lib.hid (HSb.out _ hf6)
    clear hf6
    have hcv := cellv w6
    go_upto_region 16 with (first
      | (go_at_call 139; refine Calls.mono HSb6.out ?_; rintro e8 w8 ⟨rfl, hf8⟩)
      | fail)
    have Hf8 := Lib.hid (Hf6.out.trans hf8)
    have hst8 := Hf8.out.get Hst5.out (fun f => f)
    have hps8 := Hf8.out.get Hps5.out (fun f => f)
    clear hst6 hcv hf8
    have hcv := cellv w8
    have hne := Hne.out
    go_upto_region 20 with fail
    clear hne hps8
    have hnew : tk = false → New w w8 := fun h => ((Hf3.out.trans (H4s.out.no h)).trans' Hf5.out (fun i hi e => by have := Hgw.out; omega)).trans Hf8.out
    have Hnew := Lib.hid hnew
    clear hnew
    rcases Hcase.out with ⟨hw0, rfl, rfl⟩ | ⟨rfl, rfl, rfl, rfl⟩ | ⟨rfl, rfl, rfl, rfl, hroom, hl6⟩ | ⟨rfl, rfl, rfl, rfl, hw, hnt, hroom⟩
    · have hw1 : (n != 0) = true := by simpa using hw0
      clear hw0
      go_wp2_with fail
      go_ret
      exact ⟨rfl, TurnedTo.same H.out HK.out (by omega) (Hnew.out (by trivial))⟩
    · go_wp2_with fail
      go_ret
      exact ⟨rfl, TurnedTo.same H.out HK.out (by omega) (Hnew.out (by trivial))⟩
    · have hrd : decide (6 + 2 * (l.length : Int) + needM o.R ≤ o.n) = false := decide_eq_false hroom
      have Hrd := Lib.hid hrd
      have Hl6 := Lib.hid hl6
      clear hroom hrd hl6
      go_upto_region 33 with fail
      refine sub_r33 o.kb B o.pz o.ck o.n l.length sc sa _ _ _ _ _ (.slice (some ⟨ga, 0, none⟩) o.R.length lc) _ o.R w8 hst8 (by rw [← Hlv.out]; exact Href5.out.new Hf8.out) HK.out.lenR HK.out.steps6 (by have := Hl6.out; omega) ?_
      intros
      rename_i w9 hf9
      rw [Hrd.out]
      have Hf9 := Lib.hid hf9
      clear hf9 hst8 hcv
      go_wp2_with fail
      go_ret
      exact ⟨rfl, TurnedTo.same H.out HK.out (by omega) ((Hnew.out (by trivial)).trans Hf9.out)⟩
    · have Hw := Lib.hid hw
      have Hnt := Lib.hid (not_there hnt)
      have Hroom := Lib.hid hroom
      clear hw hnt hroom
      go_upto_region 38 with fail
      have hN38 : New w8 (w8.alloc (.cells #[.int .i64 1, .int .i64 1] 220)) := (Fr.refl _ w8).alloc _
      have hst38 := hN38.get hst8 (fun f => f)
      have ht38 := heap_alloc_new w8 (.cells #[.int .i64 1, .int .i64 1] 220)
      have href38 : RefAt (w8.alloc (.cells #[.int .i64 1, .int .i64 1] 220)) B (.slice (some ⟨ga, 0, none⟩) o.R.length lc) o.R := by rw [← Hlv.out]; exact (Href5.out.new Hf8.out).new hN38
      refine sub_r38 o.kb w8.heap.size B o.pz o.ck id _ _ _ _ _ _ (.slice (some ⟨ga, 0, none⟩) o.R.length lc) (.slice sa l.length sc) o.R l _ hst38 ht38 href38 HK.out.ord HK.out.lenR ((Hstp5.out.new Hf8.out).new hN38) ?_
      intros
      rename_i lv2 mb w9 hf9 hmb hmc hown9
      have Hf9 := Lib.hid (hN38.trans hf9)
      have Hst9 := Lib.hid (hf9.get hst38 (fun f => f))
      have Hmc := Lib.hid hmc
      have Hown9 := Lib.hid hown9
      have Hmb : Hid (w8.heap.size ≤ mb) := Nat.le_trans hN38.size hmb
      clear hN38 hst38 ht38 href38 hf9 hmb hmc hown9 hst8 hcv
      go_wp2_with fail
      go_ret
      refine ⟨rfl, ?_⟩
      show TurnedTo (KeepA o) w B m o (setR w9 o.kb o.pz o.ck lv2)
      exact TurnedTo.submit H.out HK.out Hx.out HBw.out Hf3.out H4s.out Hgw.out Hgl.out Hsh4.out Hf5.out Hf8.out Hf9.out Hmc.out Hown9.out (by simp) Hstp5.out Href5.out Hw.out Hnt.out Hroom.out
  · have ht : thereB (sagasOf o.R) id = false := by simpa using ht
    rw [ht]
    go_upto_region 10 with (first
      | (go_at_call 33; refine Calls.mono (HTd.out _ Hf2.out) ?_; rintro e w2' ⟨rfl, rfl⟩)
      | fail)
    go_upto_region 11 with (first
      | (go_at_call 137; refine Calls.mono (HSt.out _ Hf2.out) ?_; rintro e w3 ⟨rfl, hsh3, hf3⟩)
      | fail)
    have Hf3 := Lib.hid (Hf2.out.trans hf3)
    have Hsh3 := Lib.hid hsh3
    have hgl := lt_of_hp (hsh3.choose_spec.1)
    have Hgl := Lib.hid hgl
    have Hgw : Hid (w.heap.size ≤ w2.heap.size) := Hf2.out.size
    generalize w2.heap.size = gH at Hsh3 Hgl Hgw ⊢
    have hst3 := Hf3.out.get Hst'.out (fun f => f)
    have HCa := Lib.hid (HC.out _ _ Hf3.out Hsh3.out)
    clear hst2 hps2 hcv hsh3 hf3 hgl
    have hcv := cellv w3
    go_upto_region 12 with (first
      | (go_at_call 18; refine Calls.mono HCa.out ?_; rintro ee w4 ⟨ev, rfl, hS4⟩)
      | fail)
    have h3 := H.out.new HK.out.pend Hf3.out
    have hEB : ∀ k, EngB (o.pl_ e) k → o.own k ∧ ∃ ob, w3.heap[k]? = some ob ∧ kindOf ob ∈ [80, 133, 0, 103, 104] := fun k hk => engB_kind h3 Hx.out hk
    have hnk : ∀ {k : Nat} {ob : Obj}, w3.heap[k]? = some ob → kindOf ob ∉ [80, 133, 0, 103, 104] → ¬ EngB (o.pl_ e) k := by
      intro k ob h1 h2 h3
      obtain ⟨_, ob', h4, h5⟩ := hEB k h3
      rw [h1] at h4; cases h4
      exact h2 h5
    have hst4 := hS4.fr.get hst3 (hnk hst3 (by simp [kindOf]))
    have hps3 := Hf3.out.get Hps.out (fun f => f)
    have hps4 := hS4.fr.get hps3 (hnk hps3 (by simp [kindOf]))
    have href4 : RefAt w4 B o.lv o.R := h3.ref.fr hS4.fr (fun k hk => by
      obtain ⟨_, ob, h4, h5⟩ := hEB k hk
      exact ⟨ob, h4, fun h => by simp at h5 h; omega⟩) (fun k hk he => by
      obtain ⟨c, hc⟩ := own_cells h3.ref.own hk
      exact hnk hc (by simp [kindOf]) he)
    have hstp4 : StpR w4 (.slice sa l.length sc) l := (HS.out.new Hf3.out).fr hS4.fr (fun k hk => by
      obtain ⟨_, ob, h4, h5⟩ := hEB k hk
      exact ⟨ob, h4, fun h => by simp at h5; omega⟩)
    have hsh4 : StpH w4 gH l := by
      obtain ⟨c, h1, _⟩ := Hsh3.out
      exact Hsh3.out.fr hS4.fr (hnk h1 (by simp [kindOf]))
    have hh4 : Handle w4 := (Hg.out.new Hf3.out).fr hS4.fr (fun he => by
      have := h3.lo 0 (hEB 0 he).1
      have := HB.out; omega)
    have HSti := Lib.hid (still_calls hsh4 hstp4 Hl.out)
    have H4s := Lib.hid hS4
    have Href4 := Lib.hid href4
    have Hstp4 := Lib.hid hstp4
    have Hsh4 := Lib.hid hsh4
    have Hh4 := Lib.hid hh4
    have Hst4 := Lib.hid hst4
    have Hps4 := Lib.hid hps4
    have Hnk := Lib.hid (fun (k : Nat) (ob : Obj) h1 h2 => @hnk k ob h1 h2)
    have HEB := Lib.hid hEB
    clear h3 hEB hnk hst4 hps3 hps4 href4 hstp4 hsh4 hh4 hS4 hst3 hcv
    go_upto_region 13 with (first
      | (go_at_call 138; refine Calls.mono HSti.out ?_; rintro e5 w5 ⟨rfl, hf5⟩)
      | fail)
    have hst5 := hf5.get Hst4.out (Hsh4.out.kind Hst4.out (by simp [kindOf]))
    have hps5 := hf5.get Hps4.out (Hsh4.out.kind Hps4.out (by simp [kindOf]))
    have hgS : ∀ k, k = gH → ∃ ob, w4.heap[k]? = some ob ∧ kindOf ob = 55 := by
      rintro k rfl
      obtain ⟨c, h1, _⟩ := Hsh4.out
      exact ⟨_, h1, by simp [kindOf]⟩
    have href5 : RefAt w5 B o.lv o.R := Href4.out.fr hf5 (fun k hk => by
      obtain ⟨ob, h4, h5⟩ := hgS k hk
      exact ⟨ob, h4, fun h => by simp at h; omega⟩) (fun k hk => by
      obtain ⟨c, hc⟩ := own_cells Href4.out.own hk
      exact Hsh4.out.kind hc (by simp [kindOf]))
    have hstp5 : StpR w5 (.slice sa l.length sc) l := Hstp4.out.fr hf5 (fun k hk => by
      obtain ⟨ob, h4, h5⟩ := hgS k hk
      exact ⟨ob, h4, fun h => by omega⟩)
    have hh5 : Handle w5 := Hh4.out.fr hf5 (by have := HB.out; have := HBw.out; have := Hgw.out; have := Hf2.out.size; omega)
    have HTo := Lib.hid (H4s.out.told gH w5 Hgl.out hf5 hh5)
    have HNm := Lib.hid (fun (x : Int) (w' : World) => num_calls w' x)
    have HSb := Lib.hid (fun (w' : World) (hf : New w5 w') => SubmitsR_calls (href5.new hf) HK.out.ord HK.out.lenR HK.out.steps6 o.pz o.ck id (hstp5.new hf) Hl.out)
    unfold engV at HSb
    rw [Hsub.out, Hlv.out] at HSb
    have Hf5 := Lib.hid hf5
    have Hst5 := Lib.hid hst5
    have Hps5 := Lib.hid hps5
    have Href5 := Lib.hid href5
    have Hstp5 := Lib.hid hstp5
    clear hf5 hst5 hps5 hgS href5 hstp5 hh5
    go_upto_region 15 with (first
      | (go_at_call 26; refine Calls.mono HTo.out ?_; rintro e6 w6 ⟨rfl, hf6⟩)
      | (go_at_call 108; refine Calls.mono (HNm.out _ _) ?_; rintro e7 w7 ⟨rfl, rfl⟩)
      | fail)
    have hst6 := hf6.get Hst5.out (fun f => f)
    have Hf6 := Lib.hid hf6
    have HSb6 := Lib.hid (HSb.out _ hf6)
    clear hf6
    have hcv := cellv w6
    go_upto_region 16 with (first
      | (go_at_call 139; refine Calls.mono HSb6.out ?_; rintro e8 w8 ⟨rfl, hf8⟩)
      | fail)
    have Hf8 := Lib.hid (Hf6.out.trans hf8)
    have hst8 := Hf8.out.get Hst5.out (fun f => f)
    have hps8 := Hf8.out.get Hps5.out (fun f => f)
    clear hst6 hcv hf8
    have hcv := cellv w8
    have hne := Hne.out
    go_upto_region 20 with fail
    clear hne hps8
    have hnew : tk = false → New w w8 := fun h => ((Hf3.out.trans (H4s.out.no h)).trans' Hf5.out (fun i hi e => by have := Hgw.out; omega)).trans Hf8.out
    have Hnew := Lib.hid hnew
    clear hnew
    rcases Hcase.out with ⟨hw0, rfl, rfl⟩ | ⟨rfl, rfl, rfl, rfl⟩ | ⟨rfl, rfl, rfl, rfl, hroom, hl6⟩ | ⟨rfl, rfl, rfl, rfl, hw, hnt, hroom⟩
    · have hw1 : (n != 0) = true := by simpa using hw0
      clear hw0
      go_wp2_with fail
      go_ret
      exact ⟨rfl, TurnedTo.same H.out HK.out (by omega) (Hnew.out (by trivial))⟩
    · go_wp2_with fail
      go_ret
      exact ⟨rfl, TurnedTo.same H.out HK.out (by omega) (Hnew.out (by trivial))⟩
    · have hrd : decide (6 + 2 * (l.length : Int) + needM o.R ≤ o.n) = false := decide_eq_false hroom
      have Hrd := Lib.hid hrd
      have Hl6 := Lib.hid hl6
      clear hroom hrd hl6
      go_upto_region 33 with fail
      refine sub_r33 o.kb B o.pz o.ck o.n l.length sc sa _ _ _ _ _ (.slice la o.R.length lc) _ o.R w8 hst8 (by rw [← Hlv.out]; exact Href5.out.new Hf8.out) HK.out.lenR HK.out.steps6 (by have := Hl6.out; omega) ?_
      intros
      rename_i w9 hf9
      rw [Hrd.out]
      have Hf9 := Lib.hid hf9
      clear hf9 hst8 hcv
      go_wp2_with fail
      go_ret
      exact ⟨rfl, TurnedTo.same H.out HK.out (by omega) ((Hnew.out (by trivial)).trans Hf9.out)⟩
    · have Hw := Lib.hid hw
      have Hnt := Lib.hid (not_there hnt)
      have Hroom := Lib.hid hroom
      clear hw hnt hroom
      go_upto_region 38 with fail
      have hN38 : New w8 (w8.alloc (.cells #[.int .i64 1, .int .i64 1] 220)) := (Fr.refl _ w8).alloc _
      have hst38 := hN38.get hst8 (fun f => f)
      have ht38 := heap_alloc_new w8 (.cells #[.int .i64 1, .int .i64 1] 220)
      have href38 : RefAt (w8.alloc (.cells #[.int .i64 1, .int .i64 1] 220)) B (.slice la o.R.length lc) o.R := by rw [← Hlv.out]; exact (Href5.out.new Hf8.out).new hN38
      refine sub_r38 o.kb w8.heap.size B o.pz o.ck id _ _ _ _ _ _ (.slice la o.R.length lc) (.slice sa l.length sc) o.R l _ hst38 ht38 href38 HK.out.ord HK.out.lenR ((Hstp5.out.new Hf8.out).new hN38) ?_
      intros
      rename_i lv2 mb w9 hf9 hmb hmc hown9
      have Hf9 := Lib.hid (hN38.trans hf9)
      have Hst9 := Lib.hid (hf9.get hst38 (fun f => f))
      have Hmc := Lib.hid hmc
      have Hown9 := Lib.hid hown9
      have Hmb : Hid (w8.heap.size ≤ mb) := Nat.le_trans hN38.size hmb
      clear hN38 hst38 ht38 href38 hf9 hmb hmc hown9 hst8 hcv
      go_wp2_with fail
      go_ret
      refine ⟨rfl, ?_⟩
      show TurnedTo (KeepA o) w B m o (setR w9 o.kb o.pz o.ck lv2)
      exact TurnedTo.submit H.out HK.out Hx.out HBw.out Hf3.out H4s.out Hgw.out Hgl.out Hsh4.out Hf5.out Hf8.out Hf9.out Hmc.out Hown9.out (by simp) Hstp5.out Href5.out Hw.out Hnt.out Hroom.out
set_option maxRecDepth 100000 in
theorem submitted_calls {w : World} {B m : Nat} {o : RD} {e : EngR} (h : RunAt w B o) (hk : RDok (m + 1) o) (hx : o.x = some e) (id : Int) {sv : Value} {l : List (ByteArray × ByteArray)} (hs : StpR w sv l) (hl : l.length ≤ 100000) (hg : Handle w) (hB : 0 < B) (hBw : B ≤ w.heap.size) :
    Calls Tryz.prog 112 #[.pointer (some ⟨o.kb, 0, none⟩), .int .i64 id, sv] w fun e w' => e = .returned (.bool true) ∧ TurnedTo (KeepA o) w B m o w' := by
  have h3 : ∀ w3, New w w3 → RunAt w3 B o := fun w3 hf => h.new hk.pend hf
  by_cases hw : wholeB id l = false
  · exact submitted_gen h hk hx id hs hl hg hB hBw 1 1 false false (by simp [submM, hw]) (.inl ⟨by decide, rfl, rfl⟩) (fun w3 gH hf hsh => sub_bad (h3 w3 hf) hk hx hsh hl hw)
  have hw : wholeB id l = true := by simpa using hw
  cases ht : thereB (sagasOf o.R) id
  · have hn := not_there ht
    have hsub : submM (sagasOf o.R) id l = (0, true) := by simp [submM, hw, ht]
    by_cases hr : ((1 + evLen o.evs : Nat) : Int) + (2 + (2 * l.length - 1) + leftSum (sagasOf o.R)) ≤ o.n
    · exact submitted_gen h hk hx id hs hl hg hB hBw 0 0 true true hsub (.inr (.inr (.inr ⟨rfl, rfl, rfl, rfl, hw, ht, hr⟩))) (fun w3 gH hf hsh => sub_taken (h3 w3 hf) hk hx hsh hw hn hr)
    · refine submitted_gen h hk hx id hs hl hg hB hBw 3 0 true false hsub (.inr (.inr (.inl ⟨rfl, rfl, rfl, rfl, fun h6 => hr (hk.room' h6), ?_⟩))) (fun w3 gH hf hsh => sub_full (h3 w3 hf) hk hx hsh hw hn (by omega))
      have := (whole_small hw).2.2.2.1
      exact this
  · obtain ⟨g, hg', hgi⟩ := there_get hk.ord ht
    subst hgi
    have hsub : submM (sagasOf o.R) g.id l = if g.steps = l then (0, false) else (2, false) := by
      simp only [submM, hw, ht, hg']
      simp
    by_cases he : l = g.steps
    · rw [if_pos he.symm] at hsub
      refine submitted_gen h hk hx g.id hs hl hg hB hBw 0 0 false false hsub (.inr (.inl ⟨rfl, rfl, rfl, rfl⟩)) (fun w3 gH hf hsh => ?_)
      have := sub_there (h3 w3 hf) hk hx hg' hsh hw
      rw [if_pos he] at this
      exact this
    · rw [if_neg (fun h => he h.symm)] at hsub
      refine submitted_gen h hk hx g.id hs hl hg hB hBw 2 2 false false hsub (.inl ⟨by decide, rfl, rfl⟩) (fun w3 gH hf hsh => ?_)
      have := sub_there (h3 w3 hf) hk hx hg' hsh hw
      rw [if_neg he] at this
      exact this
end Go.Proofs.YtkafmfdipmhleaaGreatDoor

namespace Go.Proofs.YtkafmfdipmhleaaGreatDoor
open Go.RowKit Go.Maps
theorem stpR_own {w : World} {B : Nat} {v : Value} {l : List (ByteArray × ByteArray)} (h : w.ownsRow B 192 2 v l.length (stepCells l)) : StpR w v l := by
  rcases h.2 with ⟨rfl, h0⟩ | ⟨g, cap, cur, rfl, hg, hh, hn, hq1, hq2, htk⟩
  · exact .inl ⟨List.length_eq_zero_iff.1 h0, none, 0, rfl⟩
  · refine .inr ⟨g, cap, cur, rfl, hh, fun j hj => ?_⟩
    rw [← htk, List.getElem?_take_of_lt (by omega)]
    simp
theorem TurnedTo.pre {Q : RD → Prop} {w w1 w' : World} {B m : Nat} {o : RD} (hf : New w w1) (h : TurnedTo Q w1 B m o w') : TurnedTo Q w B m o w' := by
  obtain ⟨o', h1, h2, h3, h4, h5, h6⟩ := h
  exact ⟨o', h1, h2, h3, fun k hk => (h4 k hk).imp id (fun e => Nat.le_trans hf.size e), (hf.mono (fun _ _ f => f.elim)).trans h5, h6⟩
noncomputable def onR3 : Code := ((Tryz.f91.body).bind (regionAt 3)).getD .skip
set_option maxRecDepth 100000 in
set_option maxHeartbeats 8000000 in
/-- return d.submitted(o.A, w.steps) -/
theorem on_r3 (wb ob : Nat) (od : RD) (a : Int) (B m : Nat) (c0 c1 c3 c4 c5 kv rv sv dv fv : Value) (W : World)
    (hp : W.heap[wb]? = some (.cells #[kv, rv, sv, dv, fv] 118 (0, 0))) (hc : W.heap[ob]? = some (.cells #[c0, c1, .int .i64 a, c3, c4, c5] 112 (0, 0))) (hn1 : ¬ od.own wb) (hn2 : ¬ od.own ob)
    (hC : Calls Tryz.prog 112 #[.pointer (some ⟨od.kb, 0, none⟩), .int .i64 a, sv] W.drew fun e w' => e = .returned (.bool true) ∧ TurnedTo (KeepA od) W.drew B m od w')
    {ds : List Deferred} {x2 x3 x4 x5 x6 x8 x9 x10 x11 x12 x13 x14 x15 x16 x17 x18 x19 x20 x21 x22 x23 x24 x25 x26 x27 x28 x29 x30 x31 x32 x33 x34 x35 : Value} {Q : Exit → Act → World → Prop}
    (hQ : ∀ (y13 y14 y15 y16 y17 y18 y19 y20 : Value) (w3 : World), TurnedTo (KeepA od) W B m od w3 → Q .normal ⟨#[.pointer (some ⟨wb, 0, none⟩), .pointer (some ⟨od.kb, 0, none⟩), x2,x3,x4,x5,x6, .pointer (some ⟨ob, 0, none⟩), .bool true, x9,x10,x11,x12,y13,y14,y15,y16,y17,y18,y19,y20,x21,x22,x23,x24,x25,x26,x27,x28,x29,x30,x31,x32,x33,x34,x35], ds⟩ w3) :
    Code.wp Tryz.prog onR3 Q ⟨#[.pointer (some ⟨wb, 0, none⟩), .pointer (some ⟨od.kb, 0, none⟩), x2,x3,x4,x5,x6, .pointer (some ⟨ob, 0, none⟩), x8,x9,x10,x11,x12,x13,x14,x15,x16,x17,x18,x19,x20,x21,x22,x23,x24,x25,x26,x27,x28,x29,x30,x31,x32,x33,x34,x35], ds⟩ W := by
  have HS : Hid (∀ w', Fr od.own W w' → w'.cell? ⟨wb, 2, none⟩ = some sv ∧ w'.cell? ⟨ob, 2, none⟩ = some (.int .i64 a)) := by
    intro w' hf
    rw [cellv, cellv, hf.get hp hn1, hf.get hc hn2]
    exact ⟨rfl, rfl⟩
  have HC := Lib.hid hC
  have HQ := Lib.hid hQ
  obtain ⟨s0, s1⟩ := HS.out W (Fr.refl _ _)
  clear hp hc hn1 hn2 hC hQ
  conv => arg 2; whnf
  go_region_held3 (fun w' => w'.cell? ⟨wb, 2, none⟩ = some sv ∧ w'.cell? ⟨ob, 2, none⟩ = some (.int .i64 a))
    (first | exact HS.out _ ((Fr.refl _ _).drew) | (obtain ⟨_, _, _, _, _, hFx, _⟩ := hT2; exact HS.out _ ((Fr.refl _ _).drew.trans hFx)))
    ((first
      | (go_at_call 112; refine Calls.mono HC.out ?_; rintro e w2 ⟨rfl, hT2⟩)
      | fail))
  exact HQ.out _ _ _ _ _ _ _ _ _ (TurnedTo.pre ((Fr.refl _ W).drew) hT2)
set_option maxRecDepth 100000 in
set_option maxHeartbeats 8000000 in
/-- A step on an engine. -/
theorem onEngine_calls {w : World} {B wb m i : Nat} {l : List RD} {fs : List Bool} {od : RD} {e : EngR} {o : OpM} {f : Bool} (h : RW w B wb (m + 1) l fs) (hod : l[i]? = some od) (hx : od.x = some e) (hg : Handle w) (hB : 0 < B) (hok : o.ok) (hk : o.k = 13 ∨ o.k = 14 ∨ o.k = 15 ∨ o.k = 16)
    (hT : o.k = 14 → ∀ w', New w w' → Calls Tryz.prog 113 #[.pointer (some ⟨od.kb, 0, none⟩), .bool f] w' fun e w'' => e = .returned (.bool true) ∧ TurnedTo (KeepA od) w' B m od w'') :
    Calls Tryz.prog 91 #[.pointer (some ⟨wb, 0, none⟩), .pointer (some ⟨od.kb, 0, none⟩), .bool f, .agg o.cells] w fun e w' => e = .returned (.bool true) ∧ TurnedTo (KeepA od) w B m od w' := by
  obtain ⟨k, x, a, b, s, t⟩ := o
  have hN1 : New w (w.alloc (.cells #[.int .i64 k, .int .i64 x, .int .i64 a, .int .i64 b, .string s, .string t] 112)) := (Fr.refl _ w).alloc _
  have hob := heap_alloc_new w (.cells #[.int .i64 k, .int .i64 x, .int .i64 a, .int .i64 b, .string s, .string t] 112)
  have hmem := List.mem_of_getElem? hod
  have h1 := h.new hN1
  have hg1 := hg.new hN1
  have hT1 := fun (h14 : k = 14) => hT h14 _ hN1
  have HT1 := Lib.hid hT1
  have H1 := Lib.hid h1
  have HN1 := Lib.hid hN1
  have Hob := Lib.hid hob
  have Hok := Lib.hid hok
  have Hg1 := Lib.hid hg1
  have Hx := Lib.hid hx
  have Hmem := Lib.hid hmem
  have hk : k = 13 ∨ k = 14 ∨ k = 15 ∨ k = 16 := hk
  have Hsz : Hid (w.heap.size < (w.alloc (.cells #[.int .i64 k, .int .i64 x, .int .i64 a, .int .i64 b, .string s, .string t] 112)).heap.size) := by show _ < _; rw [sz_alloc]; omega
  have Hobn : Hid (¬ od.own w.heap.size) := fun h2 => by have := (h.ds od hmem).lt h2; omega
  simp only [OpM.cells]
  clear h hod hx hg hok hT hT1 hN1 h1 hg1 hmem hob
  go_enter Tryz.func91, Tryz.ntmps91
  go_upto_region 1 with fail
  generalize w.alloc (.cells #[.int .i64 k, .int .i64 x, .int .i64 a, .int .i64 b, .string s, .string t] 112) = w1 at *
  generalize w.heap.size = ob at *
  have hob := Hob.out
  have hcv := cellv w1
  have hRA := H1.out.ds od Hmem.out
  have hRK := H1.out.ok od Hmem.out
  by_cases k13 : k = 13
  · subst k13
    obtain ⟨kv, rv, sv, dv, fv, ks, rs, ss, hw⟩ := H1.out.wd
    have HC := Lib.hid (submitted_calls (hRA.new hRK.pend ((Fr.refl _ w1).drew)) hRK Hx.out a (stpR_own (ownsRow_drew hw.stps)) (by have := hw.ls; omega) (Hg1.out.new ((Fr.refl _ w1).drew)) hB (by have := H1.out.lo.2; exact this))
    have Hw := Lib.hid hw
    have hnw : ¬ od.own wb := hRA.notK hw.cells (by simp [kindOf])
    have Hnw := Lib.hid hnw
    clear hw hRA hRK hnw
    go_upto_region 3 with fail
    refine on_r3 wb ob od a B m _ _ _ _ _ kv rv sv dv fv w1 Hw.out.cells Hob.out Hnw.out Hobn.out HC.out ?_
    intros
    rename_i w3 hT3
    have HT3 := Lib.hid hT3
    clear hT3 hcv
    go_wp2_with fail
    go_ret
    exact ⟨rfl, TurnedTo.pre HN1.out HT3.out⟩
  by_cases k14 : k = 14
  · subst k14
    have HC := Lib.hid (HT1.out rfl)
    clear hRA hRK
    go_wp2_with (first
      | (go_at_call 113; refine Calls.mono HC.out ?_; rintro e3 w3 ⟨rfl, hT3⟩)
      | fail)
    go_ret
    exact ⟨rfl, TurnedTo.pre HN1.out hT3⟩
  by_cases k15 : k = 15
  · subst k15
    have HC := Lib.hid (told_calls hRA hRK Hx.out a Hok.out.2.2.1 Hg1.out)
    have HSm := Lib.hid (fun (w3 : World) (hf : New w1 w3) => TurnedTo.same hRA hRK (show m ≤ m + 1 by omega) hf)
    clear hRA hRK
    go_wp2_with (first
      | (go_at_call 114; refine Calls.mono HC.out ?_; rintro e3 w3 ⟨rfl, hf3⟩)
      | fail)
    go_ret
    exact ⟨rfl, TurnedTo.pre HN1.out (HSm.out _ hf3)⟩
  · have k16 : k = 16 := by omega
    subst k16
    have HC := Lib.hid (listed_calls hRA hRK Hx.out a)
    have HSm := Lib.hid (fun (w3 : World) (hf : New w1 w3) => TurnedTo.same hRA hRK (show m ≤ m + 1 by omega) hf)
    clear hRA hRK
    go_wp2_with (first
      | (go_at_call 115; refine Calls.mono HC.out ?_; rintro e3 w3 ⟨rfl, hf3⟩)
      | fail)
    go_ret
    exact ⟨rfl, TurnedTo.pre HN1.out (HSm.out _ hf3)⟩
end Go.Proofs.YtkafmfdipmhleaaGreatDoor

namespace Go.Proofs.YtkafmfdipmhleaaGreatDoor
open Go.RowKit Go.Maps
set_option maxRecDepth 100000 in
set_option maxHeartbeats 8000000 in
/-- Open. -/
theorem openedR_calls {w : World} {B m : Nat} {o : RD} {pause : Int} (h : RunAt w B o) (hk : RDok (m + 1) o) (hO : o.ep ≠ 0 → OpnHyp o) (hg : Handle w) (h0 : 0 < o.kb ∧ 0 < o.db) :
    Calls Tryz.prog 89 #[.pointer (some ⟨o.kb, 0, none⟩), .int .i64 pause] w fun e w' => e = .returned (.bool true) ∧ TurnedTo (JustO pause) w B m o w' := by
  obtain ⟨_, _, _, _, hdk1, hdk2, _⟩ := h.dk
  have hn1 : o.kb ≠ o.db := ne_of_kind h.st hdk1 (by simp [kindOf])
  have hn4 : o.pb ≠ o.db := ne_of_kind h.ps hdk1 (by simp [kindOf])
  have hnp : o.pb ≠ o.kb := ne_of_kind h.ps h.st (by simp [kindOf])
  have hst := h.st
  have hps := h.ps
  have hd := h.dk
  obtain ⟨la, ln, lc, hlv⟩ := own_slice h.ref.own
  obtain ⟨pa, pn, pc, hpl⟩ := own_slice h.parts.1
  simp only [rdCells] at hst
  rw [hlv] at hst
  rw [hpl] at hps
  have H := Lib.hid h
  have HK := Lib.hid hk
  have HO := Lib.hid hO
  have Hlv := Lib.hid hlv
  have hF1 : Fr (· = o.kb) w (w.setCell ⟨o.kb, 5, none⟩ (.pointer none)) := Fr.one o.kb w 5 (.pointer none)
  have hk1 : (w.setCell ⟨o.kb, 5, none⟩ (.pointer none)).heap[o.kb]? = some (.cells #[.pointer (some ⟨o.db, 0, none⟩), .pointer (some ⟨o.pb, 0, none⟩), .int .i64 o.n, .bool (decide (o.ep = 0)), .bool false, .pointer none, .int .i64 o.pz, .int .i64 o.ck, .bool false, .slice la ln lc] 165 (0, 0)) := by
    rw [hp_setCell, if_pos rfl, hst]; rfl
  have hd1 : DiskAt (w.setCell ⟨o.kb, 5, none⟩ (.pointer none)) o.db o.bb o.d := hd.frame hF1 (by
    rintro k rfl
    exact ⟨hn1, ne_of_kind hst hdk2 (by simp [kindOf]), _, hst, by simp [kindOf]⟩)
  have hg1 : Handle (w.setCell ⟨o.kb, 5, none⟩ (.pointer none)) := hg.fr hF1 (by omega)
  have hp1 : (w.setCell ⟨o.kb, 5, none⟩ (.pointer none)).heap[o.pb]? = _ := hF1.get hps hnp
  have h01 := h0.1
  have h02 := h0.2
  clear hd hg h hk hO hlv hpl hdk1 hdk2 hps h0
  have hcv0 := cellv w
  have hfv0 := frozv w
  go_enter Tryz.func89, Tryz.ntmps89
  go_upto_region 2 with fail
  generalize w.setCell ⟨o.kb, 5, none⟩ (.pointer none) = w1 at hF1 hk1 hd1 hg1 hp1 ⊢
  have HF1 := Lib.hid hF1
  have Hk1 := Lib.hid hk1
  have Hg1 := Lib.hid hg1
  have Hd1 := Lib.hid hd1
  have Hp1 := Lib.hid hp1
  have hpe : o.d.pending = 0 := by unfold DiskM.pending; rw [HK.out.pend]
  have HTd := Lib.hid (Told_calls Hd1.out)
  have HWr := Lib.hid (Writes_calls Hd1.out)
  have HPe := Lib.hid (Pending_calls Hd1.out)
  rw [hpe] at HPe
  have HNm := Lib.hid (fun (x : Int) (w' : World) => num_calls w' x)
  have hd1r : DiskAt w1.drew o.db o.bb o.d := hd1.new ((Fr.refl _ w1).drew)
  have HC := Lib.hid (opened_callV (pause := pause) hd1r HK.out HO.out)
  clear hst hF1 hg1 hd1 hcv0 hfv0 hd1r hpe
  have hcv := cellv w1
  go_upto_region 6 with (first
    | (go_at_call 33; refine Calls.mono HTd.out ?_; rintro e w2 ⟨rfl, rfl⟩)
    | (go_at_call 34; refine Calls.mono HWr.out ?_; rintro e w2 ⟨rfl, rfl⟩)
    | (go_at_call 31; refine Calls.mono HPe.out ?_; rintro e w2 ⟨rfl, rfl⟩)
    | fail)
  have hkr : ∀ w', Fr (· = o.db) w1.drew w' → w'.heap[o.kb]? = some (.cells #[.pointer (some ⟨o.db, 0, none⟩), .pointer (some ⟨o.pb, 0, none⟩), .int .i64 o.n, .bool (decide (o.ep = 0)), .bool false, .pointer none, .int .i64 o.pz, .int .i64 o.ck, .bool false, .slice la ln lc] 165 (0, 0)) := fun w' hf => hf.get (w := w1.drew) Hk1.out hn1
  have Hkr := Lib.hid hkr
  refine op_r6 o.kb o.db o.pb (.int .i64 pause) w1 (OpRV w1.drew o pause) (by rw [hcv, Hk1.out]; rfl) (by rw [hcv, Hk1.out]; rfl) (Calls.mono HC.out ?_) ?_
  · rintro e w' ⟨xv, ev, rfl, hR⟩
    obtain ⟨_, _, _, hf, _⟩ := id hR
    refine ⟨xv, ev, rfl, hR, ?_, ?_⟩
    · rw [cellv, Hkr.out w' hf]; rfl
    · rw [cellv, Hkr.out w' hf]; rfl
  intros
  rename_i xv2 ev2 w5 hR5
  obtain ⟨kc, hkc, hd5, hf5, hcase⟩ := hR5
  have hk5 := Hkr.out w5 hf5
  have hp5 := hf5.get (w := w1.drew) Hp1.out hn4
  have hg5 : Handle w5 := (Hg1.out.new ((Fr.refl _ w1).drew)).fr hf5 (by omega)
  have HWr5 : Hid (∀ w', New w5 w' → Calls Tryz.prog 34 #[.pointer (some ⟨o.db, 0, none⟩)] w' fun e w'' => e = .returned (.int .i64 o.d.writes) ∧ w' = w'') := fun w' hf => Writes_calls (d := o.d.reads kc) (hd5.new hf)
  have HPe5 : Hid (∀ w', New w5 w' → Calls Tryz.prog 31 #[.pointer (some ⟨o.db, 0, none⟩)] w' fun e w'' => e = .returned (.int .i64 0) ∧ w' = w'') := fun w' hf => by
    have hpe5 : (o.d.reads kc).pending = 0 := by unfold DiskM.pending; rw [show (o.d.reads kc).pend = o.d.pend from rfl, HK.out.pend]
    rw [← hpe5]; exact Pending_calls (hd5.new hf)
  have HTd5 : Hid (∀ w', New w5 w' → Calls Tryz.prog 33 #[.pointer (some ⟨o.db, 0, none⟩)] w' fun e w'' => e = .returned (.int .i64 o.d.told) ∧ w' = w'') := fun w' hf => Told_calls (d := o.d.reads kc) (hd5.new hf)
  have Hk5 := Lib.hid hk5
  have Hp5 := Lib.hid hp5
  have Hf5 : Hid (Fr (fun k => k = o.kb ∨ k = o.db) w w5) := (HF1.out.mono (fun _ _ e => .inl e)).trans ((Fr.refl _ w1).drew.trans (hf5.mono (fun _ _ e => .inr e)))
  have HFi := Lib.hid (fun (w' : World) (hf : New w5 w') => fits109 (hf.get Hk5.out (fun f => f)) (n := o.n) rfl)
  have HFin : Hid (∀ w6, New w5 w6 → TurnedTo (JustO pause) w B m o w6) := fun w6 hf6 => (TurnedTo.shut H.out HK.out kc hkc (Hf5.out.trans (hf6.mono (fun _ _ f => f.elim))) (by
    rw [hf6.get Hk5.out (fun f => f)]
    simp only [rdCells, xvOf, Hlv.out]) (hd5.new hf6)).mono (fun _ h => NoX.just h pause)
  have Hg5 := Lib.hid hg5
  have Hd5 := Lib.hid hd5
  have Hkc := Lib.hid hkc
  have hsz5 := Hf5.out.size
  have Hsz5 := Lib.hid hsz5
  have Hsz1 : Hid (w.heap.size ≤ w1.drew.heap.size) := HF1.out.size
  generalize o.d.told = tl at HTd5 ⊢
  generalize o.d.writes = wt at HWr5 ⊢
  clear hd5 hf5 hg5 hcv hkr HC HTd HWr HPe hk1 hp1 hkc hsz5
  rcases hcase with ⟨rfl, nb, rfl, ⟨op, hfb⟩, hwhy⟩ | ⟨rfl, hne0, hps, hfi, xb, jb, mb, bl, rfl, hbs, hj, hE⟩
  · by_cases hp1 : pause < 1
    · have hE : errOf o.d pause = 8 := by unfold errOf; rw [if_pos (.inl hp1)]
      rw [hE] at hfb
      clear hwhy hE
      have hcv := cellv w5
      go_wp2_with (first
        | (go_at_call 26; refine Calls.mono (toldP_fault nb op 8 w5 Hg5.out hfb) ?_; rintro e w6 ⟨rfl, hf6⟩; have hk6 := hf6.get Hk5.out (fun f => f); have hp6 := hf6.get Hp5.out (fun f => f); have hcv6 := cellv w6)
        | (go_at_call 108; refine Calls.mono (HNm.out _ _) ?_; rintro e w7 ⟨rfl, rfl⟩)
        | (go_at_call 109; refine Calls.mono (HFi.out _ hf6) ?_; rintro e w8 ⟨rfl, rfl⟩)
        | (go_at_call 34; refine Calls.mono (HWr5.out _ hf6) ?_; rintro e w2 ⟨rfl, rfl⟩)
        | (go_at_call 31; refine Calls.mono (HPe5.out _ hf6) ?_; rintro e w2 ⟨rfl, rfl⟩)
        | (go_at_call 33; refine Calls.mono (HTd5.out _ hf6) ?_; rintro e w2 ⟨rfl, rfl⟩)
        | fail)
      go_ret
      exact ⟨rfl, HFin.out _ hf6⟩
    · by_cases hp2 : 64 < pause
      · have hE : errOf o.d pause = 8 := by unfold errOf; rw [if_pos (.inr hp2)]
        rw [hE] at hfb
        clear hwhy hE
        have hcv := cellv w5
        go_wp2_with (first
          | (go_at_call 26; refine Calls.mono (toldP_fault nb op 8 w5 Hg5.out hfb) ?_; rintro e w6 ⟨rfl, hf6⟩; have hk6 := hf6.get Hk5.out (fun f => f); have hp6 := hf6.get Hp5.out (fun f => f); have hcv6 := cellv w6)
          | (go_at_call 108; refine Calls.mono (HNm.out _ _) ?_; rintro e w7 ⟨rfl, rfl⟩)
          | (go_at_call 109; refine Calls.mono (HFi.out _ hf6) ?_; rintro e w8 ⟨rfl, rfl⟩)
          | (go_at_call 34; refine Calls.mono (HWr5.out _ hf6) ?_; rintro e w2 ⟨rfl, rfl⟩)
          | (go_at_call 31; refine Calls.mono (HPe5.out _ hf6) ?_; rintro e w2 ⟨rfl, rfl⟩)
          | (go_at_call 33; refine Calls.mono (HTd5.out _ hf6) ?_; rintro e w2 ⟨rfl, rfl⟩)
          | fail)
        go_ret
        exact ⟨rfl, HFin.out _ hf6⟩
      · have hpn : ¬ (pause < 1 ∨ 64 < pause) := by omega
        have hfd : o.d.fits = (decide (8 ≤ o.n) && decide (o.n ≤ 400)) := by unfold DiskM.fits; rw [HK.out.len]
        cases hfi : o.d.fits
        · have hE : errOf o.d pause = 7 := by unfold errOf; rw [if_neg hpn, if_pos hfi]
          rw [hfi] at hfd
          rw [← hfd] at HFi
          rw [hE] at hfb
          clear hwhy hE hfi hfd hpn
          have hcv := cellv w5
          go_wp2_with (first
            | (go_at_call 26; refine Calls.mono (toldP_fault nb op 7 w5 Hg5.out hfb) ?_; rintro e w6 ⟨rfl, hf6⟩; have hk6 := hf6.get Hk5.out (fun f => f); have hp6 := hf6.get Hp5.out (fun f => f); have hcv6 := cellv w6)
            | (go_at_call 108; refine Calls.mono (HNm.out _ _) ?_; rintro e w7 ⟨rfl, rfl⟩)
            | (go_at_call 109; refine Calls.mono (HFi.out _ hf6) ?_; rintro e w8 ⟨rfl, rfl⟩)
            | (go_at_call 34; refine Calls.mono (HWr5.out _ hf6) ?_; rintro e w2 ⟨rfl, rfl⟩)
            | (go_at_call 31; refine Calls.mono (HPe5.out _ hf6) ?_; rintro e w2 ⟨rfl, rfl⟩)
            | (go_at_call 33; refine Calls.mono (HTd5.out _ hf6) ?_; rintro e w2 ⟨rfl, rfl⟩)
            | fail)
          go_ret
          exact ⟨rfl, HFin.out _ hf6⟩
        · have hE : errOf o.d pause = 6 := by unfold errOf; rw [if_neg hpn, hfi, if_neg (by decide)]
          rw [hfi] at hfd
          rw [← hfd] at HFi
          have he0 : o.ep = 0 := by
            rcases hwhy with h | h | h
            · exact h
            · exact absurd h hpn
            · rw [hfi] at h; cases h
          have hdec : decide (o.ep = 0) = true := by simp [he0]
          rw [hdec] at hk5
          rw [hE] at hfb
          clear hwhy hE hfi hfd hpn he0
          have hcv := cellv w5
          go_wp2_with (first
            | (go_at_call 26; refine Calls.mono (toldP_fault nb op 6 w5 Hg5.out hfb) ?_; rintro e w6 ⟨rfl, hf6⟩; have hk6 := hf6.get Hk5.out (fun f => f); simp only [hdec] at hk6; have hp6 := hf6.get Hp5.out (fun f => f); have hcv6 := cellv w6)
            | (go_at_call 108; refine Calls.mono (HNm.out _ _) ?_; rintro e w7 ⟨rfl, rfl⟩)
            | (go_at_call 109; refine Calls.mono (HFi.out _ hf6) ?_; rintro e w8 ⟨rfl, rfl⟩)
            | (go_at_call 34; refine Calls.mono (HWr5.out _ hf6) ?_; rintro e w2 ⟨rfl, rfl⟩)
            | (go_at_call 31; refine Calls.mono (HPe5.out _ hf6) ?_; rintro e w2 ⟨rfl, rfl⟩)
            | (go_at_call 33; refine Calls.mono (HTd5.out _ hf6) ?_; rintro e w2 ⟨rfl, rfl⟩)
            | fail)
          go_ret
          exact ⟨rfl, HFin.out _ hf6⟩
  · have hfd : o.d.fits = (decide (8 ≤ o.n) && decide (o.n ≤ 400)) := by unfold DiskM.fits; rw [HK.out.len]
    rw [hfi] at hfd
    rw [← hfd] at HFi
    have hR5 : RefAt w5 B (.slice la ln lc) o.R := by
      have h2 := (H.out.shut Hf5.out (by rw [Hk5.out]; simp only [rdCells, xvOf, Hlv.out]) Hd5.out).ref
      rw [← Hlv.out]; exact h2
    have HFo := Lib.hid (found_gen (pause := pause) Hk5.out Hd5.out HK.out.pend hR5 HK.out.ord HK.out.lenR HK.out.ok hE HK.out.core.symm)
    have h1 : ¬ pause < 1 := by omega
    have h2 : ¬ (64 : Int) < pause := by omega
    have Hbs := Lib.hid hbs
    have Hj := Lib.hid hj
    have HE := Lib.hid hE
    have Hps := Lib.hid hps
    have Hne0 := Lib.hid hne0
    clear hfi hE hps hne0 hbs hj hfd hR5
    have hcv := cellv w5
    go_wp2_with (first
      | (go_at_call 26; refine Calls.mono (toldP_nil w5) ?_; rintro e w6 ⟨rfl, hw6⟩; obtain rfl := hw6.symm)
      | (go_at_call 108; refine Calls.mono (HNm.out _ _) ?_; rintro e w7 ⟨rfl, rfl⟩)
      | (go_at_call 109; refine Calls.mono (HFi.out _ (Fr.refl _ _)) ?_; rintro e w8 ⟨rfl, rfl⟩)
      | (go_at_call 34; refine Calls.mono (HWr5.out _ (Fr.refl _ _)) ?_; rintro e w2 ⟨rfl, rfl⟩)
      | (go_at_call 31; refine Calls.mono (HPe5.out _ (Fr.refl _ _)) ?_; rintro e w2 ⟨rfl, rfl⟩)
      | (go_at_call 33; refine Calls.mono (HTd5.out _ (Fr.refl _ _)) ?_; rintro e w2 ⟨rfl, rfl⟩)
      | (go_at_call 110; refine Calls.mono HFo.out ?_; rintro e w9 ⟨rfl, hf9, lv9, R9, hk9, hR9, hs9⟩)
      | fail)
    go_ret
    refine ⟨rfl, TurnedTo.opened H.out HK.out Hne0.out Hps.out kc Hkc.out Hsz5.out (Hf5.out.trans (hf9.mono (fun _ _ e => .inl e))) hf9 ⟨_, Hk5.out⟩ Hd5.out ?_ Hj.out HE.out hk9 hR9 hs9⟩
    have := Hsz1.out
    have hb := Hbs.out
    exact ⟨by omega, by omega, by omega, fun b hb2 => Nat.le_trans this (hb.2.2.2 b hb2)⟩
end Go.Proofs.YtkafmfdipmhleaaGreatDoor

namespace Go.Proofs.YtkafmfdipmhleaaGreatDoor
open Go.RowKit Go.Maps
theorem TurnedTo.low {Q : RD → Prop} {w w' : World} {B m : Nat} {o : RD} (h : RunAt w B o) (hT : TurnedTo Q w B m o w') : Low B w w' := by
  obtain ⟨_, _, _, _, _, hF, _⟩ := hT
  exact hF.low h.low (fun k hk => h.lo k hk)
noncomputable def stR13 : Code := ((Tryz.f60.body).bind (regionAt 13)).getD .skip
set_option maxRecDepth 100000 in
set_option maxHeartbeats 8000000 in
/-- return w.onEngine(d, w.fails[k], o) -/
theorem st_r13 (wb ob fg fn fcap i : Nat) (od : RD) (B m : Nat) (f : Bool) (o : OpM) (kv rv sv dv : Value) (fc : Array Value) (W : World)
    (hp : W.heap[wb]? = some (.cells #[kv, rv, sv, dv, .slice (some ⟨fg, 0, none⟩) fn fcap] 118 (0, 0))) (hc : W.heap[ob]? = some (.cells o.cells 112 (0, 0))) (hf : W.heap[fg]? = some (.cells fc 4 (0, 0))) (hfi : fc[i]? = some (.bool f)) (hi : i < fn)
    (hn1 : ¬ od.own wb) (hn2 : ¬ od.own ob) (hn3 : ¬ od.own fg)
    (hC : Calls Tryz.prog 91 #[.pointer (some ⟨wb, 0, none⟩), .pointer (some ⟨od.kb, 0, none⟩), .bool f, .agg o.cells] W.drew fun e w' => e = .returned (.bool true) ∧ TurnedTo (KeepA od) W.drew B m od w')
    {ds : List Deferred} {x1 x2 x4 x5 x8 x9 x10 x11 x12 x13 x14 x15 x16 x17 x18 x19 x20 x21 x22 x23 x24 x25 x26 x27 x28 x29 x30 x31 x32 x33 x34 x35 x36 x37 x38 x39 x40 x41 x42 x43 x44 x45 x46 x47 x48 x49 x50 x51 x52 x53 x54 x55 x56 x57 x58 x59 x60 x61 x62 x63 x64 x65 x66 x67 x68 x69 x70 x71 x72 x73 x74 x75 x76 x77 x78 x79 x80 x81 x82 x83 x84 x85 x86 x87 x88 x89 x90 x91 x92 x93 x94 x95 x96 x97 x98 x99 x100 x101 x102 x103 x104 x105 x106 x107 x108 x109 x110 x111 x112 x113 x114 x115 x116 x117 x118 x119 x120 x121 x122 x123 x124 x125 x126 x127 x128 x129 x130 x131 x132 x133 x134 x135 x136 x137 x138 x139 x140 : Value} {Q : Exit → Act → World → Prop}
    (hQ : ∀ (y58 y59 y60 y61 y62 y63 y64 y65 y66 y67 y68 : Value) (w3 : World), TurnedTo (KeepA od) W B m od w3 → Q .normal ⟨#[.pointer (some ⟨wb, 0, none⟩), x1,x2, .pointer (some ⟨ob, 0, none⟩), .bool true, x5, .int .i64 i, .pointer (some ⟨od.kb, 0, none⟩), x8,x9,x10,x11,x12,x13,x14,x15,x16,x17,x18,x19,x20,x21,x22,x23,x24,x25,x26,x27,x28,x29,x30,x31,x32,x33,x34,x35,x36,x37,x38,x39,x40,x41,x42,x43,x44,x45,x46,x47,x48,x49,x50,x51,x52,x53,x54,x55,x56,x57,y58,y59,y60,y61,y62,y63,y64,y65,y66,y67,y68,x69,x70,x71,x72,x73,x74,x75,x76,x77,x78,x79,x80,x81,x82,x83,x84,x85,x86,x87,x88,x89,x90,x91,x92,x93,x94,x95,x96,x97,x98,x99,x100,x101,x102,x103,x104,x105,x106,x107,x108,x109,x110,x111,x112,x113,x114,x115,x116,x117,x118,x119,x120,x121,x122,x123,x124,x125,x126,x127,x128,x129,x130,x131,x132,x133,x134,x135,x136,x137,x138,x139,x140], ds⟩ w3) :
    Code.wp Tryz.prog stR13 Q ⟨#[.pointer (some ⟨wb, 0, none⟩), x1,x2, .pointer (some ⟨ob, 0, none⟩), x4,x5, .int .i64 i, .pointer (some ⟨od.kb, 0, none⟩), x8,x9,x10,x11,x12,x13,x14,x15,x16,x17,x18,x19,x20,x21,x22,x23,x24,x25,x26,x27,x28,x29,x30,x31,x32,x33,x34,x35,x36,x37,x38,x39,x40,x41,x42,x43,x44,x45,x46,x47,x48,x49,x50,x51,x52,x53,x54,x55,x56,x57,x58,x59,x60,x61,x62,x63,x64,x65,x66,x67,x68,x69,x70,x71,x72,x73,x74,x75,x76,x77,x78,x79,x80,x81,x82,x83,x84,x85,x86,x87,x88,x89,x90,x91,x92,x93,x94,x95,x96,x97,x98,x99,x100,x101,x102,x103,x104,x105,x106,x107,x108,x109,x110,x111,x112,x113,x114,x115,x116,x117,x118,x119,x120,x121,x122,x123,x124,x125,x126,x127,x128,x129,x130,x131,x132,x133,x134,x135,x136,x137,x138,x139,x140], ds⟩ W := by
  obtain ⟨k, x, a, b, s, t⟩ := o
  simp only [OpM.cells] at hc hC
  have HS : Hid (∀ w', Fr od.own W w' → w'.cell? ⟨wb, 4, none⟩ = some (.slice (some ⟨fg, 0, none⟩) fn fcap) ∧ w'.cell? ⟨fg, i, none⟩ = some (.bool f) ∧ w'.cell? ⟨ob, 0, none⟩ = some (.int .i64 k) ∧ w'.cell? ⟨ob, 1, none⟩ = some (.int .i64 x) ∧ w'.cell? ⟨ob, 2, none⟩ = some (.int .i64 a) ∧ w'.cell? ⟨ob, 3, none⟩ = some (.int .i64 b) ∧ w'.cell? ⟨ob, 4, none⟩ = some (.string s) ∧ w'.cell? ⟨ob, 5, none⟩ = some (.string t)) := by
    intro w' hF
    simp only [cellv, hF.get hp hn1, hF.get hc hn2, hF.get hf hn3, cellOf_cells]
    exact ⟨rfl, hfi, rfl, rfl, rfl, rfl, rfl, rfl⟩
  have HC := Lib.hid hC
  have HQ := Lib.hid hQ
  have hiI : (i : Int) < fn := by omega
  have hi0 : (0 : Int) ≤ i := by omega
  obtain ⟨s0, s1, s2, s3, s4, s5, s6, s7⟩ := HS.out W (Fr.refl _ _)
  clear hp hc hf hfi hi hn1 hn2 hn3 hC hQ
  conv => arg 2; whnf
  go_region_held3 (fun w' => w'.cell? ⟨wb, 4, none⟩ = some (.slice (some ⟨fg, 0, none⟩) fn fcap) ∧ w'.cell? ⟨fg, i, none⟩ = some (.bool f) ∧ w'.cell? ⟨ob, 0, none⟩ = some (.int .i64 k) ∧ w'.cell? ⟨ob, 1, none⟩ = some (.int .i64 x) ∧ w'.cell? ⟨ob, 2, none⟩ = some (.int .i64 a) ∧ w'.cell? ⟨ob, 3, none⟩ = some (.int .i64 b) ∧ w'.cell? ⟨ob, 4, none⟩ = some (.string s) ∧ w'.cell? ⟨ob, 5, none⟩ = some (.string t))
    (first | exact HS.out _ ((Fr.refl _ _).drew) | (obtain ⟨_, _, _, _, _, hFx, _⟩ := hT2; exact HS.out _ ((Fr.refl _ _).drew.trans hFx)))
    ((first
      | (go_at_call 91; refine Calls.mono HC.out ?_; rintro e w2 ⟨rfl, hT2⟩)
      | fail))
  exact HQ.out _ _ _ _ _ _ _ _ _ _ _ _ (TurnedTo.pre ((Fr.refl _ W).drew) hT2)
def TickC : Prop := ∀ (w : World) (B m : Nat) (od : RD) (e : EngR) (f : Bool), RunAt w B od → RDok (m + 1) od → od.x = some e → (e.a = if f then askF else askP) → Handle w → 0 < B →
  Calls Tryz.prog 113 #[.pointer (some ⟨od.kb, 0, none⟩), .bool f] w fun e w' => e = .returned (.bool true) ∧ TurnedTo (KeepA od) w B m od w'
def FailC : Prop := ∀ (w : World) (B wb m i : Nat) (l : List RD) (fs : List Bool) (a : Int), RW w B wb (m + 2) l fs → i < l.length → Handle w → 0 < B →
  Calls Tryz.prog 90 #[.pointer (some ⟨wb, 0, none⟩), .int .i64 i, .int .i64 a] w fun e w' => e = .returned (.bool true) ∧ (∃ l' fs', RW w' B wb m l' fs') ∧ Low B w w'
def stepKind (k : Int) : Prop := k < 7 ∨ k = 10 ∨ k = 11 ∨ k = 12 ∨ k = 13 ∨ k = 14 ∨ k = 15 ∨ k = 16
set_option maxRecDepth 100000 in
set_option maxHeartbeats 8000000 in
theorem stepR_calls {w : World} {B wb m : Nat} {l : List RD} {fs : List Bool} {o : OpM} (h : RW w B wb (m + 3) l fs) (hok : o.ok) (hkd : stepKind o.k) (hT : o.k = 14 → TickC) (hF : o.k = 12 → FailC) (hg : Handle w) (hB : 0 < B) :
    Calls Tryz.prog 60 #[.pointer (some ⟨wb, 0, none⟩), .agg o.cells] w fun e w' => e = .returned (.bool true) ∧ (∃ l' fs', RW w' B wb m l' fs') ∧ Low B w w' := by
  obtain ⟨k, x, a, b, s, t⟩ := o
  have hN0 : New w (w.alloc (.cells #[.int .i64 k, .int .i64 x, .int .i64 a, .int .i64 b, .string s, .string t] 112)) := (Fr.refl _ w).alloc _
  have hob := heap_alloc_new w (.cells #[.int .i64 k, .int .i64 x, .int .i64 a, .int .i64 b, .string s, .string t] 112)
  have HO1 := Lib.hid (ownerR_calls (o := ⟨k, x, a, b, s, t⟩) (m := m + 2) (h.new hN0))
  simp only [OpM.cells] at HO1
  have HL0 : Hid (Low B w (w.alloc (.cells #[.int .i64 k, .int .i64 x, .int .i64 a, .int .i64 b, .string s, .string t] 112))) := hN0.low h.lo.2 (fun _ f => f.elim)
  have Hsz : Hid (B ≤ w.heap.size) := h.lo.2
  have HN0 := Lib.hid hN0
  have Hob := Lib.hid hob
  have Hg := Lib.hid hg
  have Hok := Lib.hid hok
  have hT : k = 14 → TickC := hT
  have hF : k = 12 → FailC := hF
  have HT := Lib.hid hT
  have HF := Lib.hid hF
  have hkd : stepKind k := hkd
  unfold stepKind at hkd
  have Hkd := Lib.hid hkd
  simp only [OpM.cells]
  clear h hN0 hg hok hkd hT hF
  go_enter Tryz.func60, Tryz.ntmps60
  go_upto_region 1 with fail
  generalize w.alloc (.cells #[.int .i64 k, .int .i64 x, .int .i64 a, .int .i64 b, .string s, .string t] 112) = w0 at *
  generalize w.heap.size = ob at *
  have hcv0 := cellv w0
  by_cases hown : 1 ≤ k ∧ k ≤ 6
  · have hdc : (decide (1 ≤ k) && decide (k ≤ 6)) = true := by simp [hown]
    have Hdc := Lib.hid hdc
    clear hdc
    go_wp2_with (first
      | (go_at_call 85; refine Calls.mono HO1.out ?_; rintro e w2 ⟨rfl, ⟨l2, fs2, h2⟩, hl2, hk2⟩; rw [Hdc.out])
      | fail)
    go_ret
    exact ⟨rfl, ⟨l2, fs2, h2.less (by omega)⟩, HL0.out.trans hl2⟩
  · have hdc : (decide (1 ≤ k) && decide (k ≤ 6)) = false := by
      simp only [Bool.and_eq_false_iff, decide_eq_false_iff_not]; omega
    have Hdc := Lib.hid hdc
    clear hdc
    go_upto_region 4 with (first
      | (go_at_call 85; refine Calls.mono HO1.out ?_; rintro e w2 ⟨rfl, ⟨l2, fs2, h2⟩, hl2, hk2⟩; rw [Hdc.out])
      | fail)
    have hob2 := hk2.block ob _ Hob.out (by simp [kindOf, KO])
    have Hob2 := Lib.hid hob2
    have Hl2 := Lib.hid (HL0.out.trans hl2)
    have H2 := Lib.hid h2
    obtain ⟨kv, rv, sv, dv, fv, ks, rs, ss, hw2⟩ := h2.wd
    have Hw2 := Lib.hid hw2
    have hp2 := hw2.cells
    obtain ⟨da, dc, rfl⟩ : ∃ da dc, dv = .slice da l2.length dc := by
      rcases hw2.dsks.2 with ⟨e1, e2⟩ | ⟨g, cap, cur, e1, _⟩
      · exact ⟨none, 0, by rw [e1, e2]⟩
      · exact ⟨_, _, e1⟩
    clear hl2 hk2 h2 hw2 hcv0 hob HO1
    have hcv := cellv w2
    by_cases hl0 : l2.length = 0
    · have hl0I : (l2.length : Int) = 0 := by omega
      go_wp2_with fail
      go_ret
      exact ⟨rfl, ⟨l2, fs2, H2.out.less (by omega)⟩, Hl2.out⟩
    have hl0I : ¬ (l2.length : Int) = 0 := by omega
    by_cases hk7 : k < 7
    · go_wp2_with fail
      go_ret
      exact ⟨rfl, ⟨l2, fs2, H2.out.less (by omega)⟩, Hl2.out⟩
    have hk16 : ¬ (16 : Int) < k := by have := Hkd.out; omega
    go_upto_region 6 with fail
    have HP : Hid (∀ N, Calls Tryz.prog 86 #[.int .i64 x, .int .i64 l2.length] (w2.drewN N) fun e w' => e = .returned (.int .i64 (pickM x l2.length)) ∧ ∃ m, w' = w2.drewN m) := fun N => (lpick_calls (w2.drewN N) x l2.length Hok.out.2.1 (by have := H2.out.len; omega)).mono fun _ _ h => ⟨h.1, N, h.2.symm⟩
    have hpk := pickM_range x l2.length (by omega)
    obtain ⟨i, hi⟩ : ∃ i : Nat, pickM x l2.length = (i : Int) := ⟨(pickM x l2.length).toNat, by omega⟩
    rw [hi] at HP hpk
    have hil : i < l2.length := by omega
    clear hi
    go_quiet (first | (go_at_call 86; exact HP.out _))
    have hN3 : New w2 (w2.drewN nq) := (Fr.refl _ w2).drewN nq
    have hob3 := hN3.get Hob2.out (fun f => f)
    have h3 := H2.out.new hN3
    have hw3 := Hw2.out.new hN3
    have hl3 := Hl2.out.trans (hN3.low H2.out.lo.2 (fun _ f => f.elim))
    generalize w2.drewN nq = w3 at hN3 hob3 h3 hw3 hl3 ⊢
    have H3 := Lib.hid h3
    have Hl3 := Lib.hid hl3
    have Hob3 := Lib.hid hob3
    have Hw3 := Lib.hid hw3
    obtain ⟨od, hod⟩ : ∃ od, l2[i]? = some od := ⟨l2[i], List.getElem?_eq_getElem hil⟩
    obtain ⟨g, cap, cur, hdv, hh, hcu⟩ := own_cell hw3.dsks hil (by unfold ptrsR; rw [List.getElem?_map, hod]; rfl)
    have hdv : da = some ⟨g, 0, none⟩ := by simp only [Value.slice.injEq] at hdv; exact hdv.1
    subst hdv
    have hdc : w3.cell? ⟨g, i, none⟩ = some (.pointer (some ⟨od.kb, 0, none⟩)) := by rw [cellv, hh, cellOf_cells]; exact hcu
    have hp3 := hw3.cells
    have hiI : (i : Int) < l2.length := by omega
    have hi0 : (0 : Int) ≤ i := by omega
    have Hod := Lib.hid hod
    have Hil := Lib.hid hil
    have HNa := Lib.hid (fun (w' : World) => near_calls w' a Hok.out.2.2.1)
    have HNb := Lib.hid (fun (w' : World) => near_calls w' b Hok.out.2.2.2)
    clear hN3 h3 hw3 hl3 hod hh hcu HP hpk hp2 hob2 hcv
    have hcv := cellv w3
    go_upto_region 10 with (first
      | (go_at_call 87; refine Calls.mono (HNa.out _) ?_; rintro e w4 ⟨⟨xa, rfl⟩, rfl⟩)
      | (go_at_call 87; refine Calls.mono (HNb.out _) ?_; rintro e w4 ⟨⟨xb, rfl⟩, rfl⟩)
      | fail)
    have hg3 := handle_low Hg.out Hl3.out hB
    have Hg3 := Lib.hid hg3
    have hmem := List.mem_of_getElem? Hod.out
    have hodR := H3.out.ds od hmem
    have hodK := H3.out.ok od hmem
    have HodR := Lib.hid hodR
    have HodK := Lib.hid hodK
    have Hmem := Lib.hid hmem
    have h0 : 0 < od.kb ∧ 0 < od.db ∧ 0 < od.bb := by
      have h1 := hodR.lo _ (.inl rfl)
      have h2 := hodR.lo _ (.inr (.inl rfl))
      have h3 := hodR.lo _ (.inr (.inr (.inl rfl)))
      omega
    have Hh0 := Lib.hid h0
    obtain ⟨fg, fcap, fcur, hfv', hfh, hfc⟩ := own_cell Hw3.out.fls (i := i) (u := .bool (fs2[i]'(by rw [Hw3.out.num]; exact hil))) (by rw [Hw3.out.num]; exact hil) (by simp)
    obtain ⟨f, hf⟩ : ∃ f, fs2[i]? = some f := ⟨fs2[i]'(by rw [Hw3.out.num]; exact hil), List.getElem?_eq_getElem _⟩
    have hfx : (fs2[i]'(by rw [Hw3.out.num]; exact hil)) = f := by
      have := List.getElem?_eq_getElem (show i < fs2.length by rw [Hw3.out.num]; exact hil)
      rw [this] at hf; exact Option.some.inj hf
    rw [hfx] at hfc
    subst hfv'
    have Hf := Lib.hid hf
    have hnum : fs2.length = l2.length := Hw3.out.num
    have Hnum := Lib.hid hnum
    have Hfh := Lib.hid hfh
    have Hfc := Lib.hid hfc
    have hkb := hodR.st
    simp only [rdCells] at hkb
    clear hg3 hmem hodR hodK h0 hf hfx hfh hfc
    by_cases hk10 : k = 10
    · subst hk10
      have HFm := Lib.hid (formattedR_calls HodR.out (HodK.out.less (k := m + 1) (by omega)) Hg3.out Hh0.out)
      clear hkb
      go_wp2_with (first
        | (go_at_call 88; refine Calls.mono HFm.out ?_; rintro e w5 ⟨rfl, hT5⟩)
        | fail)
      go_ret
      have hlow := TurnedTo.low HodR.out hT5
      obtain ⟨o', hQ, hW⟩ := (H3.out.less (k := m) (by omega)).r0.disk Hod.out hT5
      exact ⟨rfl, ⟨_, _, hW.rw (fa_noX Hod.out H3.out.fa hQ)⟩, Hl3.out.trans hlow⟩
    by_cases hk11 : k = 11
    · subst hk11
      have hpe : od.d.pending = 0 := by unfold DiskM.pending; rw [HodK.out.pend]
      have HPe := Lib.hid (Pending_calls HodR.out.dk)
      rw [hpe] at HPe
      have hfcell : w3.cell? ⟨fg, i, none⟩ = some (.bool f) := by rw [cellv, Hfh.out, cellOf_cells]; exact Hfc.out
      have hffr : w3.frozen? ⟨fg, i, none⟩ = false := by rw [frozv, Hfh.out]; rfl
      have hfcell2 : cellOf w3.heap[fg]? i = some (.bool f) := by rw [Hfh.out, cellOf_cells]; exact Hfc.out
      have hW4 := (H3.out.less (k := m + 1) (by omega)).r0.setF (Hw3.out.less (k := m + 1) (by omega)) (k := i) false
      have hF4 : Fr (· = fg) w3 (w3.setCell ⟨fg, i, none⟩ (.bool false)) := Fr.one fg w3 i _
      have hBfg : B ≤ fg := (Hw3.out.fls.lt fg rfl).1
      have hg4 : Handle (w3.setCell ⟨fg, i, none⟩ (.bool false)) := Hg3.out.fr hF4 (by omega)
      have hob4 := hF4.get Hob3.out (ne_of_kind Hob3.out Hfh.out (by simp [kindOf]))
      have HW4 := Lib.hid hW4
      have HL4 := Lib.hid (hF4.low H3.out.lo.2 (by rintro z rfl; exact hBfg))
      have HOp := Lib.hid (openedR_calls (pause := a) (hW4.ds od Hmem.out) (hW4.ok od Hmem.out) (fun he => (hW4.ok od Hmem.out).opn he) hg4 ⟨Hh0.out.1, Hh0.out.2.1⟩)
      have Hob4 := Lib.hid hob4
      clear hpe hW4 hF4 hBfg hg4 hob4
      cases hne : decide (od.ep = 0)
      all_goals
        rw [hne] at hkb
        clear hne
        go_upto_region 27 with (first
          | (go_at_call 31; refine Calls.mono HPe.out ?_; rintro e w5 ⟨rfl, rfl⟩)
          | fail)
        go_upto_region 28 with fail
        have hob4 := Hob4.out
        clear hfcell hfcell2 hffr hdc hp3 hkb hob3 hcv
        generalize w3.setCell ⟨fg, i, none⟩ (.bool false) = w4 at HW4 HL4 HOp hob4 ⊢
        have hcv4 := cellv w4
        go_wp2_with (first
          | (go_at_call 89; refine Calls.mono HOp.out ?_; rintro e w6 ⟨rfl, hT6⟩)
          | fail)
        go_ret
        have hlow := TurnedTo.low (HW4.out.ds od Hmem.out) hT6
        obtain ⟨o', hQ, hW⟩ := RW0.disk (m := m) ⟨by
          obtain ⟨kv, rv, sv, dv, fv, ks, rs, ss, hw⟩ := HW4.out.wd
          exact ⟨kv, rv, sv, dv, fv, ks, rs, ss, hw.less (by omega)⟩, HW4.out.ds, fun o ho => (HW4.out.ok o ho).less (by omega), HW4.out.nd, HW4.out.lo, by have := HW4.out.len; omega⟩ Hod.out hT6
        exact ⟨rfl, ⟨_, _, hW.rw (fa_set Hod.out Hnum.out H3.out.fa (fun e he => (hQ e he).1))⟩, (Hl3.out.trans HL4.out).trans hlow⟩
    by_cases hk12 : k = 12
    · subst hk12
      have HFl := Lib.hid (HF.out rfl w3 B wb m i l2 fs2 a H3.out Hil.out Hg3.out hB)
      clear hkb
      go_wp2_with (first
        | (go_at_call 90; refine Calls.mono HFl.out ?_; rintro e w5 ⟨rfl, hW5, hl5⟩)
        | fail)
      go_ret
      exact ⟨rfl, hW5, Hl3.out.trans hl5⟩
    · have hk13 : k = 13 ∨ k = 14 ∨ k = 15 ∨ k = 16 := by have := Hkd.out; omega
      have Hk13 := Lib.hid hk13
      clear hk13
      have hn8 : ¬ k = 8 := by have := Hk13.out; omega
      have hn9 : ¬ k = 9 := by have := Hk13.out; omega
      have hn7 : ¬ k = 7 := by have := Hk13.out; omega
      cases hx : od.x with
      | none =>
        have hxv : xvOf od = .pointer none := by unfold xvOf; rw [hx]
        rw [hxv] at hkb
        clear hx hxv
        go_wp2_with fail
        go_ret
        exact ⟨rfl, ⟨l2, fs2, H3.out.less (by omega)⟩, Hl3.out⟩
      | some e =>
        have hxv : xvOf od = .pointer (some ⟨e.xb, 0, none⟩) := by unfold xvOf; rw [hx]
        rw [hxv] at hkb
        have Hx := Lib.hid hx
        clear hx hxv
        go_upto_region 13 with fail
        have hea : e.a = if f then askF else askP := H3.out.fa i od f Hod.out Hf.out e Hx.out
        have hD := (Fr.refl (fun _ => False) w3).drew
        refine st_r13 wb ob fg fs2.length fcap i od B m f ⟨k, x, a, b, s, t⟩ kv rv sv _ fcur w3 Hw3.out.cells Hob3.out Hfh.out Hfc.out (by rw [Hnum.out]; exact Hil.out) (HodR.out.notK Hw3.out.cells (by simp [kindOf])) (fun h2 => ?_) (HodR.out.notK Hfh.out (by simp [kindOf])) (onEngine_calls ((H3.out.less (k := m + 1) (by omega)).new hD) Hod.out Hx.out (Hg3.out.new hD) hB Hok.out Hk13.out (fun h14 w' hN => HT.out h14 w' B m od e f ((HodR.out.new HodK.out.pend hD).new HodK.out.pend hN) (HodK.out.less (by omega)) Hx.out hea ((Hg3.out.new hD).new hN) hB)) ?_
        · obtain ⟨ob', h3, h4⟩ := HodR.out.kinds h2
          rw [Hob3.out] at h3; cases h3
          simp [kindOf] at h4
        intros
        rename_i w5 hT5
        have HT5 := Lib.hid hT5
        clear hT5 hcv hkb hp3 hob3 hdc
        go_wp2_with fail
        go_ret
        have hlow := TurnedTo.low HodR.out HT5.out
        obtain ⟨o', hQ, hW⟩ := (H3.out.less (k := m) (by omega)).r0.disk Hod.out HT5.out
        exact ⟨rfl, ⟨_, _, hW.rw (fa_keep Hod.out H3.out.fa hQ)⟩, Hl3.out.trans hlow⟩
end Go.Proofs.YtkafmfdipmhleaaGreatDoor

namespace Go.Proofs.YtkafmfdipmhleaaGreatDoor
open Go.RowKit Go.Maps
/-- A slice whose steps read as L. -/
def ScrIn (w : World) (v : Value) (L : List OpM) : Prop :=
  (L = [] ∧ ∃ a c, v = .slice a 0 c) ∨ ∃ b off cap, v = .slice (some ⟨b, off, none⟩) L.length cap ∧ ∀ i o, L[i]? = some o → ∀ j u, o.cells[j]? = some u → w.cell? ⟨b, off + i * 6 + j, none⟩ = some u
theorem ScrIn.shape {w : World} {v : Value} {L : List OpM} (h : ScrIn w v L) : ∃ a c, v = .slice a L.length c := by
  rcases h with ⟨rfl, a, c, e⟩ | ⟨b, off, cap, e, _⟩
  · exact ⟨a, c, e⟩
  · exact ⟨_, _, e⟩
theorem ScrIn.low {w w' : World} {v : Value} {L : List OpM} (h : ScrIn w v L) (hl : Low w.heap.size w w') : ScrIn w' v L := by
  rcases h with h | ⟨b, off, cap, e, h2⟩
  · exact .inl h
  · refine .inr ⟨b, off, cap, e, fun i o ho j u hu => ?_⟩
    have h0 := h2 i o ho j u hu
    have hlt := World.block_lt_of_cell? w _ h0
    rw [← h0]; exact World.cell?_of_block (hl.block b hlt)
theorem ScrIn.at {w : World} {a : Option Addr} {n c : Nat} {L : List OpM} (h : ScrIn w (.slice a n c) L) (i : Nat) (o : OpM) (ho : L[i]? = some o) : ∃ b off, a = some ⟨b, off, none⟩ ∧ w.cell? ⟨b, off + i * 6, none⟩ = some (.int .i64 o.k) ∧ w.cell? ⟨b, off + i * 6 + 1, none⟩ = some (.int .i64 o.x) ∧ w.cell? ⟨b, off + i * 6 + 2, none⟩ = some (.int .i64 o.a) ∧ w.cell? ⟨b, off + i * 6 + 3, none⟩ = some (.int .i64 o.b) ∧ w.cell? ⟨b, off + i * 6 + 4, none⟩ = some (.string o.s) ∧ w.cell? ⟨b, off + i * 6 + 5, none⟩ = some (.string o.t) := by
  rcases h with ⟨rfl, _⟩ | ⟨b, off, cap, e, h2⟩
  · simp at ho
  · simp only [Value.slice.injEq] at e
    exact ⟨b, off, e.1, h2 i o ho 0 _ rfl, h2 i o ho 1 _ rfl, h2 i o ho 2 _ rfl, h2 i o ho 3 _ rfl, h2 i o ho 4 _ rfl, h2 i o ho 5 _ rfl⟩
def SmallPost (w : World) (L : List OpM) (e : Ending) (w' : World) : Prop := ∃ b, e = .returned (.bool b) ∧ New w w' ∧ (b = true → L.length ≤ 16384)
set_option maxRecDepth 100000 in
set_option maxHeartbeats 4000000 in
/-- small. -/
theorem small_calls {w : World} {v : Value} {L : List OpM} (h : ScrIn w v L) (hL : L.length ≤ maxLen) :
    Calls Tryz.prog 36 #[v] w (SmallPost w L) := by
  obtain ⟨a, c, rfl⟩ := h.shape
  have H := Lib.hid h
  clear h
  by_cases hl : L.length ≤ 16384
  · have hlI : ¬ (16384 : Int) < L.length := by omega
    have Hl := Lib.hid hl
    go_enter Tryz.func36, Tryz.ntmps36
    go_wp2_with fail
    go_loopw [3, 4] (fun n i wr => ∃ (k : Nat) (z : Int), k ≤ L.length ∧ i = .int .i64 k ∧ n = .int .i64 z ∧ New w wr) (fun _ i _ => L.length - (intOf i).toNat)
    case atStart => exact ⟨0, _, Nat.zero_le _, rfl, rfl, Fr.refl _ _⟩
    case round =>
      obtain ⟨k, z, hk, rfl, rfl, hf⟩ := hrel
      have Hf := Lib.hid hf
      clear hf
      by_cases hkl : k < L.length
      · obtain ⟨o, ho⟩ : ∃ o, L[k]? = some o := ⟨L[k], List.getElem?_eq_getElem hkl⟩
        obtain ⟨b, off, rfl, c0, c1, c2, c3, c4, c5⟩ := (H.out.low (Hf.out.low (Nat.le_refl _) (fun _ f => f.elim))).at k o ho
        have hkI : (k : Int) < L.length := by omega
        have hk0 : (0 : Int) ≤ k := by omega
        have Hkl := Lib.hid hkl
        go_upto_region 7 with fail
        go_quiet (fail)
        have hf2 := Hf.out.trans ((Fr.refl _ wr).drewN nq)
        have Hf2 := Lib.hid hf2
        clear c0 c1 c2 c3 c4 c5 hf2
        generalize wr.drewN nq = w2 at Hf2 ⊢
        by_cases hz : (16384 : Int) < wrap64 (wrap64 (z + o.s.size) + o.t.size)
        · go_wp2_with fail
          go_ret
          exact ⟨false, rfl, Hf2.out, fun h => by (cases h)⟩
        · go_wp2_with fail
          go_roundw
          case rel => exact ⟨k + 1, _, Hkl.out, by go_num, rfl, Hf2.out⟩
          case measure => have := Hkl.out; simp [intOf]; omega
      · have hkI : ¬ (k : Int) < L.length := by omega
        go_wp2_with fail
        go_ret
        exact ⟨true, rfl, Hf.out, fun _ => Hl.out⟩
  · have hlI : (16384 : Int) < L.length := by omega
    go_enter Tryz.func36, Tryz.ntmps36
    go_wp2_with fail
    go_ret
    exact ⟨false, rfl, Fr.refl _ _, fun h => by (cases h)⟩
def opCells (L : List OpM) : List Value := L.flatMap fun o => o.cells.toList
theorem opCells_len (L : List OpM) : (opCells L).length = L.length * 6 := by
  induction L with
  | nil => rfl
  | cons a L ih => simp [opCells, OpM.cells] at ih ⊢; omega
theorem opCells_get (L : List OpM) (i : Nat) (o : OpM) (ho : L[i]? = some o) (j : Nat) (u : Value) (hu : o.cells[j]? = some u) : (opCells L)[i * 6 + j]? = some u := by
  have hj : j < 6 := by
    have := (Array.getElem?_eq_some_iff.1 hu).1
    simpa [OpM.cells] using this
  induction L generalizing i with
  | nil => simp at ho
  | cons a L ih =>
    have h6 : (a.cells.toList).length = 6 := rfl
    have hc : opCells (a :: L) = a.cells.toList ++ opCells L := by simp [opCells]
    rw [hc]
    cases i with
    | zero =>
      simp at ho; subst ho
      rw [Nat.zero_mul, Nat.zero_add, List.getElem?_append_left (by omega)]
      simpa using hu
    | succ i =>
      rw [List.getElem?_append_right (by omega), h6, show (i + 1) * 6 + j - 6 = i * 6 + j by omega]
      exact ih i (by simpa using ho)
theorem scr_own {w : World} {B : Nat} {v : Value} {L : List OpM} (h : w.ownsRow B 112 6 v L.length (opCells L)) : ScrIn w v L := by
  rcases h.2 with ⟨rfl, h0⟩ | ⟨g, cap, cur, hv, hg, hh, hn, hq1, hq2, htk⟩
  · exact .inl ⟨List.length_eq_zero_iff.1 h0, none, 0, rfl⟩
  · refine .inr ⟨g, 0, cap, hv, fun i o ho j u hu => ?_⟩
    have hx := opCells_get L i o ho j u hu
    have hlt := (List.getElem?_eq_some_iff.1 hx).1
    rw [opCells_len] at hlt
    rw [cellv, hh, cellOf_cells, Nat.zero_add]
    rw [← htk, List.getElem?_take_of_lt (by omega)] at hx
    simpa using hx
end Go.Proofs.YtkafmfdipmhleaaGreatDoor

namespace Go.Proofs.YtkafmfdipmhleaaGreatDoor
open Go.RowKit Go.Maps
theorem Tryz.info112 : (Tryz.prog.info? 112).map (fun i => (i.zero, i.size, i.bytes)) = some (some (.agg #[.int .i64 0, .int .i64 0, .int .i64 0, .int .i64 0, .string ⟨#[]⟩, .string ⟨#[]⟩]), 6, 64) := by kernel_rfl
theorem opCells_snoc (L : List OpM) (o : OpM) : opCells (L ++ [o]) = opCells L ++ o.cells.toList := by simp [opCells]
end Go.Proofs.YtkafmfdipmhleaaGreatDoor

namespace Go.Proofs.YtkafmfdipmhleaaGreatDoor
open Go.RowKit Go.Maps
/-- A step that a script whose disks run may hold. -/
def RunOp (o : OpM) : Prop := o.ok ∧ stepKind o.k ∧ (o.k = 14 → TickC) ∧ (o.k = 12 → FailC)
set_option maxRecDepth 100000 in
set_option maxHeartbeats 4000000 in
/-- upTo: nothing parts. -/
theorem upToR_calls {w : World} {v : Value} {L : List OpM} (h : ScrIn w v L) (hL : L.length ≤ 16384) (hop : ∀ o ∈ L, RunOp o) (hg : Handle w) (h0 : 0 < w.heap.size) :
    Calls Tryz.prog 37 #[v] w fun e w' => e = .returned (.int .i64 (-1)) ∧ Low w.heap.size w w' := by
  obtain ⟨a, c, rfl⟩ := h.shape
  have H := Lib.hid h
  have Hop := Lib.hid hop
  have Hg := Lib.hid hg
  have H0 := Lib.hid h0
  have hN1 : New w (w.alloc (.cells #[.slice none 0 0, .slice none 0 0, .slice none 0 0, .slice none 0 0, .slice none 0 0] 118)) := (Fr.refl _ w).alloc _
  have hO1 : RW (w.alloc (.cells #[.slice none 0 0, .slice none 0 0, .slice none 0 0, .slice none 0 0, .slice none 0 0] 118)) w.heap.size w.heap.size (3 * L.length) [] [] :=
    ⟨⟨_, _, _, _, _, [], [], [], ⟨heap_alloc_new w _, World.ownsRow_nil _ _ _ _, World.ownsRow_nil _ _ _ _, fun k hk => by (cases hk), World.ownsRow_nil _ _ _ _, World.ownsRow_nil _ _ _ _, World.ownsRow_nil _ _ _ _, rfl, by show 0 + 3 * L.length ≤ 60000; omega, by show 0 + 3 * L.length ≤ 60000; omega, by show 0 + 3 * L.length ≤ 60000; omega, fun o ho => by simp at ho⟩⟩, fun o ho => by simp at ho, fun o ho => by simp at ho, List.Pairwise.nil, ⟨Nat.le_refl _, hN1.size⟩, by show 0 + 3 * L.length ≤ 60000; omega, fun i o f ho => by simp at ho⟩
  have HO1 := Lib.hid hO1
  have HL1 := Lib.hid (hN1.low (Nat.le_refl _) (fun _ f => f.elim))
  clear h hop hg h0 hN1 hO1
  go_enter Tryz.func37, Tryz.ntmps37
  go_upto_region 2 with fail
  generalize w.alloc (.cells #[.slice none 0 0, .slice none 0 0, .slice none 0 0, .slice none 0 0, .slice none 0 0] 118) = w1 at HO1 HL1 ⊢
  go_wp2_with fail
  go_loopw [4] (fun i wr => ∃ k : Nat, k ≤ L.length ∧ i = .int .i64 k ∧ (∃ l fs, RW wr w.heap.size w.heap.size (3 * (L.length - k)) l fs) ∧ Low w.heap.size w wr) (fun i _ => L.length - (intOf i).toNat)
  case atStart => exact ⟨0, Nat.zero_le _, rfl, ⟨[], [], HO1.out⟩, HL1.out⟩
  case round =>
    obtain ⟨k, hk, rfl, ⟨l, fs, hO⟩, hl⟩ := hrel
    have HO := Lib.hid hO
    have Hl := Lib.hid hl
    clear hO hl
    by_cases hkl : k < L.length
    · obtain ⟨o, ho⟩ : ∃ o, L[k]? = some o := ⟨L[k], List.getElem?_eq_getElem hkl⟩
      obtain ⟨b, off, rfl, c0, c1, c2, c3, c4, c5⟩ := (H.out.low Hl.out).at k o ho
      obtain ⟨hok, hkd, hT, hF⟩ := Hop.out o (List.mem_of_getElem? ho)
      have hO2 : RW wr w.heap.size w.heap.size (3 * (L.length - (k + 1)) + 3) l fs := HO.out.less (by omega)
      have HS := Lib.hid (stepR_calls hO2 hok hkd hT hF (handle_low Hg.out Hl.out H0.out) H0.out)
      simp only [OpM.cells] at HS
      have hkI : (k : Int) < L.length := by omega
      have hk0 : (0 : Int) ≤ k := by omega
      have Hkl := Lib.hid hkl
      clear hok hkd hO2 ho hT hF
      go_wp2_with (first
        | (go_at_call 60; refine Calls.mono HS.out ?_; rintro e w3 ⟨rfl, ⟨l3, fs3, hO3⟩, hl3⟩)
        | fail)
      go_roundw
      case rel => exact ⟨k + 1, Hkl.out, by go_num, ⟨l3, fs3, hO3⟩, Hl.out.trans hl3⟩
      case measure => have := Hkl.out; simp [intOf]; omega
    · have hkI : ¬ (k : Int) < L.length := by omega
      go_wp2_with fail
      go_ret
      exact ⟨rfl, Hl.out⟩
def inK (kl : List Int) (k : Int) : Bool := decide (k < 7) || kl.any (fun z => k == z)
set_option maxRecDepth 100000 in
set_option maxHeartbeats 8000000 in
theorem playsR_calls {w : World} {v : Value} {L : List OpM} {kb : Nat} {kl : List Int} (h : ScrIn w v L) (hL : L.length ≤ maxLen) (hop : ∀ o ∈ L, inK kl o.k = true → RunOp o) (hk : w.heap[kb]? = some (.cells (kl.map encZ).toArray 3 (0, 0))) (hkl : kl.length ≤ 10) (hg : Handle w) (h0 : 0 < w.heap.size) :
    Calls Tryz.prog 35 #[v, .slice (some ⟨kb, 0, none⟩) kl.length kl.length] w fun e w' => e = .returned (.bool true) ∧ Low w.heap.size w w' := by
  have HSm := Lib.hid (small_calls h hL)
  obtain ⟨a, c, rfl⟩ := h.shape
  have H := Lib.hid h
  have Hop := Lib.hid hop
  have Hk := Lib.hid hk
  have Hkl := Lib.hid hkl
  have Hg := Lib.hid hg
  have H0 := Lib.hid h0
  obtain ⟨i0, hi, hz0, hz1, hz2⟩ := info_parts Tryz.info112
  clear h hop hk hkl hg h0 hL
  go_enter Tryz.func35, Tryz.ntmps35
  go_upto_region 2 with (first
    | (go_at_call 36; refine Calls.mono HSm.out ?_; rintro e w1 ⟨b, rfl, hf1, hb⟩)
    | fail)
  have Hf1 := Lib.hid hf1
  cases b
  · go_wp2_with fail
    go_ret
    exact ⟨rfl, Hf1.out.low (Nat.le_refl _) (fun _ f => f.elim)⟩
  have hL := hb rfl
  have HL := Lib.hid hL
  clear hb hf1 HSm hL
  go_wp2_with fail
  go_loopw [6, 7] (fun lv i wr => ∃ k : Nat, k ≤ L.length ∧ i = .int .i64 k ∧ wr.ownsRow w.heap.size 112 6 lv ((L.take k).filter (fun o => inK kl o.k)).length (opCells ((L.take k).filter (fun o => inK kl o.k))) ∧ New w wr) (fun _ i _ => L.length - (intOf i).toNat)
  case atStart => exact ⟨0, Nat.zero_le _, rfl, World.ownsRow_nil _ _ _ _, Hf1.out⟩
  case round =>
    obtain ⟨k, hkl, rfl, hown, hf⟩ := hrel
    have Hown := Lib.hid hown
    have Hf := Lib.hid hf
    clear hown hf
    by_cases hlt : k < L.length
    · obtain ⟨o, ho⟩ : ∃ o, L[k]? = some o := ⟨L[k], List.getElem?_eq_getElem hlt⟩
      obtain ⟨b, off, rfl, c0, c1, c2, c3, c4, c5⟩ := (H.out.low (Hf.out.low (Nat.le_refl _) (fun _ f => f.elim))).at k o ho
      have hkI : (k : Int) < L.length := by omega
      have hk0 : (0 : Int) ≤ k := by omega
      have Hlt := Lib.hid hlt
      have htk : L.take (k + 1) = L.take k ++ [o] := by
        rw [List.take_succ_eq_append_getElem hlt]
        congr 2
        rw [List.getElem?_eq_getElem hlt] at ho; exact Option.some.inj ho
      have hfl : (L.take (k + 1)).filter (fun o => inK kl o.k) = (L.take k).filter (fun o => inK kl o.k) ++ (if inK kl o.k then [o] else []) := by
        rw [htk, List.filter_append]
        congr 1
        by_cases hq : inK kl o.k = true <;> simp [hq]
      have Hfl := Lib.hid hfl
      have hkc := Hf.out.get Hk.out (fun f => f)
      have Hkc := Lib.hid hkc
      have hll : ((L.take k).filter (fun o => inK kl o.k)).length ≤ k := Nat.le_trans (List.length_filter_le _ _) (by rw [List.length_take]; omega)
      have Hll := Lib.hid hll
      clear htk hfl hkc hll ho
      generalize (L.take k).filter (fun o => inK kl o.k) = F at Hown Hfl Hll
      obtain ⟨fa, fn, fc, hfv⟩ := own_slice Hown.out
      subst hfv
      have hk16 : k ≤ 16384 := by have := HL.out; omega
      go_upto_region 10 with fail
      have Hc : Hid (wr.cell? ⟨b, off + k * 6, none⟩ = some (.int .i64 o.k) ∧ wr.cell? ⟨b, off + k * 6 + 1, none⟩ = some (.int .i64 o.x) ∧ wr.cell? ⟨b, off + k * 6 + 2, none⟩ = some (.int .i64 o.a) ∧ wr.cell? ⟨b, off + k * 6 + 3, none⟩ = some (.int .i64 o.b) ∧ wr.cell? ⟨b, off + k * 6 + 4, none⟩ = some (.string o.s) ∧ wr.cell? ⟨b, off + k * 6 + 5, none⟩ = some (.string o.t)) := ⟨c0, c1, c2, c3, c4, c5⟩
      clear c0 c1 c2 c3 c4 c5
      go_wp2_with fail
      go_loopw [9, 10] (fun bv jv w2 => ∃ j : Nat, j ≤ kl.length ∧ jv = .int .i64 j ∧ bv = .bool (inK (kl.take j) o.k) ∧ w2 = wr) (fun _ jv _ => kl.length - (intOf jv).toNat)
      case atStart => exact ⟨0, Nat.zero_le _, rfl, by simp [inK], rfl⟩
      case round =>
        obtain ⟨j, hj, rfl, rfl, rfl⟩ := hrel
        have hkl10 : kl.length ≤ 10 := Hkl.out
        by_cases hjl : j < kl.length
        · obtain ⟨z, hz⟩ : ∃ z, kl[j]? = some z := ⟨kl[j], List.getElem?_eq_getElem hjl⟩
          have hzc : wr.cell? ⟨kb, j, none⟩ = some (.int .i64 z) := by
            rw [cellv, Hkc.out, cellOf_cells]
            rw [List.getElem?_toArray, List.getElem?_map, hz]; rfl
          have hjI : (j : Int) < kl.length := by omega
          have hj0 : (0 : Int) ≤ j := by omega
          have htz : kl.take (j + 1) = kl.take j ++ [z] := by
            rw [List.take_succ_eq_append_getElem hjl]
            congr 2
            rw [List.getElem?_eq_getElem hjl] at hz; exact Option.some.inj hz
          have hin : inK (kl.take (j + 1)) o.k = (inK (kl.take j) o.k || (o.k == z)) := by
            unfold inK
            rw [htz, List.any_append]
            simp [Bool.or_assoc]
          have Hin := Lib.hid hin
          have Hjl := Lib.hid hjl
          clear hin htz hz hjl hj
          generalize inK (kl.take j) o.k = bb at Hin ⊢
          cases bb
          · cases hzz : (o.k == z)
            · have Hzz := Lib.hid hzz
              go_wp2_with fail
              go_roundw
              case rel => exact ⟨j + 1, Hjl.out, by go_num, by rw [Hin.out, Hzz.out]; rfl, trivial⟩
              case measure => have := Hjl.out; simp [intOf]; omega
            · have Hzz := Lib.hid hzz
              go_wp2_with fail
              go_roundw
              case rel => exact ⟨j + 1, Hjl.out, by go_num, by rw [Hin.out, Hzz.out]; rfl, trivial⟩
              case measure => have := Hjl.out; simp [intOf]; omega
          · go_wp2_with fail
            go_roundw
            case rel => exact ⟨j + 1, Hjl.out, by go_num, by rw [Hin.out]; rfl, trivial⟩
            case measure => have := Hjl.out; simp [intOf]; omega
        · obtain rfl : j = kl.length := by omega
          have hjI : ¬ ((kl.length : Int) < kl.length) := by omega
          rw [List.take_length]
          cases hkk : inK kl o.k
          · rw [hkk] at Hfl
            have Hkk := Lib.hid hkk
            clear hkk
            go_wp2_with fail
            go_roundw
            case rel =>
              refine ⟨k + 1, Hlt.out, by go_num, ?_, Hf.out⟩
              have h2 := Hfl.out
              rw [if_neg (by decide), List.append_nil] at h2
              rw [h2]; exact Hown.out
            case measure => have := Hlt.out; simp [intOf]; omega
          · rw [hkk, if_pos rfl] at Hfl
            have Hkk := Lib.hid hkk
            obtain ⟨c0, c1, c2, c3, c4, c5⟩ := Hc.out
            have hoA := Lib.hid (Hown.out.alloc (.cells #[.int .i64 o.k, .int .i64 o.x, .int .i64 o.a, .int .i64 o.b, .string o.s, .string o.t] 112))
            have hnews : ∀ (j : Nat) (u : Value), [Value.int .i64 o.k, Value.int .i64 o.x, Value.int .i64 o.a, Value.int .i64 o.b, Value.string o.s, Value.string o.t][j]? = some u → (wr.alloc (.cells #[.int .i64 o.k, .int .i64 o.x, .int .i64 o.a, .int .i64 o.b, .string o.s, .string o.t] 112)).cell? ((⟨wr.heap.size, 0, none⟩ : Addr).add j) = some u := World.news_of_block (heap_alloc_new wr _)
            have Hnews := Lib.hid hnews
            have hoc : o.cells.toList = [Value.int .i64 o.k, Value.int .i64 o.x, Value.int .i64 o.a, Value.int .i64 o.b, Value.string o.s, Value.string o.t] := rfl
            have Hoc := Lib.hid hoc
            clear hnews hkk hoc
            go_wp2_with (first
              | (at_builtin; refine wpList_append_own _ rfl _ _ 69 rfl w.heap.size 112 i0 (.agg #[.int .i64 0, .int .i64 0, .int .i64 0, .int .i64 0, .string ⟨#[]⟩, .string ⟨#[]⟩]) 6 64 Tryz.underlying69 hi hz0 hz1 hz2 rfl (by decide) _ _ _ rfl hoA.out ⟨wr.heap.size, 0, none⟩ 1 1 [Value.int .i64 o.k, Value.int .i64 o.x, Value.int .i64 o.a, Value.int .i64 o.b, Value.string o.s, Value.string o.t] rfl rfl Hnews.out (by intro u hu; simp at hu; rcases hu with rfl | rfl | rfl | rfl | rfl | rfl <;> rfl) (by have := HL.out; have := Hll.out; have := Hlt.out; unfold maxLen; omega) (by have := HL.out; have := Hll.out; have := Hlt.out; omega) (by have := Hf.out.size; simp; omega) ?_; intro sv' w3 hown3 hg3 _; go_frame)
              | fail)
            go_roundw
            case rel =>
              refine ⟨k + 1, Hlt.out, by go_num, ?_, ?_⟩
              · rw [Hfl.out, List.length_append, opCells_snoc, Hoc.out]
                exact hown3
              · exact (Hf.out.alloc _).trans' (Fr.ofGrown hg3) (fun i hi e => by have := (Hown.out.lt i e).1; omega)
            case measure => have := Hlt.out; simp [intOf]; omega
    · obtain rfl : k = L.length := by omega
      have hkI : ¬ ((L.length : Int) < L.length) := by omega
      rw [List.take_length] at Hown
      have hU := upToR_calls (L := L.filter (fun o => inK kl o.k)) (scr_own Hown.out) (Nat.le_trans (List.length_filter_le _ _) HL.out) (fun o ho => by
        obtain ⟨h1, h2⟩ := List.mem_filter.1 ho
        exact Hop.out o h1 h2) (Hg.out.new Hf.out) (Nat.lt_of_lt_of_le H0.out Hf.out.size)
      have HU := Lib.hid hU
      clear hU
      go_wp2_with (first
        | (go_at_call 37; refine Calls.mono HU.out ?_; rintro e w3 ⟨rfl, hl3⟩)
        | fail)
      go_ret
      exact ⟨rfl, (Hf.out.low (Nat.le_refl _) (fun _ f => f.elim)).trans (hl3.le Hf.out.size)⟩
end Go.Proofs.YtkafmfdipmhleaaGreatDoor
