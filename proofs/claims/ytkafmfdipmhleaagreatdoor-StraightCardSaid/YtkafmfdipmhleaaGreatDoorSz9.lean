/-
  What is proved: an engine, failed or not, its disk and partner, call by call, whatever the disk tells. the engines of Again, and the journal that survives. (No program in sight.) the engine that Straight begins with; its slices: what survives, and what was told. what Straight does in a round: its checks, its Submits, its Ticks. the contract of Straight: it returns true, and leaves what was there as it was.
-/
import Derived.Test.YtkafmfdipmhleaaGreatDoorSz8
import Derived.BigQuiet

namespace Go.Proofs.YtkafmfdipmhleaaGreatDoor
open Go.RowKit Go.Maps

set_option maxRecDepth 100000 in
set_option maxHeartbeats 2000000 in
theorem Submit_failed {w : World} {q : Pl} {s : StM} {d : DiskM} {id : Int} {sa : Option Addr} {sn sc : Nat} (h : FailAt w q s d) :
    Calls Tryz.prog 18 #[.pointer (some ⟨q.xb, 0, none⟩), .int .i64 id, .slice sa sn sc] w fun e w' => (∃ x, e = .returned x) ∧ New w w' := by
  have hx := h.1
  simp only [egCells] at hx
  clear h
  have hcv := cellv w
  go_enter Tryz.func18, Tryz.ntmps18
  go_wp2_with (first
    | (go_at_call 40; refine Calls.mono (fail_calls w _ _) ?_; rintro e w3 ⟨v, rfl, hv3, hf3⟩)
    | fail)
  go_ret
  exact ⟨⟨_, rfl⟩, hf3⟩
set_option maxRecDepth 100000 in
set_option maxHeartbeats 2000000 in
theorem Tick_failed {w : World} {q : Pl} {s : StM} {d : DiskM} (h : FailAt w q s d) :
    Calls Tryz.prog 20 #[.pointer (some ⟨q.xb, 0, none⟩)] w fun e w' => (∃ x, e = .returned x) ∧ New w w' := by
  have hx := h.1
  simp only [egCells] at hx
  clear h
  have hcv := cellv w
  go_enter Tryz.func20, Tryz.ntmps20
  go_wp2_with (first
    | (go_at_call 40; refine Calls.mono (fail_calls w _ _) ?_; rintro e w3 ⟨v, rfl, hv3, hf3⟩)
    | fail)
  go_ret
  exact ⟨⟨_, rfl⟩, hf3⟩
set_option maxRecDepth 100000 in
set_option maxHeartbeats 2000000 in
/-- No saga of this number is there. -/
theorem Status_none {w : World} {q : Pl} {bl : List Nat} {s : StM} {id : Int} (hs : StAt w q bl s) (hid : 1 ≤ id ∧ id ≤ 1000) (hn : ∀ x ∈ s.sagas, x.id ≠ id) :
    Calls Tryz.prog 21 #[.pointer (some ⟨q.xb, 0, none⟩), .int .i64 id] w fun e w' => (∃ nb, e = .returned (.tuple #[.agg #[.int .i64 0, .int .i64 0, .int .i64 0, .int .i64 0, .int .i64 0, .int .i64 0], .iface 121 (.pointer (some ⟨nb, 0, none⟩))])) ∧ New w w' := by
  have hN : New w (w.alloc (.cells #[.int .i64 0, .int .i64 0, .int .i64 0, .int .i64 0, .int .i64 0, .int .i64 0] 38)) := (Fr.refl _ w).alloc _
  have hs1 := hs.keepK (hN.toK (K := []) (fun _ _ f _ => f.elim)) (by simp)
  have hlk := look_none hs1.mp id (by omega) (il_none s.sagas bl id hn)
  have hx := hs1.eng
  have hr := heap_alloc_new w (.cells #[.int .i64 0, .int .i64 0, .int .i64 0, .int .i64 0, .int .i64 0, .int .i64 0] 38)
  have HN := Lib.hid hN
  have Hr := Lib.hid hr
  have hlt : w.heap.size < (w.alloc (.cells #[.int .i64 0, .int .i64 0, .int .i64 0, .int .i64 0, .int .i64 0, .int .i64 0] 38)).heap.size := lt_of_hp hr
  have Hlt := Lib.hid hlt
  simp only [egCells] at hx
  clear hs hid hn hN hs1 hlt
  go_enter Tryz.func21, Tryz.ntmps21
  go_upto_region 1 with fail
  generalize w.alloc (.cells #[.int .i64 0, .int .i64 0, .int .i64 0, .int .i64 0, .int .i64 0, .int .i64 0] 38) = w1 at HN Hr Hlt hlk hx hr ⊢
  have hcv := cellv w1
  have hfv := frozv w1
  go_wp2_with (first
    | (go_at_call 40; refine Calls.mono (fail_calls _ _ _) ?_; rintro e w3 ⟨v, rfl, ⟨fb, hfb, rfl, hfb2⟩, hf3⟩; have hr3 := hf3.get Hr.out (fun f => f); have hcv3 := cellv w3; have hfv3 := frozv w3)
    | fail)
  refine bodyPost_ret (results_row_tmp rfl _ _ w.heap.size 38 #[.int .i64 0, .int .i64 0, .int .i64 0, .int .i64 0, .int .i64 0, .int .i64 0] (0, 0) _ rfl (by
    simp only [hp_setCell, if_true, hr3]; rfl) Tryz.underlying38 rfl Tryz.info38s) rfl ?_
  exact ⟨⟨fb, rfl⟩, (HN.out.trans hf3).trans' ((((((Fr.one w.heap.size w3 0 _).trans (Fr.one w.heap.size _ 1 _)).trans (Fr.one w.heap.size _ 2 _)).trans (Fr.one w.heap.size _ 3 _)).trans (Fr.one w.heap.size _ 4 _)).trans (Fr.one w.heap.size _ 5 _)) (fun i hi e => by omega)⟩
set_option maxRecDepth 100000 in
set_option maxHeartbeats 2000000 in
theorem Submit_there0 {w : World} {q : Pl} {bl : List Nat} {s : StM} {i : Nat} {g : SagaM} {l : List (ByteArray × ByteArray)} {v : Value} (hs : StAt w q bl s) (hi : s.inv0) (hg : s.sagas[i]? = some g) (hv : StepsAt w v l) (hw : wholeB g.id l = true) :
    Calls Tryz.prog 18 #[.pointer (some ⟨q.xb, 0, none⟩), .int .i64 g.id, v] w fun e w' => New w w' ∧ (if l = g.steps then e = .returned .nilIface else ∃ x, e = .returned x ∧ FaultAt w w' subStr 2 x) := by
  have hws := whole_small hw
  obtain ⟨b, hb, hbo⟩ := blk_of s.sagas bl hs.len hi.ord i g hg
  have hgok := hi.ok g (List.mem_of_getElem? hg)
  obtain ⟨sa, sn, sc, rfl⟩ := hv.shape
  have HW := Lib.hid (Whole_calls w g.id l _ (.inr hv) (by have := hws.2.2.2.1; omega))
  rw [hw] at HW
  have HS := Lib.hid (fun (w2 : World) (hf : New w w2) => Same_calls ((hs.keepK (hf.toK (K := []) (fun _ _ f _ => f.elim)) (by simp)).sg i g b hg hb) l _ (hv.frame hf (fun _ f => f.elim)) (by have := hws.2.2.2.1; omega) (by have := hgok.2.2.1.2.1; omega))
  have HL := Lib.hid (fun (w2 : World) (hf : New w w2) => look_some (hs.keepK (hf.toK (K := []) (fun _ _ f _ => f.elim)) (by simp)).mp g.id (by omega) hbo)
  have Hx := Lib.hid hs.eng
  have hx := hs.eng
  simp only [egCells] at hx
  clear hs hi hg hv hw hb hbo hgok hws
  have hcv := cellv w
  go_enter Tryz.func18, Tryz.ntmps18
  go_upto_region 5 with (first
    | (go_at_call 41; refine Calls.mono HW.out ?_; rintro e w2 ⟨rfl, hf2⟩)
    | fail)
  have hx2 := hf2.get Hx.out (fun f => f)
  have hlk := HL.out w2 hf2
  have HS2 := Lib.hid (HS.out w2 hf2)
  have Hf2 := Lib.hid hf2
  simp only [egCells] at hx2
  clear hcv hx hf2
  have hcv := cellv w2
  by_cases he : l = g.steps
  · rw [decide_eq_true he] at HS2
    have He := Lib.hid he
    clear he
    go_wp2_with (first
      | (go_at_call 42; refine Calls.mono HS2.out ?_; rintro e w3 ⟨rfl, n3, rfl⟩)
      | fail)
    go_ret
    exact ⟨Hf2.out.drewN n3, rfl⟩
  · rw [decide_eq_false he] at HS2
    have He := Lib.hid he
    clear he
    go_wp2_with (first
      | (go_at_call 42; refine Calls.mono HS2.out ?_; rintro e w3 ⟨rfl, n3, rfl⟩)
      | (go_at_call 40; refine Calls.mono (fail_calls (w2.drewN n3) subStr 2) ?_; rintro e w4 ⟨v, rfl, hv4, hf4⟩)
      | fail)
    go_ret
    obtain ⟨fb, h1, h2, h3⟩ := hv4
    exact ⟨(Hf2.out.drewN n3).trans hf4, v, rfl, fb, Nat.le_trans Hf2.out.size h1, h2, h3⟩
/-- What an engine turns. -/
abbrev KB : List Nat := [0, 103, 104, 108, 133, 80, 89, 45, 47, 49]
theorem new_KB {w w' : World} (h : New w w') : FrK KB w w' := h.toK (fun _ _ f _ => f.elim)
theorem disk_KB {w w' : World} {db bb : Nat} {d : DiskM} (h : DiskAt w db bb d) (hf : Fr (· = db) w w') : FrK KB w w' := (disk_toK h hf).mono (by decide)
/-- An engine, failed or not. -/
def Eng (n : Int → Nat) (last : Int → Int) (m : Nat) (b : Bool) (lo : Nat) (w : World) (q : Pl) : Prop :=
  (∃ bl s e0 e1, StAt w q bl s ∧ Alv n last m b lo s e0 e1) ∨
  (∃ s d e0 e1, FailAt w q s d ∧ Liv n last m b lo d s.p e0 e1 ∧ lo ≤ q.xb ∧ lo ≤ q.db ∧ lo ≤ q.bb)
theorem Eng.size {n : Int → Nat} {last : Int → Int} {m : Nat} {b : Bool} {lo : Nat} {w : World} {q : Pl} (h : Eng n last m b lo w q) : lo ≤ w.heap.size := by
  rcases h with ⟨bl, s, e0, e1, h1, h2⟩ | ⟨s, d, e0, e1, h1, h2, h3, _⟩
  · rw [← h2.liv.lo]; exact h1.size
  · have := lt_of_hp h1.1; omega
theorem FailAt.new {w w' : World} {q : Pl} {s : StM} {d : DiskM} (h : FailAt w q s d) (hf : New w w') : FailAt w' q s d :=
  ⟨hf.get h.1 (fun f => f), h.2.1.new hf, h.2.2.keep hf.size (fun _ _ ho _ => hf.get ho (fun f => f))⟩
theorem Eng.new {n : Int → Nat} {last : Int → Int} {m : Nat} {b : Bool} {lo : Nat} {w w' : World} {q : Pl} (h : Eng n last m b lo w q) (hf : New w w') : Eng n last m b lo w' q := by
  rcases h with ⟨bl, s, e0, e1, h1, h2⟩ | ⟨s, d, e0, e1, h1, h2, h3⟩
  · exact .inl ⟨bl, s, e0, e1, h1.keepK (hf.toK (K := []) (fun _ _ f _ => f.elim)) (by simp), h2⟩
  · exact .inr ⟨s, d, e0, e1, h1.new hf, h2, h3⟩
theorem Eng.less {n : Int → Nat} {last : Int → Int} {m k : Nat} {b : Bool} {lo : Nat} {w : World} {q : Pl} (h : Eng n last m b lo w q) (hk : k ≤ m) : Eng n last k b lo w q := by
  rcases h with ⟨bl, s, e0, e1, h1, h2⟩ | ⟨s, d, e0, e1, h1, h2, h3⟩
  · exact .inl ⟨bl, s, e0, e1, h1, h2.less hk⟩
  · exact .inr ⟨s, d, e0, e1, h1, h2.less hk, h3⟩
theorem Eng.move {n : Int → Nat} {last : Int → Int} {m : Nat} {b : Bool} {lo : Nat} {w w' : World} {q : Pl} (h : Eng n last m b lo w q) (hf : New w w') : Eng n last m b lo w' q ∧ FrK KB w w' ∧ Low lo w w' :=
  ⟨h.new hf, new_KB hf, hf.low h.size (fun _ f => f.elim)⟩
/-- A Submit. -/
theorem sub_eng {n : Int → Nat} {last : Int → Int} {m : Nat} {b : Bool} {lo : Nat} {w : World} {q : Pl} {id : Int} {v : Value} (h : Eng n last (m + 1) b lo w q) (hg : Handle w) (hlo : 0 < lo) (hid : 1 ≤ id ∧ id ≤ 3) (hn : 1 ≤ n id ∧ n id ≤ 6) (hv : StepsAt w v (kSteps id (n id))) :
    Calls Tryz.prog 18 #[.pointer (some ⟨q.xb, 0, none⟩), .int .i64 id, v] w fun e w' => (∃ x, e = .returned x) ∧ Eng n last m b lo w' q ∧ FrK KB w w' ∧ Low lo w w' := by
  have hw := kSteps_whole id (n id) (by omega) hn
  have hsz := h.size
  rcases h with ⟨bl, s, e0, e1, h1, h2⟩ | ⟨s, d, e0, e1, h1, h2, h3⟩
  · by_cases hx : ∀ x ∈ s.sagas, x.id ≠ id
    · have hlo' : 0 < s.p.lo := by rw [h2.liv.lo]; exact hlo
      refine Calls.mono (Submit_gen h1 h2.inv hg hlo' hv hw hx ?_) ?_
      · rw [kSteps_len, h2.liv.len, h2.js.en, ← leftSum_core h2.js.core]
        have h3 := h2.liv.g1.ev
        unfold folded at h3
        omega
      · obtain ⟨f0, f1, g1, g2⟩ := submitG_law h2 hid hn hx
        have hl := h1.lo
        rw [h2.liv.lo] at hl
        rintro e w' ⟨hk, hlow, ⟨hok, rfl, bl', hs'⟩ | ⟨hok, ⟨op, nb, hnb, rfl, hnw⟩, hfa⟩⟩
        · rw [h2.liv.lo] at hlow
          exact ⟨⟨_, rfl⟩, .inl ⟨bl', _, f0, f1, hs', g2 hok⟩, hk.mono (by decide), hlow⟩
        · rw [h2.liv.lo] at hlow
          exact ⟨⟨_, rfl⟩, .inr ⟨s, _, f0, f1, hfa, g1, hl.1, hl.2.2.2.1, hl.2.2.2.2.1⟩, hk.mono (by decide), hlow⟩
    · obtain ⟨g, hgm, hgi⟩ : ∃ g ∈ s.sagas, g.id = id := by
        apply Classical.byContradiction
        intro hc
        exact hx (fun x hm he => hc ⟨x, hm, he⟩)
      obtain ⟨i, hi⟩ := List.getElem?_of_mem hgm
      subst hgi
      refine Calls.mono (Submit_there0 h1 h2.inv hi hv hw) ?_
      rintro e w' ⟨hf, he⟩
      have hE : Eng n last m b lo w q := .inl ⟨bl, s, e0, e1, h1, h2.less (by omega)⟩
      refine ⟨?_, hE.move hf⟩
      split at he
      · exact ⟨_, he⟩
      · obtain ⟨x, he, _⟩ := he
        exact ⟨x, he⟩
  · obtain ⟨sa, sn, sc, rfl⟩ := hv.shape
    refine Calls.mono (Submit_failed h1) ?_
    rintro e w' ⟨hx, hf⟩
    have hE : Eng n last m b lo w q := .inr ⟨s, d, e0, e1, h1, h2.less (by omega), h3⟩
    exact ⟨hx, hE.move hf⟩
/-- A Tick. -/
theorem tick_eng {n : Int → Nat} {last : Int → Int} {m : Nat} {b : Bool} {lo : Nat} {w : World} {q : Pl} (h : Eng n last (m + 4) b lo w q) (hg : Handle w) (hlo : 0 < lo) :
    Calls Tryz.prog 20 #[.pointer (some ⟨q.xb, 0, none⟩)] w fun e w' => (∃ x, e = .returned x) ∧ Eng n last m b lo w' q ∧ FrK KB w w' ∧ Low lo w w' := by
  have hsz := h.size
  rcases h with ⟨bl, s, e0, e1, h1, h2⟩ | ⟨s, d, e0, e1, h1, h2, h3⟩
  · have hlo' : 0 < s.p.lo := by rw [h2.liv.lo]; exact hlo
    have hc := h2.count
    have hck := h2.clk
    have hl := h1.lo
    rw [h2.liv.lo] at hl
    refine Calls.mono (Tick_gen (m := m) h1 h2.inv h2.room ((h2.less (k := m + s.sagas.length) (by omega)).fine) (by omega) hg hlo') ?_
    obtain ⟨f0, f1, g1, g2⟩ := tickG_law h2
    rintro e w' ⟨hk, hlow, ⟨hok, rfl, hs'⟩ | ⟨hok, ⟨nb, rfl⟩, hfa⟩⟩
    · rw [h2.liv.lo] at hlow
      exact ⟨⟨_, rfl⟩, .inl ⟨bl, _, f0, f1, hs', g2 hok⟩, hk.mono (by decide), hlow⟩
    · rw [h2.liv.lo] at hlow
      exact ⟨⟨_, rfl⟩, .inr ⟨_, _, f0, f1, hfa, g1, hl.1, hl.2.2.2.1, hl.2.2.2.2.1⟩, hk.mono (by decide), hlow⟩
  · refine Calls.mono (Tick_failed h1) ?_
    rintro e w' ⟨hx, hf⟩
    have hE : Eng n last m b lo w q := .inr ⟨s, d, e0, e1, h1, h2.less (by omega), h3⟩
    exact ⟨hx, hE.move hf⟩
/-- The disk and the partner of an engine. -/
def DP (n : Int → Nat) (last : Int → Int) (m : Nat) (b qt : Bool) (lo : Nat) (w : World) (db bb pb : Nat) : Prop :=
  ∃ d p e0 e1, DiskAt w db bb d ∧ PAt w pb p ∧ Liv n last m b lo d p e0 e1 ∧ (lo ≤ db ∧ lo ≤ bb) ∧ (qt = true → d.quiet)
theorem Eng.dp {n : Int → Nat} {last : Int → Int} {m : Nat} {b : Bool} {lo : Nat} {w : World} {q : Pl} (h : Eng n last m b lo w q) : DP n last m b false lo w q.db q.bb q.pb := by
  rcases h with ⟨bl, s, e0, e1, h1, h2⟩ | ⟨s, d, e0, e1, h1, h2, h3, h4, h5⟩
  · have hl := h1.lo
    rw [h2.liv.lo] at hl
    exact ⟨s.d, s.p, e0, e1, h1.dk, h1.pt, h2.liv, ⟨hl.2.2.2.1, hl.2.2.2.2.1⟩, fun h => by (cases h)⟩
  · exact ⟨d, s.p, e0, e1, h1.2.1, h1.2.2, h2, ⟨h4, h5⟩, fun h => by (cases h)⟩
/-- The engine's disk is told otherwise. -/
theorem Eng.disk {n : Int → Nat} {last : Int → Int} {m : Nat} {b c : Bool} {lo : Nat} {w w' : World} {q : Pl} (h : Eng n last m b lo w q) (f : DiskM → DiskM) (hf : Fr (· = q.db) w w') (hd : ∀ d, DiskAt w q.db q.bb d → DiskAt w' q.db q.bb (f d)) (h1 : ∀ d, (f d).blocks = d.blocks ∧ (f d).pend = d.pend ∧ (f d).calls = d.calls) (h2 : ∀ d, c = true → b = true ∧ (f d).off = d.off) :
    Eng n last m c lo w' q ∧ FrK KB w w' ∧ Low lo w w' := by
  have hsz := h.size
  rcases h with ⟨bl, s, e0, e1, g1, g2⟩ | ⟨s, d, e0, e1, g1, g2, g3⟩
  · have hl := g1.lo
    rw [g2.liv.lo] at hl
    obtain ⟨b1, b2, b3⟩ := h1 s.d
    have hL : Liv n last m c lo (f s.d) s.p e0 e1 := g2.liv.same b1 b2 b3 (fun hc => by obtain ⟨hb, ho⟩ := h2 s.d hc; rw [ho]; exact g2.liv.off hb)
    refine ⟨.inl ⟨bl, { s with d := f s.d }, e0, e1, g1.disk hf (hd _ g1.dk), ⟨hL.dj, g2.js.ep, g2.js.en, g2.js.core⟩, ⟨?_, g2.inv.epoch, g2.inv.ok, g2.inv.ord, ?_⟩, ?_, g2.tries, g2.clk, hL⟩, disk_KB g1.dk hf, hf.low hsz (by rintro k rfl; exact hl.2.2.2.1)⟩
    · intro hfr; show (f s.d).pend = none; rw [b2]; exact g2.inv.pend hfr
    · show (f s.d).blocks.length ≤ 1000; rw [b1]; exact g2.inv.size
    · show (s.j.en : Int) + leftSum s.sagas ≤ (f s.d).blocks.length; rw [b1]; exact g2.room
  · obtain ⟨b1, b2, b3⟩ := h1 d
    have hk := disk_toK g1.2.1 hf
    refine ⟨.inr ⟨s, f d, e0, e1, ⟨hk.block _ _ g1.1 (by simp [kindOf]), hd _ g1.2.1, g1.2.2.keepK hk (by decide) (by decide) (by decide) (by decide)⟩, g2.same b1 b2 b3 (fun hc => by obtain ⟨hb, ho⟩ := h2 d hc; rw [ho]; exact g2.off hb), g3⟩, disk_KB g1.2.1 hf, hf.low hsz (by rintro k rfl; exact g3.2.1)⟩
theorem Eng.dk {n : Int → Nat} {last : Int → Int} {m : Nat} {b : Bool} {lo : Nat} {w : World} {q : Pl} (h : Eng n last m b lo w q) : ∃ d, DiskAt w q.db q.bb d := by
  obtain ⟨d, _, _, _, h, _⟩ := h.dp
  exact ⟨d, h⟩
theorem off_calls_all {w : World} {db bb : Nat} {d0 : DiskM} (h0 : DiskAt w db bb d0) (a : Int) :
    Calls Tryz.prog 27 #[.pointer (some ⟨db, 0, none⟩), .int .i64 a] w fun e w' => e = .returned (.tuple #[]) ∧ Fr (· = db) w w' ∧ DiskAt w' db bb (d0.cut a) := Off_calls h0 a
/-- An engine whose disk is known. -/
theorem eng_cases {n : Int → Nat} {last : Int → Int} {m : Nat} {b : Bool} {lo : Nat} {w : World} {q : Pl} (h : Eng n last m b lo w q) : ∃ d, DiskAt w q.db q.bb d ∧ ∀ (c : Bool) (d' : DiskM) (w' : World), Fr (· = q.db) w w' → DiskAt w' q.db q.bb d' → d'.blocks = d.blocks → d'.pend = d.pend → d'.calls = d.calls → (c = true → b = true ∧ d'.off = d.off) → Eng n last m c lo w' q ∧ FrK KB w w' ∧ Low lo w w' := by
  have hsz := h.size
  rcases h with ⟨bl, s, e0, e1, g1, g2⟩ | ⟨s, d, e0, e1, g1, g2, g3⟩
  · have hl := g1.lo
    rw [g2.liv.lo] at hl
    refine ⟨s.d, g1.dk, fun c d' w' hf hd b1 b2 b3 h2 => ?_⟩
    have hL : Liv n last m c lo d' s.p e0 e1 := g2.liv.same b1 b2 b3 (fun hc => by obtain ⟨hb, ho⟩ := h2 hc; rw [ho]; exact g2.liv.off hb)
    refine ⟨.inl ⟨bl, { s with d := d' }, e0, e1, g1.disk hf hd, ⟨hL.dj, g2.js.ep, g2.js.en, g2.js.core⟩, ⟨?_, g2.inv.epoch, g2.inv.ok, g2.inv.ord, ?_⟩, ?_, g2.tries, g2.clk, hL⟩, disk_KB g1.dk hf, hf.low hsz (by rintro k rfl; exact hl.2.2.2.1)⟩
    · intro hfr; show d'.pend = none; rw [b2]; exact g2.inv.pend hfr
    · show d'.blocks.length ≤ 1000; rw [b1]; exact g2.inv.size
    · show (s.j.en : Int) + leftSum s.sagas ≤ d'.blocks.length; rw [b1]; exact g2.room
  · refine ⟨d, g1.2.1, fun c d' w' hf hd b1 b2 b3 h2 => ?_⟩
    have hk := disk_toK g1.2.1 hf
    exact ⟨.inr ⟨s, d', e0, e1, ⟨hk.block _ _ g1.1 (by simp [kindOf]), hd, g1.2.2.keepK hk (by decide) (by decide) (by decide) (by decide)⟩, g2.same b1 b2 b3 (fun hc => by obtain ⟨hb, ho⟩ := h2 hc; rw [ho]; exact g2.off hb), g3⟩, disk_KB g1.2.1 hf, hf.low hsz (by rintro k rfl; exact g3.2.1)⟩
/-- Off. -/
theorem off_eng {n : Int → Nat} {last : Int → Int} {m : Nat} {b : Bool} {lo : Nat} {w : World} {q : Pl} (h : Eng n last m b lo w q) (a : Int) :
    Calls Tryz.prog 27 #[.pointer (some ⟨q.db, 0, none⟩), .int .i64 a] w fun e w' => e = .returned (.tuple #[]) ∧ Eng n last m false lo w' q ∧ FrK KB w w' ∧ Low lo w w' := by
  obtain ⟨d, hd, hE⟩ := eng_cases h
  refine Calls.mono (Off_calls hd a) ?_
  rintro e w' ⟨rfl, hf, hd'⟩
  exact ⟨rfl, hE false _ w' hf hd' rfl rfl rfl (fun h => by (cases h))⟩
/-- Bad. -/
theorem bad_eng {n : Int → Nat} {last : Int → Int} {m : Nat} {b : Bool} {lo : Nat} {w : World} {q : Pl} (h : Eng n last m b lo w q) (a k : Int) :
    Calls Tryz.prog 28 #[.pointer (some ⟨q.db, 0, none⟩), .int .i64 a, .int .i64 k] w fun e w' => e = .returned (.tuple #[]) ∧ Eng n last m b lo w' q ∧ FrK KB w w' ∧ Low lo w w' := by
  obtain ⟨d, hd, hE⟩ := eng_cases h
  refine Calls.mono (Bad_calls hd a k) ?_
  rintro e w' ⟨rfl, hf, hd'⟩
  exact ⟨rfl, hE b _ w' hf hd' rfl rfl rfl (fun h => ⟨h, rfl⟩)⟩
theorem DP.size {n : Int → Nat} {last : Int → Int} {m : Nat} {b qt : Bool} {lo : Nat} {w : World} {db bb pb : Nat} (h : DP n last m b qt lo w db bb pb) : lo ≤ w.heap.size := by
  obtain ⟨d, p, e0, e1, h1, _, _, h4, _⟩ := h
  have := disk_lt h1
  omega
theorem DP.new {n : Int → Nat} {last : Int → Int} {m : Nat} {b qt : Bool} {lo : Nat} {w w' : World} {db bb pb : Nat} (h : DP n last m b qt lo w db bb pb) (hf : New w w') : DP n last m b qt lo w' db bb pb := by
  obtain ⟨d, p, e0, e1, h1, h2, h3, h4, h5⟩ := h
  exact ⟨d, p, e0, e1, h1.new hf, h2.keep hf.size (fun _ _ ho _ => hf.get ho (fun f => f)), h3, h4, h5⟩
/-- After. -/
theorem after_dp {n : Int → Nat} {last : Int → Int} {m : Nat} {b qt : Bool} {lo : Nat} {w : World} {db bb pb : Nat} {v : Value} {ks : List Int} (h : DP n last m b qt lo w db bb pb) (hm : m ≤ 10000) (hv : IntsIn w v ks) :
    Calls Tryz.prog 29 #[.pointer (some ⟨db, 0, none⟩), v] w fun e w' => ∃ eb gb, e = .returned (.pointer (some ⟨eb, 0, none⟩)) ∧ DP n last m true true lo w' eb gb pb ∧ FrK KB w w' ∧ Low lo w w' := by
  have hsz := h.size
  obtain ⟨d, p, e0, e1, h1, h2, h3, h4, h5⟩ := h
  refine Calls.mono (After_calls h1 (by rw [h3.len]; omega) hv) ?_
  rintro e w' ⟨eb, gb, heb, hgb, rfl, hd, hf⟩
  obtain ⟨ev, hL⟩ := after_law h3 hm ks
  exact ⟨eb, gb, rfl, ⟨_, p, ev, ev, hd, h2.keep hf.size (fun _ _ ho _ => hf.get ho (fun f => f)), hL, ⟨by omega, by omega⟩, fun _ => ⟨by show (-1 : Int) < 0; omega, by show (0 : Int) ≤ 0; omega⟩⟩, new_KB hf, hf.low hsz (fun _ f => f.elim)⟩
/-- Bad(0, 0): the disk tells no errors any more. -/
theorem bad_dp {n : Int → Nat} {last : Int → Int} {m : Nat} {qt : Bool} {lo : Nat} {w : World} {db bb pb : Nat} (h : DP n last m true qt lo w db bb pb) :
    Calls Tryz.prog 28 #[.pointer (some ⟨db, 0, none⟩), .int .i64 0, .int .i64 0] w fun e w' => e = .returned (.tuple #[]) ∧ DP n last m true true lo w' db bb pb ∧ FrK KB w w' ∧ Low lo w w' := by
  have hsz := h.size
  obtain ⟨d, p, e0, e1, h1, h2, h3, h4, h5⟩ := h
  refine Calls.mono (Bad_calls h1 0 0) ?_
  rintro e w' ⟨rfl, hf, hd⟩
  have hk := disk_toK h1 hf
  have hc := h3.cal
  refine ⟨rfl, ⟨_, p, e0, e1, hd, h2.keepK hk (by decide) (by decide) (by decide) (by decide), h3.same rfl rfl rfl h3.off, h4, fun _ => ⟨?_, ?_⟩⟩, disk_KB h1 hf, hf.low hsz (by rintro k rfl; exact h4.1)⟩
  · show d.off < 0
    rw [h3.off rfl]; omega
  · show wrap64 (wrap64 (d.calls + 0) + 0) ≤ wrap64 (d.calls + 0)
    have e1 : wrap64 (d.calls + 0) = d.calls + 0 := wrap_in _ (by omega)
    have e2 : wrap64 (d.calls + 0 + 0) = d.calls + 0 + 0 := wrap_in _ (by omega)
    rw [e1, e2]; omega
/-- An engine that was just opened. -/
structure Opn (n : Int → Nat) (last : Int → Int) (m : Nat) (lo : Nat) (sure : Bool) (bl : List Nat) (s : StM) (e0 e1 : List Ev) (w : World) (q : Pl) : Prop where
  st : StAt w q bl s
  al : Alv n last m true lo s e0 e1
  eq : s.sagas = folded e1
  su : sure = true → e0 = e1
theorem Opn.eng {n : Int → Nat} {last : Int → Int} {m : Nat} {lo : Nat} {sure : Bool} {bl : List Nat} {s : StM} {e0 e1 : List Ev} {w : World} {q : Pl} (h : Opn n last m lo sure bl s e0 e1 w q) : Eng n last m true lo w q := .inl ⟨bl, s, e0, e1, h.st, h.al⟩
theorem Opn.new {n : Int → Nat} {last : Int → Int} {m : Nat} {lo : Nat} {sure : Bool} {bl : List Nat} {s : StM} {e0 e1 : List Ev} {w w' : World} {q : Pl} (h : Opn n last m lo sure bl s e0 e1 w q) (hf : New w w') : Opn n last m lo sure bl s e0 e1 w' q :=
  ⟨h.st.keepK (hf.toK (K := []) (fun _ _ f _ => f.elim)) (by simp), h.al, h.eq, h.su⟩
/-- Open. -/
theorem open_dp {n : Int → Nat} {last : Int → Int} {m : Nat} {lo : Nat} {w : World} {db bb pb : Nat} (h : DP n last (m + 1) true true lo w db bb pb) (hm : m ≤ 10000) (pause : Int) (hpz : 1 ≤ pause ∧ pause ≤ 64) :
    Calls Tryz.prog 30 #[.pointer (some ⟨db, 0, none⟩), .int .i64 pause, .pointer (some ⟨pb, 0, none⟩)] w fun e w' => ∃ q bl s e0 e1, e = .returned (.tuple #[.pointer (some ⟨q.xb, 0, none⟩), .nilIface]) ∧ q.db = db ∧ q.pb = pb ∧ Opn n last m lo false bl s e0 e1 w' q ∧ FrK KB w w' ∧ Low lo w w' := by
  have hsz := h.size
  obtain ⟨d, p, e0, e1, h1, h2, h3, h4, h5⟩ := h
  obtain ⟨⟨r0, g0, gk, gep⟩, gev, gst⟩ := h3.dj.seen.stop (seen_look h1.wf) (seen_len d).symm
  have hr := h3.dj.seen.room
  have hc := h3.cal
  have hl := h3.len
  have gev' : EvsOn d r0.epoch 1 e1 := by rw [gep]; exact gev
  have gst' : JStop d r0.epoch (1 + evLen e1) := by rw [gep]; exact gst
  have hlo : p.lo ≤ db ∧ p.lo ≤ bb := by rw [h3.lo]; exact h4
  refine Calls.mono (pOpen_calls h1 h2 hlo (h5 rfl) (by omega) r0 g0 gk e1 gev' gst' h3.dj.ok (by rw [seen_len] at hr; omega) (fits_of d (by omega)) pause hpz) ?_
  rintro e w' ⟨xb, jb, mb, bl, k, rfl, hx, hk, hs, hf⟩
  rw [gep] at hs
  exact ⟨⟨xb, jb, mb, db, bb, pb⟩, bl, _, e0, e1, rfl, rfl, rfl, ⟨hs, open_law h3 hk (by omega) pause, rfl, fun h => by (cases h)⟩, disk_KB h1 hf, hf.low hsz (by rintro k rfl; exact h4.1)⟩
/-- Pending. -/
theorem pending_opn {n : Int → Nat} {last : Int → Int} {m : Nat} {lo : Nat} {sure : Bool} {bl : List Nat} {s : StM} {e0 e1 : List Ev} {w : World} {q : Pl} (h : Opn n last m lo sure bl s e0 e1 w q) :
    Calls Tryz.prog 31 #[.pointer (some ⟨q.db, 0, none⟩)] w fun e w' => e = .returned (.int .i64 s.d.pending) ∧ w = w' ∧ Opn n last m lo (decide (s.d.pending = 0)) bl s e0 e1 w q := by
  refine Calls.mono (Pending_calls h.st.dk) ?_
  rintro e w' ⟨rfl, rfl⟩
  refine ⟨rfl, rfl, h.st, h.al, h.eq, fun hp => h.al.liv.dj.clean ?_⟩
  have hp : s.d.pending = 0 := by simpa using hp
  unfold DiskM.pending at hp
  cases hd : s.d.pend with
  | none => rfl
  | some x => rw [hd] at hp; cases hp
/-- Its effects are the first of its steps, or some of them and the same taken back. -/
theorem straight_opn {n : Int → Nat} {last : Int → Int} {m : Nat} {lo : Nat} {sure : Bool} {bl : List Nat} {s : StM} {e0 e1 : List Ev} {w : World} {q : Pl} (h : Opn n last m lo sure bl s e0 e1 w q) (id : Int) (hn : n id ≤ 6) :
    Calls Tryz.prog 22 #[.pointer (some ⟨q.pb, 0, none⟩), .int .i64 id, .int .i64 (n id)] w fun e w' => e = .returned (.bool true) ∧ New w w' := by
  have hG := h.al.liv.g1
  have hp := h.al.liv.pf
  obtain ⟨K, M, hm, hK, hM, hKM⟩ : ∃ k m, mineOf s.p.effs id = fw k ++ bw k m ∧ k ≤ n id ∧ m ≤ k ∧ (m = 0 ∨ k < n id) := by
    by_cases hx : ∀ g ∈ folded e1, g.id ≠ id
    · exact ⟨0, 0, by rw [hG.none id hx]; rfl, by omega, by omega, .inl rfl⟩
    · obtain ⟨g, hgm, hgi⟩ : ∃ g ∈ folded e1, g.id = id := by
        apply Classical.byContradiction
        intro hc
        exact hx (fun x hm he => hc ⟨x, hm, he⟩)
      subst hgi
      exact agree_shape (hG.agree g hgm)
  exact straight_calls h.st.pt (by have := hp.2.1; omega) id (n id) K M hm hK hM hKM (by omega)
/-- What a Status tells. -/
theorem status_opn {n : Int → Nat} {last : Int → Int} {m : Nat} {lo : Nat} {sure : Bool} {bl : List Nat} {s : StM} {e0 e1 : List Ev} {w : World} {q : Pl} (h : Opn n last m lo sure bl s e0 e1 w q) (id : Int) (hid : 1 ≤ id ∧ id ≤ 3) :
    Calls Tryz.prog 21 #[.pointer (some ⟨q.xb, 0, none⟩), .int .i64 id] w fun e w' => New w w' ∧
      ((∃ nb, e = .returned (.tuple #[.agg #[.int .i64 0, .int .i64 0, .int .i64 0, .int .i64 0, .int .i64 0, .int .i64 0], .iface 121 (.pointer (some ⟨nb, 0, none⟩))]) ∧ last id = 0) ∨
       (∃ st step tries due, e = .returned (.tuple #[.agg #[.int .i64 id, .int .i64 st, .int .i64 step, .int .i64 (n id), .int .i64 tries, .int .i64 due], .nilIface]) ∧ (3 ≤ last id → st = last id) ∧ reachedM s.p.effs id st (n id) = true ∧
         (sure = true → Alv n (fun i => if i = id then st else last i) m true lo s e0 e1))) := by
  have hG := h.al.liv.g1
  have hsg := folded_ok hG.ok
  by_cases hx : ∀ g ∈ folded e1, g.id ≠ id
  · refine Calls.mono (Status_none h.st (by omega) (by rw [h.eq]; exact hx)) ?_
    rintro e w' ⟨⟨nb, rfl⟩, hf⟩
    refine ⟨hf, .inl ⟨nb, rfl, ?_⟩⟩
    by_cases hl : last id = 0
    · exact hl
    · obtain ⟨g, hg, hgi, _⟩ := hG.last id hl
      exact absurd hgi (hx g hg)
  · obtain ⟨g, hgm, hgi⟩ : ∃ g ∈ folded e1, g.id = id := by
      apply Classical.byContradiction
      intro hc
      exact hx (fun x hm he => hc ⟨x, hm, he⟩)
    obtain ⟨i, hi⟩ := List.getElem?_of_mem hgm
    have hst := Status_calls h.st (by rw [h.eq]; exact hsg.ord) (by rw [h.eq]; exact hi) (by omega)
    rw [hgi] at hst
    refine Calls.mono hst ?_
    rintro e w' ⟨rfl, hf⟩
    have hA := hG.agree g hgm
    have hI := hG.ids g hgm
    refine ⟨hf, .inr ⟨g.st, g.step, g.tries, g.due, ?_, ?_, ?_, fun hs => ?_⟩⟩
    · have : (g.steps.length : Int) = n id := by rw [hI.2, kSteps_len, hgi]
      rw [← this, ← hgi]; rfl
    · intro h3
      obtain ⟨f, hf, hfi, hfs⟩ := hG.last id (by omega)
      have : f = g := ord_uniq hsg.ord hf hgm (hfi.trans hgi.symm)
      rw [← this]; exact hfs h3
    · rw [← hgi]; exact agree_reached hA
    · have he := h.su hs
      subst he
      have hL := h.al.liv
      have hN := hG.noted hgm hgi
      exact ⟨h.al.js, h.al.inv, h.al.room, h.al.tries, h.al.clk, hL.dj, hN, hN, hL.len, hL.pf, hL.lo, hL.cal, hL.off⟩
end Go.Proofs.YtkafmfdipmhleaaGreatDoor

namespace Go.Proofs.YtkafmfdipmhleaaGreatDoor
open Go.RowKit Go.Maps

theorem fresh_JS (pause : Int) (p : PartM) : JS (StM.fresh 120 pause p) [] [] := by
  have hb : (StM.fresh 120 pause p).d.blocks = (List.replicate 120 zer).set 0 hdr := fresh_blocks 120
  have hl : (StM.fresh 120 pause p).d.blocks.length = 120 := by rw [hb]; simp
  have hz : ∀ i, 0 < i → i < 120 → (StM.fresh 120 pause p).d.blocks.getD i [] = zer := by
    intro i h1 h2
    rw [hb, getD_set_ne _ _ _ _ (by omega), List.getD_eq_getElem?_getD, List.getElem?_replicate, if_pos h2]; rfl
  refine ⟨DJ.mk_clean ⟨?_, trivial, ?_, ?_, ?_⟩ (fresh_pend 120) trivial, rfl, rfl, rfl⟩
  · rw [hb, getD_set_self _ _ _ (by simp)]
  · show Junk ((StM.fresh 120 pause p).d.blocks.getD 1 [])
    rw [hz 1 (by omega) (by omega)]; exact junk_zer
  · intro i h1 h2
    exact hz i (by omega) (by omega)
  · rw [hl]; show 2 + 0 < 120; omega
def ag0 (l : List Int) (lo : Nat) : StM := StM.fresh 120 2 ⟨[], [], l, 0, lo⟩
def ag1 (l : List Int) (lo n1 : Nat) : StM := (ag0 l lo).submit 1 (kSteps 1 n1)
def ag2 (l : List Int) (lo n1 n2 : Nat) : StM := (ag1 l lo n1).submit 2 (kSteps 2 n2)
def ag3 (l : List Int) (lo n1 n2 : Nat) : StM := (ag2 l lo n1 n2).tick
def ag4 (l : List Int) (lo n1 n2 : Nat) (a : Int) : StM := { ag3 l lo n1 n2 with d := (ag3 l lo n1 n2).d.cut a }
def ag5 (l : List Int) (lo n1 n2 : Nat) (a : Int) : StM := (ag4 l lo n1 n2 a).tickG.1
theorem ag0_fine (l : List Int) (lo : Nat) (hl : l.length ≤ 60) : (ag0 l lo).fine 100 :=
  ⟨by show 0 + 100 < 2 ^ 30; omega, by show 0 + 100 < 2 ^ 30; omega, by show l.length < 2 ^ 30; omega, by show (0 : Int) ≤ 0; omega, by show (0 : Int) + 100 < 2 ^ 30; omega, fun g hg => by simp [ag0, StM.fresh] at hg⟩
theorem ag0_inv (l : List Int) (lo : Nat) : (ag0 l lo).inv := fresh_inv 120 2 ⟨[], [], l, 0, lo⟩ (by omega) (by omega)
theorem ag0_room (l : List Int) (lo n1 : Nat) (hn : 1 ≤ n1 ∧ n1 ≤ 6) : ((ag0 l lo).j.en : Int) + (2 + (2 * (kSteps 1 n1).length - 1) + leftSum (ag0 l lo).sagas) ≤ (ag0 l lo).d.blocks.length := by
  have h1 : (ag0 l lo).d.blocks.length = 120 := fresh_len 120
  have h2 : (ag0 l lo).j.en = 1 := rfl
  have h3 : (ag0 l lo).sagas = [] := rfl
  rw [h1, h2, h3, kSteps_len]; simp [leftSum]; omega
theorem ag1_inv (l : List Int) (lo n1 : Nat) (hl : l.length ≤ 60) (hn : 1 ≤ n1 ∧ n1 ≤ 6) : (ag1 l lo n1).inv ∧ (ag1 l lo n1).fine 100 :=
  submit_inv (id := 1) (l := kSteps 1 n1) (ag0_inv l lo) (ag0_fine l lo hl) (kSteps_whole 1 n1 (by omega) hn) (fun x hx => by simp [ag0, StM.fresh] at hx) (ag0_room l lo n1 hn)
theorem submit_len {s : StM} (h : s.d.pend = none) (id : Int) (l : List (ByteArray × ByteArray)) : (s.submit id l).d.blocks.length = s.d.blocks.length := by
  show ((settleD s.j s.d).append s.j.epoch s.j.en _).blocks.length = _
  rw [append_len, settle_len _ _ h]
theorem ag1_len (l : List Int) (lo n1 : Nat) : (ag1 l lo n1).d.blocks.length = 120 := (submit_len (ag0_inv l lo).pend _ _).trans (fresh_len 120)
theorem ag1_sagas (l : List Int) (lo n1 : Nat) : (ag1 l lo n1).sagas = [SagaM.new 1 (kSteps 1 n1)] := rfl
theorem ag1_new (l : List Int) (lo n1 : Nat) : ∀ x ∈ (ag1 l lo n1).sagas, x.id ≠ 2 := by
  intro x hx
  rw [ag1_sagas] at hx
  simp at hx
  rw [hx]; show (1 : Int) ≠ 2; omega
theorem ag1_room (l : List Int) (lo n1 n2 : Nat) (hn : 1 ≤ n1 ∧ n1 ≤ 6) (hn2 : 1 ≤ n2 ∧ n2 ≤ 6) : ((ag1 l lo n1).j.en : Int) + (2 + (2 * (kSteps 2 n2).length - 1) + leftSum (ag1 l lo n1).sagas) ≤ (ag1 l lo n1).d.blocks.length := by
  have l1 := new_left 1 (kSteps 1 n1)
  rw [kSteps_len] at l1
  have h2 : (ag1 l lo n1).j.en = 3 := rfl
  rw [ag1_len, h2, ag1_sagas, kSteps_len]; simp [leftSum, l1]; omega
theorem ag2_inv (l : List Int) (lo n1 n2 : Nat) (hl : l.length ≤ 60) (hn : 1 ≤ n1 ∧ n1 ≤ 6) (hn2 : 1 ≤ n2 ∧ n2 ≤ 6) : (ag2 l lo n1 n2).inv ∧ (ag2 l lo n1 n2).fine 100 := by
  obtain ⟨h1, h2⟩ := ag1_inv l lo n1 hl hn
  exact submit_inv (id := 2) (l := kSteps 2 n2) h1 h2 (kSteps_whole 2 n2 (by omega) hn2) (ag1_new l lo n1) (ag1_room l lo n1 n2 hn hn2)
theorem ag2_len (l : List Int) (lo n1 n2 : Nat) (hl : l.length ≤ 60) (hn : 1 ≤ n1 ∧ n1 ≤ 6) : (ag2 l lo n1 n2).d.blocks.length = 120 := (submit_len (ag1_inv l lo n1 hl hn).1.pend _ _).trans (ag1_len l lo n1)
theorem ag2_sagas (l : List Int) (lo n1 n2 : Nat) : (ag2 l lo n1 n2).sagas = [SagaM.new 1 (kSteps 1 n1), SagaM.new 2 (kSteps 2 n2)] := rfl
theorem ag2_slen (l : List Int) (lo n1 n2 : Nat) : (ag2 l lo n1 n2).sagas.length = 2 := by rw [ag2_sagas]; rfl
/-- What holds of Again's journal: both sagas are there, and few records. -/
def agP (j : Nat) (e : List Ev) : Prop := (e.foldl applyEv []).map (·.id) = [1, 2] ∧ evLen e ≤ 4 + j
theorem agP_succ (j : Nat) (e : List Ev) (h : agP j e) : agP (j + 1) e := ⟨h.1, by have := h.2; omega⟩
theorem agP_moved (j : Nat) (e : List Ev) (id rp : Int) (h : agP j e) : agP (j + 1) (e ++ [.moved id rp]) := by
  refine ⟨?_, by rw [evLen_snoc]; have := h.2; show evLen e + 1 ≤ _; omega⟩
  rw [List.foldl_append]
  show ((e.foldl applyEv []).map (fun x => if x.id = id then x.moved rp else x)).map (·.id) = _
  rw [List.map_map, ← h.1]
  apply List.map_congr_left
  intro x _
  simp only [Function.comp_apply]
  split
  · exact moved_id x rp
  · rfl
theorem ag2_JS (l : List Int) (lo n1 n2 : Nat) (hl : l.length ≤ 60) (hn : 1 ≤ n1 ∧ n1 ≤ 6) (hn2 : 1 ≤ n2 ∧ n2 ≤ 6) : ∃ e0 e1, JS (ag2 l lo n1 n2) e0 e1 ∧ agP 0 e0 ∧ agP 0 e1 := by
  have h0 := ag0_inv l lo
  have hq0 := appendA_quiet h0.quiet (ag0 l lo).j [bodyRec 1 (kSteps 1 n1), takenRec 1]
  obtain ⟨a0, a1, _, a3, _, _⟩ := submitG_JS (id := 1) (n := n1) (fresh_JS 2 ⟨[], [], l, 0, lo⟩) h0.zero (by omega) hn (fun x hx => by simp [StM.fresh] at hx) (by
    have : (StM.fresh 120 2 ⟨[], [], l, 0, lo⟩).d.blocks.length = 120 := fresh_len 120
    rw [this]; show 4 + 0 < 120; omega)
  obtain ⟨a4, ha1⟩ := a3 (by
    show ((ag0 l lo).d.appendA (ag0 l lo).j _).2 = true
    rw [hq0])
  have hs1 : (StM.fresh 120 2 ⟨[], [], l, 0, lo⟩).submitG 1 (kSteps 1 n1) = ag1 l lo n1 := submitG_quiet h0.quiet 1 _
  rw [hs1] at a4
  obtain ⟨h1, _⟩ := ag1_inv l lo n1 hl hn
  have hq1 := appendA_quiet h1.quiet (ag1 l lo n1).j [bodyRec 2 (kSteps 2 n2), takenRec 2]
  have hl1 : evLen a1 = 2 := by rw [ha1]; rfl
  obtain ⟨b0, b1, hd, b3, b4, b5⟩ := submitG_JS (id := 2) (n := n2) a4 h1.zero (by omega) hn2 (ag1_new l lo n1) (by rw [ag1_len, hl1]; omega)
  obtain ⟨b6, hb1⟩ := b3 (by rw [hq1])
  have hs2 : (ag1 l lo n1).submitG 2 (kSteps 2 n2) = ag2 l lo n1 n2 := submitG_quiet h1.quiet 2 _
  rw [hs2] at b6
  have hp : b0 = b1 := b6.dj.clean (ag2_inv l lo n1 n2 hl hn hn2).1.pend
  subst hp
  have hP : agP 0 b0 := by
    rw [hb1, ha1]
    exact ⟨rfl, by show 2 + (2 + 0) ≤ 4 + 0; omega⟩
  exact ⟨b0, b0, b6, hP, hP⟩
theorem ag3_inv (l : List Int) (lo n1 n2 : Nat) (hl : l.length ≤ 60) (hn : 1 ≤ n1 ∧ n1 ≤ 6) (hn2 : 1 ≤ n2 ∧ n2 ≤ 6) : (ag3 l lo n1 n2).inv ∧ (ag3 l lo n1 n2).fine 98 ∧ (ag3 l lo n1 n2).clock = 1 ∧ (ag3 l lo n1 n2).sagas.length = 2 := by
  obtain ⟨h1, h2⟩ := ag2_inv l lo n1 n2 hl hn hn2
  obtain ⟨i1, i2, i3, i4⟩ := tick_inv (m := 98) h1 (by rw [ag2_slen]; exact h2)
  exact ⟨i1, i2, i3, i4.trans (ag2_slen _ _ _ _)⟩
theorem ag3_JS (l : List Int) (lo n1 n2 : Nat) (hl : l.length ≤ 60) (hn : 1 ≤ n1 ∧ n1 ≤ 6) (hn2 : 1 ≤ n2 ∧ n2 ≤ 6) : ∃ e0 e1, JS (ag3 l lo n1 n2) e0 e1 ∧ agP 2 e0 ∧ agP 2 e1 ∧ (ag3 l lo n1 n2).d.blocks.length = 120 := by
  obtain ⟨h1, h2⟩ := ag2_inv l lo n1 n2 hl hn hn2
  obtain ⟨e0, e1, hJ, p0, p1⟩ := ag2_JS l lo n1 n2 hl hn hn2
  have hq := tickG_quiet (m := 98) h1 (by rw [ag2_slen]; exact h2)
  have hJ' : JS { ag2 l lo n1 n2 with clock := (ag2 l lo n1 n2).clock + 1 } e0 e1 := ⟨hJ.dj, hJ.ep, hJ.en, hJ.core⟩
  obtain ⟨f0, f1, j1, j2, j3, j4⟩ := runG_JS (m := 98) agP hJ' (inv_clock h1 _).zero h1.room 2 h2 agP_succ agP_moved (fun j e hj he => by
    have h3 : ({ ag2 l lo n1 n2 with clock := (ag2 l lo n1 n2).clock + 1 } : StM).d.blocks.length = 120 := ag2_len l lo n1 n2 hl hn
    rw [h3]; have := he.2; omega) p0 p1
  have hr : StM.runG { ag2 l lo n1 n2 with clock := (ag2 l lo n1 n2).clock + 1 } (List.range 2) = (ag3 l lo n1 n2, true) := by
    have : (ag2 l lo n1 n2).tickG = StM.runG { ag2 l lo n1 n2 with clock := (ag2 l lo n1 n2).clock + 1 } (List.range (ag2 l lo n1 n2).sagas.length) := rfl
    rw [ag2_slen] at this
    rw [← this]; exact hq
  have hlen := runG_len (s := { ag2 l lo n1 n2 with clock := (ag2 l lo n1 n2).clock + 1 }) 2
  rw [hr] at j2 hlen
  exact ⟨f0, f1, j2 rfl, j3, j4, hlen.trans (ag2_len l lo n1 n2 hl hn)⟩
theorem ag4_inv (l : List Int) (lo n1 n2 : Nat) (a : Int) (hl : l.length ≤ 60) (hn : 1 ≤ n1 ∧ n1 ≤ 6) (hn2 : 1 ≤ n2 ∧ n2 ≤ 6) : (ag4 l lo n1 n2 a).inv0 ∧ (ag4 l lo n1 n2 a).roomy ∧ (ag4 l lo n1 n2 a).fine 98 ∧ (ag4 l lo n1 n2 a).clock = 1 ∧ (ag4 l lo n1 n2 a).sagas.length = 2 := by
  obtain ⟨h1, h2, h3, h4⟩ := ag3_inv l lo n1 n2 hl hn hn2
  exact ⟨⟨fun _ => h1.pend, h1.epoch, h1.ok, h1.ord, h1.size⟩, h1.room, h2, h3, h4⟩
/-- What survives of the journal. -/
theorem ag5_after (l : List Int) (lo n1 n2 : Nat) (a : Int) (hl : l.length ≤ 60) (hn : 1 ≤ n1 ∧ n1 ≤ 6) (hn2 : 1 ≤ n2 ∧ n2 ≤ 6) (ks : List Int) : (ag5 l lo n1 n2 a).d.blocks.length = 120 ∧ ∃ e, JD ((ag5 l lo n1 n2 a).d.after ks).blocks e ∧ EvsOk [] e ∧ agP 4 e := by
  obtain ⟨e0, e1, hJ, p0, p1, hlen⟩ := ag3_JS l lo n1 n2 hl hn hn2
  obtain ⟨h1, h2, h3, h4, h5⟩ := ag4_inv l lo n1 n2 a hl hn hn2
  have hJ' : JS { ag4 l lo n1 n2 a with clock := (ag4 l lo n1 n2 a).clock + 1 } e0 e1 := ⟨hJ.dj.same rfl rfl, hJ.ep, hJ.en, hJ.core⟩
  obtain ⟨f0, f1, j1, j2, j3, j4⟩ := runG_JS (m := 96) (fun j e => agP (2 + j) e) hJ' ⟨h1.pend, h1.epoch, h1.ok, h1.ord, h1.size⟩ h2 2 h3 (fun j e => agP_succ (2 + j) e) (fun j e id rp => agP_moved (2 + j) e id rp) (fun j e hj he => by
    have h3 : ({ ag4 l lo n1 n2 a with clock := (ag4 l lo n1 n2 a).clock + 1 } : StM).d.blocks.length = 120 := hlen
    rw [h3]; have := he.2; omega) p0 p1
  have hr : StM.runG { ag4 l lo n1 n2 a with clock := (ag4 l lo n1 n2 a).clock + 1 } (List.range 2) = (ag4 l lo n1 n2 a).tickG := by
    have : (ag4 l lo n1 n2 a).tickG = StM.runG { ag4 l lo n1 n2 a with clock := (ag4 l lo n1 n2 a).clock + 1 } (List.range (ag4 l lo n1 n2 a).sagas.length) := rfl
    rw [h5] at this
    exact this.symm
  have hl5 := runG_len (s := { ag4 l lo n1 n2 a with clock := (ag4 l lo n1 n2 a).clock + 1 }) 2
  rw [hr] at j1 hl5
  refine ⟨hl5.trans hlen, ?_⟩
  rcases j1.after ks with h | h
  · exact ⟨f0, h, j1.ok0, j3⟩
  · exact ⟨f1, h, j1.ok, j4⟩
end Go.Proofs.YtkafmfdipmhleaaGreatDoor

namespace Go.Proofs.YtkafmfdipmhleaaGreatDoor
open Go.RowKit Go.Maps

theorem fresh_grew (n : Nat) : Grew 6 (DiskM.new n) ((DiskM.fresh n).count.count) := (((((Grew.count _).trans (Grew.flush _)).trans (Grew.put _ 0 _)).trans (Grew.flush _)).trans (Grew.count _)).trans (Grew.count _)
theorem fresh_opn {n : Int → Nat} {m : Nat} {w : World} {q : Pl} {pause : Int} {l : List Int} {lo : Nat} (hs : StAt w q [] (StM.fresh 120 pause ⟨[], [], l, 0, lo⟩)) (hp : 1 ≤ pause ∧ pause ≤ 64) (hl : l.length ≤ 60) (hm : m ≤ 10000) :
    Opn n (fun _ => 0) m lo false [] (StM.fresh 120 pause ⟨[], [], l, 0, lo⟩) [] [] w q := by
  have hJ := fresh_JS pause ⟨[], [], l, 0, lo⟩
  have hi := fresh_inv 120 pause ⟨[], [], l, 0, lo⟩ (by omega) hp
  have hG := Good.empty n ⟨[], [], l, 0, lo⟩ rfl
  obtain ⟨g1, g2⟩ := fresh_grew 120
  obtain ⟨c1, c2⟩ := g1 (by show (0 : Int) ≤ 0; omega) (by show (0 : Int) + 6 ≤ 2 ^ 41; omega)
  have c2' : ((DiskM.fresh 120).count.count).calls ≤ 6 := c2
  refine ⟨hs, ⟨hJ, hi.zero, hi.room, fun g hg => by simp [StM.fresh] at hg, ⟨by show (0 : Int) ≤ 0; omega, by show (0 : Int) + (m : Int) ≤ 100000; omega⟩,
    ⟨hJ.dj, hG, hG, fresh_len 120, ⟨by show 0 + m < 2 ^ 30; omega, by show 0 + m < 2 ^ 30; omega, by show l.length < 2 ^ 30; omega, by show (0 : Int) ≤ 0; omega, by show (0 : Int) + m < 2 ^ 30; omega⟩, rfl, ⟨c1, ?_⟩, fun _ => g2⟩⟩, rfl, fun h => by (cases h)⟩
  show ((DiskM.fresh 120).count.count).calls + 20000 * (m : Int) ≤ 2 ^ 40
  omega
/-- What survives (kv), and what was told of each saga (lb). -/
structure KL (w : World) (pb : Nat) (kv : Value) (kl : List Int) (lb : Nat) (last : Int → Int) : Prop where
  kp : IntsAt w kv kl
  kb : ∀ a m c, kv = .slice (some a) m c → a.block ≠ lb
  la : w.heap[lb]? = some (.cells #[.int .i64 (last 0), .int .i64 (last 1), .int .i64 (last 2), .int .i64 (last 3)] 3 (0, 0))
  pb : pb < lb
theorem KL.keepK {w w' : World} {pb : Nat} {kv : Value} {kl : List Int} {lb : Nat} {last : Int → Int} {K : List Nat} (h : KL w pb kv kl lb last) (hf : FrK K w w') (hK : 4 ∉ K) : KL w' pb kv kl lb last :=
  ⟨h.kp.keep (fun k o ho hk => hf.block k o ho (by rw [hk]; exact hK)), h.kb, hf.block _ _ h.la (by simpa [kindOf] using hK), h.pb⟩
theorem KL.keep {w w' : World} {pb : Nat} {kv : Value} {kl : List Int} {lb : Nat} {last : Int → Int} (h : KL w pb kv kl lb last) (hf : FrK KB w w') : KL w' pb kv kl lb last := h.keepK hf (by decide)
theorem KL.new {w w' : World} {pb : Nat} {kv : Value} {kl : List Int} {lb : Nat} {last : Int → Int} (h : KL w pb kv kl lb last) (hf : New w w') : KL w' pb kv kl lb last := h.keep (new_KB hf)
theorem KL.kin {w : World} {pb : Nat} {kv : Value} {kl : List Int} {lb : Nat} {last : Int → Int} (h : KL w pb kv kl lb last) : IntsIn w kv kl := by
  rcases h.kp with h1 | ⟨b, off, cap, c, e, h1, h2⟩
  · exact .inl h1
  · refine .inr ⟨b, off, cap, e, fun j x hx => ?_⟩
    rw [cellv, h1]
    exact h2 j x hx
theorem KL.cell {w : World} {pb : Nat} {kv : Value} {kl : List Int} {lb : Nat} {last : Int → Int} (h : KL w pb kv kl lb last) {id : Nat} (hid : 1 ≤ id ∧ id ≤ 3) : w.cell? ⟨lb, id, none⟩ = some (.int .i64 (last id)) := by
  rw [cellv, h.la]
  have : id = 1 ∨ id = 2 ∨ id = 3 := by omega
  rcases this with rfl | rfl | rfl <;> rfl
/-- It is noted what was told. -/
theorem KL.set {w : World} {pb : Nat} {kv : Value} {kl : List Int} {lb : Nat} {last : Int → Int} (h : KL w pb kv kl lb last) {id : Nat} (hid : 1 ≤ id ∧ id ≤ 3) (st : Int) : KL (w.setCell ⟨lb, id, none⟩ (.int .i64 st)) pb kv kl lb (fun i => if i = id then st else last i) := by
  refine ⟨?_, h.kb, ?_, h.pb⟩
  · rcases h.kp with h1 | ⟨b, off, cap, c, e, h1, h2⟩
    · exact .inl h1
    · refine .inr ⟨b, off, cap, c, e, ?_, h2⟩
      rw [hp_setCell, if_neg (h.kb _ _ _ e)]; exact h1
  · rw [hp_setCell, if_pos rfl, h.la]
    have : id = 1 ∨ id = 2 ∨ id = 3 := by omega
    rcases this with rfl | rfl | rfl <;> rfl
theorem Opn.set {n : Int → Nat} {last : Int → Int} {m : Nat} {lo : Nat} {sure : Bool} {bl : List Nat} {s : StM} {e0 e1 : List Ev} {w : World} {q : Pl} (h : Opn n last m lo sure bl s e0 e1 w q) {lb : Nat} {cs : Array Value} (hb : w.heap[lb]? = some (.cells cs 3 (0, 0))) (hp : q.pb < lb) (i : Nat) (v : Value) : Opn n last m lo sure bl s e0 e1 (w.setCell ⟨lb, i, none⟩ v) q := by
  have hfr := Fr.one lb w i v
  have hk : FrK [4] w (w.setCell ⟨lb, i, none⟩ v) := hfr.toK (by
    rintro k o rfl ho
    rw [hb] at ho; cases ho; simp [kindOf])
  have h0 := h.st
  refine ⟨⟨hk.block _ _ h0.eng (by simp [kindOf]), h0.jn.keepK hk (by decide), h0.dk.keepK hk (by decide) (by decide) (by decide), h0.pt.keep hk.size (fun k o ho hko => ?_), map_keepK h0.mp hk (by decide), h0.len, sgs_keepK h0.sg hk (by decide) (by decide), h0.nd, h0.lo⟩, h.al, h.eq, h.su⟩
  rw [hp_setCell, if_neg]
  · exact ho
  · rintro rfl
    rw [hb] at ho; cases ho
    rcases hko with e | e | e | ⟨_, e⟩
    · simp [kindOf] at e
    · simp [kindOf] at e
    · simp [kindOf] at e
    · omega
theorem ints_lowS {w w' : World} {B : Nat} {v : Value} {l : List Int} (h : IntsIn w v l) (hl : Low B w w') (hB : w.heap.size ≤ B) : IntsIn w' v l := ints_Low h (hl.le hB)
end Go.Proofs.YtkafmfdipmhleaaGreatDoor

namespace Go.Proofs.YtkafmfdipmhleaaGreatDoor
open Go.RowKit Go.Maps

def stN (c : Int) (id : Int) : Nat := (manyM c id).toNat
theorem stN_range (c id : Int) : 1 ≤ stN c id ∧ stN c id ≤ 6 := by have := manyM_range c id; unfold stN; omega
theorem stN_eq (c id : Int) : manyM c id = (stN c id : Int) := by have := manyM_range c id; unfold stN; omega
theorem st_many (c : Int) (id : Int) (hc : i64 c) (hid : 0 ≤ id ∧ id ≤ 1000) (w : World) : Calls Tryz.prog 24 #[.int .i64 c, .int .i64 id] w fun e w' => e = .returned (.int .i64 (stN c id)) ∧ w = w' := by
  rw [← stN_eq]; exact Calls.mono (many_calls w c id hc hid) (fun e w' h => ⟨h.1, h.2.symm⟩)
noncomputable def stB7 : Code := ((Tryz.f5.body).bind (blockAt 7)).getD .skip
noncomputable def stB6 : Code := ((Tryz.f5.body).bind (blockAt 6)).getD .skip
noncomputable def stB2 : Code := ((Tryz.f5.body).bind (blockAt 2)).getD .skip
noncomputable def stB4 : Code := ((Tryz.f5.body).bind (blockAt 4)).getD .skip
set_option maxRecDepth 100000 in
set_option maxHeartbeats 8000000 in
/-- A saga's checks. -/
theorem st_b7 (c : Int) (last : Int → Int) (m lo : Nat) (bl : List Nat) (s : StM) (e0 e1 : List Ev) (q : Pl) (lb : Nat) (kv : Value) (kl : List Int) (sure : Bool) (k : Nat) (W : World) (hc : i64 c) (hO : Opn (stN c) last m lo sure bl s e0 e1 W q) (hK : KL W q.pb kv kl lb last) (hk : 1 ≤ k ∧ k ≤ 3) (hlb : lo ≤ lb)
    {ds : List Deferred} {x1 x2 x3 x4 x5 x6 x7 x8 x9 x11 x13 x15 x16 x17 x18 x19 x20 x21 x24 x25 x26 x27 x28 x29 x30 x31 x32 x33 x34 x35 x36 x37 x38 x39 x40 x41 x42 x43 x44 x45 x46 x47 x48 x49 x50 x51 x52 x53 x54 x55 x56 x57 x58 x59 x60 x61 x62 x63 x64 x65 x66 x67 x68 x69 x70 x71 x72 x73 x74 x75 x76 x77 x78 x79 x80 x81 x82 x83 x84 x85 x86 x87 x88 x89 x90 x91 x92 x93 x94 x95 x96 x97 x98 x99 x100 x101 x102 x103 x104 x105 x106 x107 x108 x109 x110 x111 x112 x113 x114 x115 x116 x117 x118 x119 x120 x121 x122 x123 x124 x125 x126 x127 x128 x129 x130 x131 x132 x133 x134 x135 x136 x137 x138 x139 x140 x141 x142 x143 x144 x145 x146 x147 x148 x149 x150 x151 x152 x153 x154 x155 x156 x157 x158 x159 x160 x161 x162 x163 x164 x165 x166 x167 x168 x169 x170 x171 x172 x173 x174 x175 x176 x177 x178 x179 x180 x181 x182 x183 x184 x185 x186 x187 x188 x189 x190 x191 x192 x193 x194 : Value} {Q : Exit → Act → World → Prop}
    (hQ : ∀ (y24 y25 y26 y27 y144 y145 y146 y147 y148 y149 y150 y151 y152 y153 y154 y155 y156 y157 y158 y159 y160 y161 y162 y163 y164 y165 y166 y167 y168 y169 y170 y171 y172 y173 y174 y175 y176 y177 y178 y179 y180 y181 y182 y183 y184 y185 y186 y187 y188 y189 y190 y191 y192 y193 y194 : Value) (last' : Int → Int) (w' : World), Opn (stN c) last' m lo sure bl s e0 e1 w' q → KL w' q.pb kv kl lb last' → Low lo W w' → Q .normal ⟨#[.int .i64 c, x1, x2, x3, x4, x5, x6, x7, x8, x9, .pointer (some ⟨q.pb, 0, none⟩), x11, .pointer (some ⟨q.xb, 0, none⟩), x13, .slice (some ⟨lb, 0, none⟩) 4 4, x15, x16, x17, x18, x19, x20, x21, .bool sure, .int .i64 k, y24, y25, y26, y27, x28, x29, x30, x31, x32, x33, x34, x35, x36, x37, x38, x39, x40, x41, x42, x43, x44, x45, x46, x47, x48, x49, x50, x51, x52, x53, x54, x55, x56, x57, x58, x59, x60, x61, x62, x63, x64, x65, x66, x67, x68, x69, x70, x71, x72, x73, x74, x75, x76, x77, x78, x79, x80, x81, x82, x83, x84, x85, x86, x87, x88, x89, x90, x91, x92, x93, x94, x95, x96, x97, x98, x99, x100, x101, x102, x103, x104, x105, x106, x107, x108, x109, x110, x111, x112, x113, x114, x115, x116, x117, x118, x119, x120, x121, x122, x123, x124, x125, x126, x127, x128, x129, x130, x131, x132, x133, x134, x135, x136, x137, x138, x139, x140, x141, x142, x143, y144, y145, y146, y147, y148, y149, y150, y151, y152, y153, y154, y155, y156, y157, y158, y159, y160, y161, y162, y163, y164, y165, y166, y167, y168, y169, y170, y171, y172, y173, y174, y175, y176, y177, y178, y179, y180, y181, y182, y183, y184, y185, y186, y187, y188, y189, y190, y191, y192, y193, y194], ds⟩ w') :
    Code.wp Tryz.prog stB7 Q ⟨#[.int .i64 c, x1, x2, x3, x4, x5, x6, x7, x8, x9, .pointer (some ⟨q.pb, 0, none⟩), x11, .pointer (some ⟨q.xb, 0, none⟩), x13, .slice (some ⟨lb, 0, none⟩) 4 4, x15, x16, x17, x18, x19, x20, x21, .bool sure, .int .i64 k, x24, x25, x26, x27, x28, x29, x30, x31, x32, x33, x34, x35, x36, x37, x38, x39, x40, x41, x42, x43, x44, x45, x46, x47, x48, x49, x50, x51, x52, x53, x54, x55, x56, x57, x58, x59, x60, x61, x62, x63, x64, x65, x66, x67, x68, x69, x70, x71, x72, x73, x74, x75, x76, x77, x78, x79, x80, x81, x82, x83, x84, x85, x86, x87, x88, x89, x90, x91, x92, x93, x94, x95, x96, x97, x98, x99, x100, x101, x102, x103, x104, x105, x106, x107, x108, x109, x110, x111, x112, x113, x114, x115, x116, x117, x118, x119, x120, x121, x122, x123, x124, x125, x126, x127, x128, x129, x130, x131, x132, x133, x134, x135, x136, x137, x138, x139, x140, x141, x142, x143, x144, x145, x146, x147, x148, x149, x150, x151, x152, x153, x154, x155, x156, x157, x158, x159, x160, x161, x162, x163, x164, x165, x166, x167, x168, x169, x170, x171, x172, x173, x174, x175, x176, x177, x178, x179, x180, x181, x182, x183, x184, x185, x186, x187, x188, x189, x190, x191, x192, x193, x194], ds⟩ W := by
  have HQ := Lib.hid hQ
  have Hlb := Lib.hid hlb
  have HK := Lib.hid hK
  have HO := Lib.hid hO
  have HM := Lib.hid (fun (w' : World) => st_many c (k : Int) hc (by omega) w')
  have HSt := Lib.hid (straight_opn hO (k : Int) (stN_range c k).2)
  have HTold := Lib.hid (fun (w' : World) (hf : New W w') => status_opn (hO.new hf) (k : Int) (by omega))
  have hk4 : (k : Int) < 4 := by omega
  have hk0 : (0 : Int) ≤ k := by omega
  have Hk := Lib.hid hk
  have heff : Hid (s.p.effs.length < 2 ^ 30) := by have := hO.al.liv.pf.2.1; show _ < _; omega
  have hsz : Hid (lo ≤ W.heap.size) := hO.eng.size
  clear hQ hlb hK hO hc hk
  conv => arg 2; whnf
  go_upto_region 40 with (first
    | (go_at_call 24; refine Calls.mono (HM.out _) ?_; rintro e w1 ⟨rfl, rfl⟩)
    | (go_at_call 22; refine Calls.mono HSt.out ?_; rintro e w2 ⟨rfl, hf2⟩)
    | fail)
  have HT2 := Lib.hid (HTold.out w2 hf2)
  have Hf2 := Lib.hid hf2
  clear hf2
  go_upto_region 41 with (first
    | (go_at_call 21; refine Calls.mono HT2.out ?_; rintro e w3 ⟨hf3, ⟨nb, rfl, hl0⟩ | ⟨st, step, tries, due, rfl, hls, hrch, hup⟩⟩)
    | fail)
  rotate_left 1
  focus
    have Hls := Lib.hid hls
    have Hup := Lib.hid hup
    have hN4 : New W (w3.alloc (.cells #[.int .i64 k, .int .i64 st, .int .i64 step, .int .i64 (stN c k), .int .i64 tries, .int .i64 due] 38)) := (Hf2.out.trans hf3).alloc _
    have hs4 := heap_alloc_new w3 (.cells #[.int .i64 k, .int .i64 st, .int .i64 step, .int .i64 (stN c k), .int .i64 tries, .int .i64 due] 38)
    generalize w3.alloc (.cells #[.int .i64 k, .int .i64 st, .int .i64 step, .int .i64 (stN c k), .int .i64 tries, .int .i64 due] 38) = w4 at hN4 hs4 ⊢
    have hn3 : W.heap.size ≤ w3.heap.size := Nat.le_trans Hf2.out.size hf3.size
    generalize w3.heap.size = sb at hs4 hn3 ⊢
    have HR := Lib.hid (reached_calls (HO.out.new hN4).st.pt heff.out (k : Int) st step (stN c k) tries due)
    rw [hrch] at HR
    have HN4 := Lib.hid hN4
    have Hs4 := Lib.hid hs4
    clear hls hup hrch hf3 hN4 HT2 HTold HSt HM hn3
    have hcv := cellv w4
    go_upto_region 47 with (first
      | (go_at_call 23; refine Calls.mono HR.out ?_; rintro e w5 ⟨rfl, hf5⟩)
      | fail)
    have HN5 := Lib.hid (HN4.out.trans hf5)
    have hs5 := hf5.get Hs4.out (fun f => f)
    have hK5 := HK.out.new HN5.out
    have hla := hK5.cell Hk.out
    have HK5 := Lib.hid hK5
    have hslb : Hid (sb ≠ lb) := fun e => by
      rw [e, hK5.la] at hs5; simp at hs5
    clear hf5 hcv hK5 HR Hs4 HN4
    have hcv := cellv w5
    by_cases h3 : 3 ≤ last k
    · have hst := Hls.out h3
      subst hst
      go_quiet (fail)
      have hN6 := HN5.out.drewN nq
      have hs6 : (w5.drewN nq).heap[sb]? = some (.cells #[.int .i64 k, .int .i64 (last k), .int .i64 step, .int .i64 (stN c k), .int .i64 tries, .int .i64 due] 38 (0, 0)) := hs5
      have hK6 := HK.out.new hN6
      generalize w5.drewN nq = w6 at hN6 hs6 hK6 ⊢
      have hla6 := hK6.cell Hk.out
      have hfr6 : w6.frozen? ⟨lb, k, none⟩ = false := by rw [frozv, hK6.la]; rfl
      have HN6 := Lib.hid hN6
      have HK6 := Lib.hid hK6
      clear hcv hs5 hla hN6 hK6
      have hcv := cellv w6
      cases sure
      · go_wp2_with fail
        exact HQ.out _ _ _ _ _ _ _ _ _ _ _ _ _ _ _ _ _ _ _ _ _ _ _ _ _ _ _ _ _ _ _ _ _ _ _ _ _ _ _ _ _ _ _ _ _ _ _ _ _ _ _ _ _ _ _ last w6 (HO.out.new HN6.out) HK6.out (HN6.out.low hsz.out (fun _ f => f.elim))
      · go_wp2_with fail
        exact HQ.out _ _ _ _ _ _ _ _ _ _ _ _ _ _ _ _ _ _ _ _ _ _ _ _ _ _ _ _ _ _ _ _ _ _ _ _ _ _ _ _ _ _ _ _ _ _ _ _ _ _ _ _ _ _ _ (fun i => if i = (k : Int) then last k else last i) _ ⟨((HO.out.new HN6.out).set HK6.out.la HK6.out.pb k (.int .i64 (last k))).st, Hup.out trivial, HO.out.eq, HO.out.su⟩ (HK6.out.set Hk.out (last k)) ((HN6.out.low hsz.out (fun _ f => f.elim)).trans ((Fr.one lb w6 k (.int .i64 (last k))).low (Nat.le_trans hsz.out HN6.out.size) (by rintro x rfl; exact Hlb.out)))
    · go_quiet (fail)
      have hN6 := HN5.out.drewN nq
      have hs6 : (w5.drewN nq).heap[sb]? = some (.cells #[.int .i64 k, .int .i64 (st), .int .i64 step, .int .i64 (stN c k), .int .i64 tries, .int .i64 due] 38 (0, 0)) := hs5
      have hK6 := HK.out.new hN6
      generalize w5.drewN nq = w6 at hN6 hs6 hK6 ⊢
      have hla6 := hK6.cell Hk.out
      have hfr6 : w6.frozen? ⟨lb, k, none⟩ = false := by rw [frozv, hK6.la]; rfl
      have HN6 := Lib.hid hN6
      have HK6 := Lib.hid hK6
      clear hcv hs5 hla hN6 hK6
      have hcv := cellv w6
      cases sure
      · go_wp2_with fail
        exact HQ.out _ _ _ _ _ _ _ _ _ _ _ _ _ _ _ _ _ _ _ _ _ _ _ _ _ _ _ _ _ _ _ _ _ _ _ _ _ _ _ _ _ _ _ _ _ _ _ _ _ _ _ _ _ _ _ last w6 (HO.out.new HN6.out) HK6.out (HN6.out.low hsz.out (fun _ f => f.elim))
      · go_wp2_with fail
        exact HQ.out _ _ _ _ _ _ _ _ _ _ _ _ _ _ _ _ _ _ _ _ _ _ _ _ _ _ _ _ _ _ _ _ _ _ _ _ _ _ _ _ _ _ _ _ _ _ _ _ _ _ _ _ _ _ _ (fun i => if i = (k : Int) then st else last i) _ ⟨((HO.out.new HN6.out).set HK6.out.la HK6.out.pb k (.int .i64 (st))).st, Hup.out trivial, HO.out.eq, HO.out.su⟩ (HK6.out.set Hk.out (st)) ((HN6.out.low hsz.out (fun _ f => f.elim)).trans ((Fr.one lb w6 k (.int .i64 (st))).low (Nat.le_trans hsz.out HN6.out.size) (by rintro x rfl; exact Hlb.out)))
  have hN3 := Hf2.out.trans hf3
  have hN4 : New W (w3.alloc (.cells #[.int .i64 0, .int .i64 0, .int .i64 0, .int .i64 0, .int .i64 0, .int .i64 0] 38)) := hN3.alloc _
  generalize w3.alloc (.cells #[.int .i64 0, .int .i64 0, .int .i64 0, .int .i64 0, .int .i64 0, .int .i64 0] 38) = w4 at hN4 ⊢
  have hK4 := HK.out.new hN4
  have hla := hK4.cell Hk.out
  rw [hl0] at hla
  have HN4 := Lib.hid hN4
  have HK4 := Lib.hid hK4
  clear hN3 hN4 hK4 hf3 HT2 HTold HSt HM
  go_wp2_with fail
  exact HQ.out _ _ _ _ _ _ _ _ _ _ _ _ _ _ _ _ _ _ _ _ _ _ _ _ _ _ _ _ _ _ _ _ _ _ _ _ _ _ _ _ _ _ _ _ _ _ _ _ _ _ _ _ _ _ _ last w4 (HO.out.new HN4.out) HK4.out (HN4.out.low hsz.out (fun _ f => f.elim))
set_option maxRecDepth 100000 in
set_option maxHeartbeats 8000000 in
/-- The checks of all sagas. -/
theorem st_b6 (c : Int) (last : Int → Int) (m lo : Nat) (bl : List Nat) (s : StM) (e0 e1 : List Ev) (q : Pl) (lb : Nat) (kv : Value) (kl : List Int) (sure : Bool) (W : World) (hc : i64 c) (hO : Opn (stN c) last m lo sure bl s e0 e1 W q) (hK : KL W q.pb kv kl lb last) (hlb : lo ≤ lb)
    {ds : List Deferred} {x1 x2 x3 x4 x5 x6 x7 x8 x9 x11 x13 x15 x16 x17 x18 x19 x20 x21 x24 x25 x26 x27 x28 x29 x30 x31 x32 x33 x34 x35 x36 x37 x38 x39 x40 x41 x42 x43 x44 x45 x46 x47 x48 x49 x50 x51 x52 x53 x54 x55 x56 x57 x58 x59 x60 x61 x62 x63 x64 x65 x66 x67 x68 x69 x70 x71 x72 x73 x74 x75 x76 x77 x78 x79 x80 x81 x82 x83 x84 x85 x86 x87 x88 x89 x90 x91 x92 x93 x94 x95 x96 x97 x98 x99 x100 x101 x102 x103 x104 x105 x106 x107 x108 x109 x110 x111 x112 x113 x114 x115 x116 x117 x118 x119 x120 x121 x122 x123 x124 x125 x126 x127 x128 x129 x130 x131 x132 x133 x134 x135 x136 x137 x138 x139 x140 x141 x142 x143 x144 x145 x146 x147 x148 x149 x150 x151 x152 x153 x154 x155 x156 x157 x158 x159 x160 x161 x162 x163 x164 x165 x166 x167 x168 x169 x170 x171 x172 x173 x174 x175 x176 x177 x178 x179 x180 x181 x182 x183 x184 x185 x186 x187 x188 x189 x190 x191 x192 x193 x194 : Value} {Q : Exit → Act → World → Prop}
    (hQ : ∀ (y8 y23 y24 y25 y26 y27 y140 y141 y142 y143 y144 y145 y146 y147 y148 y149 y150 y151 y152 y153 y154 y155 y156 y157 y158 y159 y160 y161 y162 y163 y164 y165 y166 y167 y168 y169 y170 y171 y172 y173 y174 y175 y176 y177 y178 y179 y180 y181 y182 y183 y184 y185 y186 y187 y188 y189 y190 y191 y192 y193 y194 : Value) (last' : Int → Int) (w' : World), Opn (stN c) last' m lo sure bl s e0 e1 w' q → KL w' q.pb kv kl lb last' → Low lo W w' → Q .normal ⟨#[.int .i64 c, x1, x2, x3, x4, x5, x6, x7, y8, x9, .pointer (some ⟨q.pb, 0, none⟩), x11, .pointer (some ⟨q.xb, 0, none⟩), x13, .slice (some ⟨lb, 0, none⟩) 4 4, x15, x16, x17, x18, x19, x20, x21, .bool sure, y23, y24, y25, y26, y27, x28, x29, x30, x31, x32, x33, x34, x35, x36, x37, x38, x39, x40, x41, x42, x43, x44, x45, x46, x47, x48, x49, x50, x51, x52, x53, x54, x55, x56, x57, x58, x59, x60, x61, x62, x63, x64, x65, x66, x67, x68, x69, x70, x71, x72, x73, x74, x75, x76, x77, x78, x79, x80, x81, x82, x83, x84, x85, x86, x87, x88, x89, x90, x91, x92, x93, x94, x95, x96, x97, x98, x99, x100, x101, x102, x103, x104, x105, x106, x107, x108, x109, x110, x111, x112, x113, x114, x115, x116, x117, x118, x119, x120, x121, x122, x123, x124, x125, x126, x127, x128, x129, x130, x131, x132, x133, x134, x135, x136, x137, x138, x139, y140, y141, y142, y143, y144, y145, y146, y147, y148, y149, y150, y151, y152, y153, y154, y155, y156, y157, y158, y159, y160, y161, y162, y163, y164, y165, y166, y167, y168, y169, y170, y171, y172, y173, y174, y175, y176, y177, y178, y179, y180, y181, y182, y183, y184, y185, y186, y187, y188, y189, y190, y191, y192, y193, y194], ds⟩ w') :
    Code.wp Tryz.prog stB6 Q ⟨#[.int .i64 c, x1, x2, x3, x4, x5, x6, x7, x8, x9, .pointer (some ⟨q.pb, 0, none⟩), x11, .pointer (some ⟨q.xb, 0, none⟩), x13, .slice (some ⟨lb, 0, none⟩) 4 4, x15, x16, x17, x18, x19, x20, x21, .bool sure, .int .i64 1, x24, x25, x26, x27, x28, x29, x30, x31, x32, x33, x34, x35, x36, x37, x38, x39, x40, x41, x42, x43, x44, x45, x46, x47, x48, x49, x50, x51, x52, x53, x54, x55, x56, x57, x58, x59, x60, x61, x62, x63, x64, x65, x66, x67, x68, x69, x70, x71, x72, x73, x74, x75, x76, x77, x78, x79, x80, x81, x82, x83, x84, x85, x86, x87, x88, x89, x90, x91, x92, x93, x94, x95, x96, x97, x98, x99, x100, x101, x102, x103, x104, x105, x106, x107, x108, x109, x110, x111, x112, x113, x114, x115, x116, x117, x118, x119, x120, x121, x122, x123, x124, x125, x126, x127, x128, x129, x130, x131, x132, x133, x134, x135, x136, x137, x138, x139, x140, x141, x142, x143, x144, x145, x146, x147, x148, x149, x150, x151, x152, x153, x154, x155, x156, x157, x158, x159, x160, x161, x162, x163, x164, x165, x166, x167, x168, x169, x170, x171, x172, x173, x174, x175, x176, x177, x178, x179, x180, x181, x182, x183, x184, x185, x186, x187, x188, x189, x190, x191, x192, x193, x194], ds⟩ W := by
  have HQ := Lib.hid hQ
  have HK := Lib.hid hK
  have HO := Lib.hid hO
  clear hQ hK hO
  conv => arg 2; whnf
  go_wp2_with fail
  go_loopw [23] (fun i wr => ∃ (k : Nat) (last' : Int → Int), 1 ≤ k ∧ k ≤ 4 ∧ i = .int .i64 k ∧ Opn (stN c) last' m lo sure bl s e0 e1 wr q ∧ KL wr q.pb kv kl lb last' ∧ Low lo W wr) (fun i _ => 4 - (intOf i).toNat)
  case atStart => exact ⟨1, last, Nat.le_refl _, by omega, rfl, HO.out, HK.out, Low.refl _ _⟩
  case round =>
    obtain ⟨k, la, hk1, hk4, rfl, hOr, hKr, hlr⟩ := hrel
    have Hlr := Lib.hid hlr
    clear hlr
    by_cases h3 : k ≤ 3
    · have h3I : (k : Int) ≤ 3 := by omega
      go_upto_block 7 with fail
      refine st_b7 c la m lo bl s e0 e1 q lb kv kl sure k wr hc hOr hKr ⟨hk1, h3⟩ hlb ?_
      intros
      rename_i la' w' hO' hK' hl'
      have HO' := Lib.hid hO'
      have HK' := Lib.hid hK'
      have Hl' := Lib.hid hl'
      clear hOr hKr hO' hK' hl'
      go_wp2_with fail
      go_roundw
      case rel => exact ⟨k + 1, la', by omega, by omega, by go_num, HO'.out, HK'.out, Hlr.out.trans Hl'.out⟩
      case measure => simp [intOf]; omega
    · obtain rfl : k = 4 := by omega
      have HOr := Lib.hid hOr
      have HKr := Lib.hid hKr
      clear hOr hKr
      go_wp2_with fail
      exact HQ.out _ _ _ _ _ _ _ _ _ _ _ _ _ _ _ _ _ _ _ _ _ _ _ _ _ _ _ _ _ _ _ _ _ _ _ _ _ _ _ _ _ _ _ _ _ _ _ _ _ _ _ _ _ _ _ _ _ _ _ _ _ la wr HOr.out HKr.out Hlr.out
set_option maxRecDepth 100000 in
set_option maxHeartbeats 8000000 in
/-- The Submits. -/
theorem st_b2 (c v : Int) (last : Int → Int) (E lo : Nat) (q : Pl) (W : World) (hc : i64 c) (hv : 0 ≤ v ∧ v < 2 ^ 30) (hE : Eng (stN c) last (E + 3) true lo W q) (hg : Handle W) (hlo : 0 < lo)
    {ds : List Deferred} {x1 x2 x3 x4 x5 x6 x7 x8 x9 x10 x11 x13 x14 x15 x18 x19 x20 x21 x22 x23 x24 x25 x26 x27 x28 x29 x30 x31 x32 x33 x34 x35 x36 x37 x38 x39 x40 x41 x42 x43 x44 x45 x46 x47 x48 x49 x50 x51 x52 x53 x54 x55 x56 x57 x58 x59 x60 x61 x62 x63 x64 x65 x66 x67 x68 x69 x70 x71 x72 x73 x74 x75 x76 x77 x78 x79 x80 x81 x82 x83 x84 x85 x86 x87 x88 x89 x90 x91 x92 x93 x94 x95 x96 x97 x98 x99 x100 x101 x102 x103 x104 x105 x106 x107 x108 x109 x110 x111 x112 x113 x114 x115 x116 x117 x118 x119 x120 x121 x122 x123 x124 x125 x126 x127 x128 x129 x130 x131 x132 x133 x134 x135 x136 x137 x138 x139 x140 x141 x142 x143 x144 x145 x146 x147 x148 x149 x150 x151 x152 x153 x154 x155 x156 x157 x158 x159 x160 x161 x162 x163 x164 x165 x166 x167 x168 x169 x170 x171 x172 x173 x174 x175 x176 x177 x178 x179 x180 x181 x182 x183 x184 x185 x186 x187 x188 x189 x190 x191 x192 x193 x194 : Value} {Q : Exit → Act → World → Prop}
    (hQ : ∀ (y17 y18 y60 y61 y62 y63 y64 y65 y66 y67 y68 y69 y70 y71 y72 y73 y74 y75 y76 y77 : Value) (w' : World), Eng (stN c) last E true lo w' q → FrK KB W w' → Low lo W w' → Q .normal ⟨#[.int .i64 c, x1, x2, x3, x4, x5, x6, x7, x8, x9, x10, x11, .pointer (some ⟨q.xb, 0, none⟩), x13, x14, x15, .int .i64 v, y17, y18, x19, x20, x21, x22, x23, x24, x25, x26, x27, x28, x29, x30, x31, x32, x33, x34, x35, x36, x37, x38, x39, x40, x41, x42, x43, x44, x45, x46, x47, x48, x49, x50, x51, x52, x53, x54, x55, x56, x57, x58, x59, y60, y61, y62, y63, y64, y65, y66, y67, y68, y69, y70, y71, y72, y73, y74, y75, y76, y77, x78, x79, x80, x81, x82, x83, x84, x85, x86, x87, x88, x89, x90, x91, x92, x93, x94, x95, x96, x97, x98, x99, x100, x101, x102, x103, x104, x105, x106, x107, x108, x109, x110, x111, x112, x113, x114, x115, x116, x117, x118, x119, x120, x121, x122, x123, x124, x125, x126, x127, x128, x129, x130, x131, x132, x133, x134, x135, x136, x137, x138, x139, x140, x141, x142, x143, x144, x145, x146, x147, x148, x149, x150, x151, x152, x153, x154, x155, x156, x157, x158, x159, x160, x161, x162, x163, x164, x165, x166, x167, x168, x169, x170, x171, x172, x173, x174, x175, x176, x177, x178, x179, x180, x181, x182, x183, x184, x185, x186, x187, x188, x189, x190, x191, x192, x193, x194], ds⟩ w') :
    Code.wp Tryz.prog stB2 Q ⟨#[.int .i64 c, x1, x2, x3, x4, x5, x6, x7, x8, x9, x10, x11, .pointer (some ⟨q.xb, 0, none⟩), x13, x14, x15, .int .i64 v, .int .i64 1, x18, x19, x20, x21, x22, x23, x24, x25, x26, x27, x28, x29, x30, x31, x32, x33, x34, x35, x36, x37, x38, x39, x40, x41, x42, x43, x44, x45, x46, x47, x48, x49, x50, x51, x52, x53, x54, x55, x56, x57, x58, x59, x60, x61, x62, x63, x64, x65, x66, x67, x68, x69, x70, x71, x72, x73, x74, x75, x76, x77, x78, x79, x80, x81, x82, x83, x84, x85, x86, x87, x88, x89, x90, x91, x92, x93, x94, x95, x96, x97, x98, x99, x100, x101, x102, x103, x104, x105, x106, x107, x108, x109, x110, x111, x112, x113, x114, x115, x116, x117, x118, x119, x120, x121, x122, x123, x124, x125, x126, x127, x128, x129, x130, x131, x132, x133, x134, x135, x136, x137, x138, x139, x140, x141, x142, x143, x144, x145, x146, x147, x148, x149, x150, x151, x152, x153, x154, x155, x156, x157, x158, x159, x160, x161, x162, x163, x164, x165, x166, x167, x168, x169, x170, x171, x172, x173, x174, x175, x176, x177, x178, x179, x180, x181, x182, x183, x184, x185, x186, x187, x188, x189, x190, x191, x192, x193, x194], ds⟩ W := by
  have HQ := Lib.hid hQ
  have HE := Lib.hid hE
  clear hQ hE
  conv => arg 2; whnf
  go_wp2_with fail
  go_loopw [17] (fun i wr => ∃ (k : Nat), 1 ≤ k ∧ k ≤ 4 ∧ i = .int .i64 k ∧ Eng (stN c) last (E + (4 - k)) true lo wr q ∧ FrK KB W wr ∧ Low lo W wr) (fun i _ => 4 - (intOf i).toNat)
  case atStart => exact ⟨1, Nat.le_refl _, by omega, rfl, HE.out, FrK.refl _ _, Low.refl _ _⟩
  case round =>
    obtain ⟨k, hk1, hk4, rfl, hEr, hfr, hlr⟩ := hrel
    have Hfr := Lib.hid hfr
    have Hlr := Lib.hid hlr
    have HEr := Lib.hid hEr
    clear hfr hlr hEr
    by_cases h3 : k ≤ 3
    · have h3I : (k : Int) ≤ 3 := by omega
      have hk0 : (0 : Int) ≤ k := by omega
      have hEr := HEr.out
      rw [show 4 - k = (4 - (k + 1)) + 1 by omega, ← Nat.add_assoc] at hEr
      have HM := Lib.hid (fun (w' : World) => st_many c (k : Int) hc (by omega) w')
      have HSt := Lib.hid (steps_calls wr (k : Int) (stN c k) (by omega) (by have := stN_range c k; omega))
      have HSub := Lib.hid (fun (w7 : World) (sv : Value) (hf7 : New wr w7) (hsv : StepsAt w7 sv (kSteps (k : Int) (stN c k))) => sub_eng (hEr.new hf7) (hg.low (Hlr.out.trans (hf7.low HEr.out.size (fun _ f => f.elim))) hlo) hlo (by omega) (stN_range c k) hsv)
      clear hEr
      go_upto_region 16 with (first
        | (go_at_call 24; refine Calls.mono (HM.out _) ?_; rintro e w7 ⟨rfl, rfl⟩)
        | (go_at_call 19; refine Calls.mono HSt.out ?_; rintro e w7 ⟨sv, rfl, hsv, hf7⟩; obtain ⟨sa, sn, sc, rfl⟩ := own_slice hsv)
        | fail)
      have hw6 := HEr.out.size
      cases hbit : (bits BinOp.and IntKind.i64 (v / 2 ^ k) 1 == 1)
      · have hE7 := (HEr.out.new hf7).less (k := E + (4 - (k + 1))) (by omega)
        have HE7 := Lib.hid hE7
        have Hf7 := Lib.hid hf7
        clear hE7 hf7 hsv HSub HSt HM
        go_wp2_with fail
        go_roundw
        case rel => exact ⟨k + 1, by omega, by omega, by go_num, HE7.out, Hfr.out.trans (new_KB Hf7.out), Hlr.out.trans (Hf7.out.low hw6 (fun _ f => f.elim))⟩
        case measure => simp [intOf]; omega
      · have HS2 := Lib.hid (HSub.out _ _ hf7 (hsv.at (by rw [kSteps_len]; have := stN_range c k; omega)))
        have Hf7 := Lib.hid hf7
        clear hf7 hsv HSub HSt HM
        go_wp2_with (first
          | (go_at_call 18; refine Calls.mono HS2.out ?_; rintro e w8 ⟨⟨x, rfl⟩, hE8, hk8, hl8⟩)
          | fail)
        have HE8 := Lib.hid hE8
        have Hk8 := Lib.hid hk8
        have Hl8 := Lib.hid hl8
        clear hE8 hk8 hl8 HS2
        go_roundw
        case rel => exact ⟨k + 1, by omega, by omega, by go_num, HE8.out, (Hfr.out.trans (new_KB Hf7.out)).trans Hk8.out, (Hlr.out.trans (Hf7.out.low hw6 (fun _ f => f.elim))).trans Hl8.out⟩
        case measure => simp [intOf]; omega
    · obtain rfl : k = 4 := by omega
      go_wp2_with fail
      exact HQ.out _ _ _ _ _ _ _ _ _ _ _ _ _ _ _ _ _ _ _ _ wr HEr.out Hfr.out Hlr.out
set_option maxRecDepth 100000 in
set_option maxHeartbeats 8000000 in
/-- The Ticks. -/
theorem st_b4 (c : Int) (last : Int → Int) (E t lo : Nat) (q : Pl) (W : World) (ht : t ≤ 3) (hE : Eng (stN c) last (E + 4 * t) true lo W q) (hg : Handle W) (hlo : 0 < lo)
    {ds : List Deferred} {x0 x1 x2 x3 x4 x5 x6 x7 x8 x9 x10 x11 x13 x14 x15 x16 x17 x18 x20 x21 x22 x23 x24 x25 x26 x27 x28 x29 x30 x31 x32 x33 x34 x35 x36 x37 x38 x39 x40 x41 x42 x43 x44 x45 x46 x47 x48 x49 x50 x51 x52 x53 x54 x55 x56 x57 x58 x59 x60 x61 x62 x63 x64 x65 x66 x67 x68 x69 x70 x71 x72 x73 x74 x75 x76 x77 x78 x79 x80 x81 x82 x83 x84 x85 x86 x87 x88 x89 x90 x91 x92 x93 x94 x95 x96 x97 x98 x99 x100 x101 x102 x103 x104 x105 x106 x107 x108 x109 x110 x111 x112 x113 x114 x115 x116 x117 x118 x119 x120 x121 x122 x123 x124 x125 x126 x127 x128 x129 x130 x131 x132 x133 x134 x135 x136 x137 x138 x139 x140 x141 x142 x143 x144 x145 x146 x147 x148 x149 x150 x151 x152 x153 x154 x155 x156 x157 x158 x159 x160 x161 x162 x163 x164 x165 x166 x167 x168 x169 x170 x171 x172 x173 x174 x175 x176 x177 x178 x179 x180 x181 x182 x183 x184 x185 x186 x187 x188 x189 x190 x191 x192 x193 x194 : Value} {Q : Exit → Act → World → Prop}
    (hQ : ∀ (y19 y81 y82 y83 y84 y85 y86 : Value) (w' : World), Eng (stN c) last E true lo w' q → FrK KB W w' → Low lo W w' → Q .normal ⟨#[x0, x1, x2, x3, x4, x5, x6, x7, x8, x9, x10, x11, .pointer (some ⟨q.xb, 0, none⟩), x13, x14, x15, x16, x17, x18, y19, x20, x21, x22, x23, x24, x25, x26, x27, x28, x29, x30, x31, x32, x33, x34, x35, x36, x37, x38, x39, x40, x41, x42, x43, x44, x45, x46, x47, x48, x49, x50, x51, x52, x53, x54, x55, x56, x57, x58, x59, x60, x61, x62, x63, x64, x65, x66, x67, x68, x69, x70, x71, x72, x73, x74, x75, x76, x77, x78, x79, x80, y81, y82, y83, y84, y85, y86, x87, x88, x89, x90, x91, x92, x93, x94, x95, x96, x97, x98, x99, x100, x101, x102, x103, x104, x105, x106, x107, x108, x109, x110, x111, x112, x113, x114, x115, x116, x117, x118, x119, x120, x121, x122, x123, x124, x125, x126, x127, x128, x129, x130, x131, x132, x133, x134, x135, x136, x137, x138, x139, x140, x141, x142, x143, x144, x145, x146, x147, x148, x149, x150, x151, x152, x153, x154, x155, x156, x157, x158, x159, x160, x161, x162, x163, x164, x165, x166, x167, x168, x169, x170, x171, x172, x173, x174, x175, x176, x177, x178, x179, x180, x181, x182, x183, x184, x185, x186, x187, x188, x189, x190, x191, x192, x193, x194], ds⟩ w') :
    Code.wp Tryz.prog stB4 Q ⟨#[x0, x1, x2, x3, x4, x5, x6, x7, x8, x9, x10, x11, .pointer (some ⟨q.xb, 0, none⟩), x13, x14, x15, x16, x17, x18, .int .i64 t, x20, x21, x22, x23, x24, x25, x26, x27, x28, x29, x30, x31, x32, x33, x34, x35, x36, x37, x38, x39, x40, x41, x42, x43, x44, x45, x46, x47, x48, x49, x50, x51, x52, x53, x54, x55, x56, x57, x58, x59, x60, x61, x62, x63, x64, x65, x66, x67, x68, x69, x70, x71, x72, x73, x74, x75, x76, x77, x78, x79, x80, x81, x82, x83, x84, x85, x86, x87, x88, x89, x90, x91, x92, x93, x94, x95, x96, x97, x98, x99, x100, x101, x102, x103, x104, x105, x106, x107, x108, x109, x110, x111, x112, x113, x114, x115, x116, x117, x118, x119, x120, x121, x122, x123, x124, x125, x126, x127, x128, x129, x130, x131, x132, x133, x134, x135, x136, x137, x138, x139, x140, x141, x142, x143, x144, x145, x146, x147, x148, x149, x150, x151, x152, x153, x154, x155, x156, x157, x158, x159, x160, x161, x162, x163, x164, x165, x166, x167, x168, x169, x170, x171, x172, x173, x174, x175, x176, x177, x178, x179, x180, x181, x182, x183, x184, x185, x186, x187, x188, x189, x190, x191, x192, x193, x194], ds⟩ W := by
  have HQ := Lib.hid hQ
  have HE := Lib.hid hE
  clear hQ hE
  conv => arg 2; whnf
  go_wp2_with fail
  go_loopw [19] (fun i wr => ∃ (k : Nat), k ≤ 3 ∧ i = .int .i64 k ∧ Eng (stN c) last (E + 4 * k) true lo wr q ∧ FrK KB W wr ∧ Low lo W wr) (fun i _ => (intOf i).toNat)
  case atStart => exact ⟨t, ht, rfl, HE.out, FrK.refl _ _, Low.refl _ _⟩
  case round =>
    obtain ⟨k, hk3, rfl, hEr, hfr, hlr⟩ := hrel
    have Hfr := Lib.hid hfr
    have Hlr := Lib.hid hlr
    have HEr := Lib.hid hEr
    clear hfr hlr hEr
    cases k with
    | zero =>
      go_wp2_with fail
      exact HQ.out _ _ _ _ _ _ _ wr HEr.out Hfr.out Hlr.out
    | succ k =>
      have hk0 : (0 : Int) < ((k + 1 : Nat) : Int) := by omega
      have hw : wrap64 (((k + 1 : Nat) : Int) - 1) = (k : Int) := by rw [wrap_in _ (by omega)]; omega
      have hEr := HEr.out
      rw [show 4 * (k + 1) = 4 * k + 4 by omega, ← Nat.add_assoc] at hEr
      have HT := Lib.hid (tick_eng hEr (hg.low Hlr.out hlo) hlo)
      generalize hz : ((k + 1 : Nat) : Int) = z at hk0 hw ⊢
      clear hEr
      go_wp2_with (first
        | (go_at_call 20; refine Calls.mono HT.out ?_; rintro e w8 ⟨⟨x, rfl⟩, hE8, hk8, hl8⟩)
        | fail)
      have HE8 := Lib.hid hE8
      have Hk8 := Lib.hid hk8
      have Hl8 := Lib.hid hl8
      clear hE8 hk8 hl8 HT
      go_roundw
      case rel => exact ⟨k, by omega, by rw [show z - 1 = (k : Int) by omega], HE8.out, Hfr.out.trans Hk8.out, Hlr.out.trans Hl8.out⟩
      case measure => rw [show z - 1 = (k : Int) by omega, ← hz]; show (k : Int).toNat < ((k + 1 : Nat) : Int).toNat; omega
end Go.Proofs.YtkafmfdipmhleaaGreatDoor

namespace Go.Proofs.YtkafmfdipmhleaaGreatDoor
open Go.RowKit Go.Maps

theorem st_pick (c n : Int) (hc : i64 c) (hn : 0 < n ∧ n ≤ 9223372036854775807) (w : World) : Calls Tryz.prog 16 #[.int .i64 c, .int .i64 n] w fun e w' => e = .returned (.int .i64 (pickM c n)) ∧ w = w' :=
  Calls.mono (pick_calls w c n hc hn) (fun _ _ h => ⟨h.1, h.2.symm⟩)
theorem st_18 {E t : Nat} (h : t ≤ 3) : E + 6 + 4 * t ≤ E + 18 := by omega
theorem DP.any {n : Int → Nat} {last : Int → Int} {m : Nat} {b qt : Bool} {lo : Nat} {w : World} {db bb pb : Nat} (h : DP n last m b qt lo w db bb pb) : DP n last m b false lo w db bb pb := by
  obtain ⟨d, p, e0, e1, h1, h2, h3, h4, _⟩ := h
  exact ⟨d, p, e0, e1, h1, h2, h3, h4, fun h => by (cases h)⟩
set_option maxRecDepth 100000 in
set_option maxHeartbeats 8000000 in
theorem Straight_calls {w : World} {c : Int} {rv cuv kev : Value} {r cu ke : List Int} (hrv : IntsIn w rv r) (hcu : IntsIn w cuv cu) (hke : IntsIn w kev ke) (hc : i64 c) (hcz : ∀ x ∈ cu, i64 x) (hg : Handle w) :
    Calls Tryz.prog 5 #[.int .i64 c, rv, cuv, kev] w fun e w' => e = .returned (.bool true) ∧ Low w.heap.size w w' := by
  obtain ⟨ca, cc, rfl⟩ := hcu.shape
  have Hcu := Lib.hid hcu
  have Hke := Lib.hid hke
  have Hc := Lib.hid hc
  have Hcz := Lib.hid hcz
  have Hg := Lib.hid hg
  have Hpos := Lib.hid (handle_pos hg)
  have HFew1 := Lib.hid (few_in hrv 60 (by omega))
  have Hr60 : Hid ((r.take 60).length ≤ 60) := by show _ ≤ _; rw [List.length_take]; omega
  clear hcu hke hc hcz hg hrv
  have hmk : ∀ w, (Instr.makeSlice 22 (.int .i64 4) (.int .i64 4)).run Tryz.prog w = .ok (.slice (some ⟨w.heap.size, 0, none⟩) 4 4) (w.alloc (.cells #[.int .i64 0, .int .i64 0, .int .i64 0, .int .i64 0] 3)) := fun _ => by kernel_rfl
  go_enter Tryz.func5, Tryz.ntmps5
  go_upto_region 3 with (first
    | (go_at_call 14; refine Calls.mono HFew1.out ?_; rintro e w1 ⟨v1, rfl, hown1, hf1⟩)
    | (go_at_call 15; refine Calls.mono (NewPartner_calls (own_ints hown1) (by have := Hr60.out; omega) w.heap.size hf1.size) ?_; rintro e w3 ⟨pb, rfl, hpb, hp3, hf3⟩)
    | fail)
  have hpk := pickM_range c 4 (by omega)
  have hwp : wrap64 (1 + pickM c 4) = 1 + pickM c 4 := wrap_in _ (by omega)
  have HPk := Lib.hid (fun (w' : World) => st_pick c 4 Hc.out (by omega) w')
  have HB := Lib.hid (begun_calls (n := 120) hp3 (by omega) (pause := 1 + pickM c 4) (by omega))
  have HL3 := Lib.hid ((hf1.low (Nat.le_refl w.heap.size) (fun _ f => f.elim)).trans (hf3.low hf1.size (fun _ f => f.elim)))
  have Hpz : Hid (1 ≤ 1 + pickM c 4 ∧ 1 + pickM c 4 ≤ 64) := by show _ ∧ _; omega
  generalize pickM c 4 = pz at hwp HPk HB Hpz
  generalize r.take 60 = R at Hr60 HB
  clear hpk hown1 hf1 hpb hp3 hf3 HFew1
  go_upto_region 6 with (first
    | (go_at_call 16; refine Calls.mono (HPk.out _) ?_; rintro e w4 ⟨rfl, rfl⟩)
    | (go_at_call 17; refine Calls.mono HB.out ?_; rintro e w6 ⟨q, hqp, rfl, hs6, hl6, hz6⟩)
    | fail)
  have HO6 := Lib.hid (fresh_opn (n := stN c) (m := 400) hs6 Hpz.out Hr60.out (by omega))
  have HL6 := Lib.hid (HL3.out.trans hl6)
  have HFew := Lib.hid (few_in (ints_Low Hke.out HL6.out) 40 (by omega))
  clear hs6 hl6 hz6 HB HL3 Hke
  go_upto_region 7 with (first
    | (go_at_call 14; refine Calls.mono HFew.out ?_; rintro e w7 ⟨kv, rfl, hown7, hf7⟩)
    | fail)
  have HO7 := Lib.hid (HO6.out.new hf7)
  have HL7 := Lib.hid (HL6.out.trans (hf7.low HL6.out.size (fun _ f => f.elim)))
  have hki := own_ints hown7
  have Hki := Lib.hid hki
  have Hkb : Hid (∀ a m c, kv = .slice (some a) m c → a.block < w7.heap.size) := by
    intro a m c' e
    subst e
    exact (own_lt hown7 rfl)
  clear hf7 hown7 hki HO6 HL6 HFew
  have hN8 : New w7 (w7.alloc (.cells #[.int .i64 0, .int .i64 0, .int .i64 0, .int .i64 0] 3)) := (Fr.refl _ w7).alloc _
  have hpb7 : q.pb < w7.heap.size := by
    obtain ⟨⟨_, _, _, _, h1, _⟩⟩ := HO7.out.st.pt
    exact lt_of_hp h1
  have HK8 : Hid (KL (w7.alloc (.cells #[.int .i64 0, .int .i64 0, .int .i64 0, .int .i64 0] 3)) q.pb kv (ke.take 40) w7.heap.size (fun _ => 0)) :=
    ⟨Hki.out.new hN8, fun a m c e => by have := Hkb.out a m c e; omega, heap_alloc_new w7 _, hpb7⟩
  have HE8 := Lib.hid (HO7.out.new hN8).eng
  have HL8 := Lib.hid (HL7.out.trans (hN8.low HL7.out.size (fun _ f => f.elim)))
  have Hlb : Hid (w.heap.size ≤ w7.heap.size) := HL7.out.size
  clear hN8 hpb7 HO7 HL7 Hki Hkb
  go_upto_region 8 with fail
  generalize w7.alloc (.cells #[.int .i64 0, .int .i64 0, .int .i64 0, .int .i64 0] 3) = w8 at HK8 HE8 HL8 ⊢
  generalize w7.heap.size = lb at HK8 Hlb ⊢
  clear hmk
  go_wp2_with fail
  go_loopw [11, 12, 15] (fun d x i wr => ∃ (j : Nat) (q : Pl) (last : Int → Int), j ≤ 12 ∧ j ≤ cu.length ∧ i = .int .i64 j ∧ d = .pointer (some ⟨q.db, 0, none⟩) ∧ x = .pointer (some ⟨q.xb, 0, none⟩) ∧ q.pb = pb ∧ Eng (stN c) last (30 * (12 - j) + 10) true w.heap.size wr q ∧ KL wr pb kv (ke.take 40) lb last ∧ Low w.heap.size w wr) (fun _ _ i _ => 12 - (intOf i).toNat)
  case atStart => exact ⟨0, q, fun _ => 0, by omega, by omega, rfl, rfl, rfl, hqp, HE8.out.less (by omega), by rw [← hqp]; exact HK8.out, HL8.out⟩
  case round =>
    obtain ⟨j, q2, last, hj, hjl, rfl, rfl, rfl, hqp2, hE, hK, hL⟩ := hrel
    have HE := Lib.hid hE
    have HK := Lib.hid hK
    have HL := Lib.hid hL
    clear hE hK hL HE8 HK8 HL8
    by_cases h1 : j < cu.length
    · by_cases h2 : j < 12
      · obtain ⟨E, hE⟩ : ∃ E, E = 30 * (12 - (j + 1)) + 10 := ⟨_, rfl⟩
        have HE1 : Hid (Eng (stN c) last (E + 18 + 3) true w.heap.size wr q2) := HE.out.less (by omega)
        have HEe := Lib.hid hE
        have HgR := Lib.hid (Hg.out.low HL.out Hpos.out)
        have Hj1 := Lib.hid h1
        have Hj2 := Lib.hid h2
        obtain ⟨cb, coff, rfl, hcell⟩ := (ints_Low Hcu.out (HL.out)).at j cu[j] (List.getElem?_eq_getElem h1)
        have hcx := hcell wr (Fr.refl _ _)
        have hix : i64 cu[j] := Hcz.out _ (List.getElem_mem h1)
        generalize cu[j] = x at hcx hix
        have HPv := Lib.hid (st_pick x 1073741824 hix (by omega) wr)
        have hv := pickM_range x 1073741824 (by omega)
        generalize pickM x 1073741824 = v at HPv hv
        have h1I : (j : Int) < cu.length := by omega
        have h2I : (j : Int) < 12 := by omega
        have hj0 : (0 : Int) ≤ j := by omega
        clear hcell hix h1 h2 hE HE
        go_upto_block 2 with (first
          | (go_at_call 16; refine Calls.mono HPv.out ?_; rintro e w4 ⟨rfl, rfl⟩)
          | fail)
        refine st_b2 c v last (E + 18) w.heap.size q2 wr Hc.out (by omega) HE1.out HgR.out Hpos.out ?_
        intros
        rename_i w10 hE10 hk10 hl10
        have d16 : v.tdiv 16 = v / 16 := Int.tdiv_eq_ediv_of_nonneg hv.1
        have m16 : (v / 16).tmod 4 = v / 16 % 4 := Int.tmod_eq_emod_of_nonneg (by omega)
        have w16 : wrap64 (v / 16) = v / 16 := wrap_in _ (by omega)
        obtain ⟨t, ht⟩ : ∃ t : Nat, v / 16 % 4 = (t : Int) := ⟨(v / 16 % 4).toNat, by omega⟩
        have ht3 : t ≤ 3 := by omega
        have wt : wrap64 (t : Int) = t := wrap_in _ (by omega)
        rw [ht] at m16
        have Hv := Lib.hid hv
        have Hk10 := Lib.hid hk10
        have Hl10 := Lib.hid hl10
        have HE10 : Hid (Eng (stN c) last (E + 6 + 4 * t) true w.heap.size w10 q2) := hE10.less (st_18 ht3)
        clear hE10 hk10 hl10 HE1 HPv hcx h1I h2I ht hv
        go_upto_block 4 with fail
        refine st_b4 c last (E + 6) t w.heap.size q2 w10 ht3 HE10.out (HgR.out.low Hl10.out Hpos.out) Hpos.out ?_
        intros
        rename_i w11 hE11 hk11 hl11
        have HE11 := Lib.hid hE11
        have Hk11 := Lib.hid (Hk10.out.trans hk11)
        have Hl11 := Lib.hid (Hl10.out.trans hl11)
        clear hE11 hk11 hl11 HE10 Hk10 Hl10 d16 m16 w16 wt ht3
        have hv := Hv.out
        have d1 : v.tdiv 8192 = v / 8192 := Int.tdiv_eq_ediv_of_nonneg hv.1
        have d2 : (v / 8192).tmod 2 = v / 8192 % 2 := Int.tmod_eq_emod_of_nonneg (by omega)
        have d3 : wrap64 (v / 8192) = v / 8192 := wrap_in _ (by omega)
        have d4 : wrap64 (v / 8192 % 2) = v / 8192 % 2 := wrap_in _ (by omega)
        have f1 : v.tdiv 64 = v / 64 := Int.tdiv_eq_ediv_of_nonneg hv.1
        have f2 : (v / 64).tmod 20 = v / 64 % 20 := Int.tmod_eq_emod_of_nonneg (by omega)
        have f3 : wrap64 (v / 64) = v / 64 := wrap_in _ (by omega)
        have f4 : wrap64 (v / 64 % 20) = v / 64 % 20 := wrap_in _ (by omega)
        have k1 : v.tdiv 4096 = v / 4096 := Int.tdiv_eq_ediv_of_nonneg hv.1
        have k2 : (v / 4096).tmod 2 = v / 4096 % 2 := Int.tmod_eq_emod_of_nonneg (by omega)
        have k3 : wrap64 (v / 4096) = v / 4096 := wrap_in _ (by omega)
        have k4 : wrap64 (v / 4096 % 2) = v / 4096 % 2 := wrap_in _ (by omega)
        clear hv
        go_upto_if 90 with fail
        go_cut [] from 45 to 194 (fun wc => Eng (stN c) last (E + 6) (decide (¬ v / 8192 % 2 = 0)) w.heap.size wc q2 ∧ FrK KB wr wc ∧ Low w.heap.size wr wc)
        case first =>
          by_cases h8 : v / 8192 % 2 = 0
          · have HOff := Lib.hid (off_eng HE11.out (v / 64 % 20))
            go_wp2_with (first
              | (go_at_call 27; refine Calls.mono HOff.out ?_; rintro e w12 ⟨rfl, hE12, hk12, hl12⟩)
              | fail)
            go_meet
            case rel => exact ⟨by rw [decide_eq_false (fun h => h h8)]; exact hE12, Hk11.out.trans hk12, Hl11.out.trans hl12⟩
          · have HOff := Lib.hid (bad_eng HE11.out (v / 64 % 20) 1)
            go_wp2_with (first
              | (go_at_call 28; refine Calls.mono HOff.out ?_; rintro e w12 ⟨rfl, hE12, hk12, hl12⟩)
              | fail)
            go_meet
            case rel => exact ⟨by rw [decide_eq_true h8]; exact hE12, Hk11.out.trans hk12, Hl11.out.trans hl12⟩
        case rest =>
          obtain ⟨hE12, hk12, hl12⟩ := hcut
          have HE12 := Lib.hid hE12
          have Hk12 := Lib.hid hk12
          have Hl12 := Lib.hid hl12
          clear hE12 hk12 hl12 HE11 Hk11 Hl11 f1 f2 f3 f4
          go_upto_if 104 with fail
          go_cut [] from 45 to 194 (fun wc => Eng (stN c) last (E + 5) (decide (¬ v / 8192 % 2 = 0)) w.heap.size wc q2 ∧ FrK KB wr wc ∧ Low w.heap.size wr wc)
          case first =>
            by_cases h4 : v / 4096 % 2 = 0
            · have HM := Lib.hid (fun (w' : World) => st_many c 3 Hc.out (by omega) w')
              have HSt := Lib.hid (fun (w' : World) => steps_calls w' 3 (stN c 3) (by omega) (by have := stN_range c 3; omega))
              have HSub := Lib.hid (fun (w7 : World) (sv : Value) (hf7 : New wc w7) (hsv : StepsAt w7 sv (kSteps 3 (stN c 3))) => sub_eng (HE12.out.new hf7) (HgR.out.low (Hl12.out.trans (hf7.low HE12.out.size (fun _ f => f.elim))) Hpos.out) Hpos.out (by omega) (stN_range c 3) hsv)
              go_wp2_with (first
                | (go_at_call 24; refine Calls.mono (HM.out _) ?_; rintro e w7 ⟨rfl, rfl⟩)
                | (go_at_call 19; refine Calls.mono (HSt.out _) ?_; rintro e w7 ⟨sv, rfl, hsv, hf7⟩; obtain ⟨sa, sn, sc, rfl⟩ := own_slice hsv)
                | (go_at_call 18; refine Calls.mono (HSub.out _ _ hf7 (hsv.at (by rw [kSteps_len]; have := stN_range c 3; omega))) ?_; rintro e w8 ⟨⟨xx, rfl⟩, hE13, hk13, hl13⟩)
                | fail)
              go_meet
              case rel => exact ⟨hE13, (Hk12.out.trans (new_KB hf7)).trans hk13, (Hl12.out.trans (hf7.low HE12.out.size (fun _ f => f.elim))).trans hl13⟩
            · go_wp2_with fail
              go_meet
              case rel => exact ⟨HE12.out.less (Nat.le_succ _), Hk12.out, Hl12.out⟩
          case rest =>
            obtain ⟨hE13, hk13, hl13⟩ := hcut
            have HT := Lib.hid (tick_eng (m := E + 1) hE13 (HgR.out.low hl13 Hpos.out) Hpos.out)
            have Hk13 := Lib.hid hk13
            have Hl13 := Lib.hid hl13
            clear hE13 hk13 hl13 HE12 Hk12 Hl12 k1 k2 k3 k4
            go_upto_if 115 with (first
              | (go_at_call 20; refine Calls.mono HT.out ?_; rintro e w14 ⟨⟨xx, rfl⟩, hE14, hk14, hl14⟩)
              | fail)
            have HE14 := Lib.hid hE14
            have Hk14 := Lib.hid (Hk13.out.trans hk14)
            have Hl14 := Lib.hid (Hl13.out.trans hl14)
            clear hE14 hk14 hl14 HT Hk13 Hl13
            go_cut [11] from 45 to 194 (fun d wc => ∃ db bb, d = .pointer (some ⟨db, 0, none⟩) ∧ DP (stN c) last (E + 1) true false w.heap.size wc db bb pb ∧ FrK KB wr wc ∧ Low w.heap.size wr wc)
            case first =>
              by_cases h8 : v / 8192 % 2 = 0
              · have hK14 := HK.out.keep Hk14.out
                have hD14 := HE14.out.dp
                rw [hqp2] at hD14
                have HA := Lib.hid (after_dp hD14 (by have := HEe.out; omega) hK14.kin)
                go_wp2_with (first
                  | (go_at_call 29; refine Calls.mono HA.out ?_; rintro e w15 ⟨eb, gb, rfl, hd15, hk15, hl15⟩)
                  | fail)
                go_meet
                case rel => exact ⟨eb, gb, rfl, hd15.any, Hk14.out.trans hk15, Hl14.out.trans hl15⟩
              · have hD14 := HE14.out.dp
                rw [hqp2, decide_eq_true h8] at hD14
                go_wp2_with fail
                go_meet
                case rel => exact ⟨q2.db, q2.bb, rfl, hD14, Hk14.out, Hl14.out⟩
            case rest =>
              obtain ⟨db, bb, rfl, hD15, hk15, hl15⟩ := hcut
              have HBd := Lib.hid (bad_dp hD15)
              have Hk15 := Lib.hid hk15
              have Hl15 := Lib.hid hl15
              have HEm : Hid (E ≤ 10000) := by have := HEe.out; show _ ≤ _; omega
              clear hD15 hk15 hl15 HE14 Hk14 Hl14 d1 d2 d3 d4
              go_upto_region 31 with (first
                | (go_at_call 28; refine Calls.mono HBd.out ?_; rintro e w16 ⟨rfl, hd16, hk16, hl16⟩)
                | fail)
              have HOp := Lib.hid (open_dp hd16 HEm.out (1 + pz) Hpz.out)
              have Hk16 := Lib.hid (Hk15.out.trans hk16)
              have Hl16 := Lib.hid (Hl15.out.trans hl16)
              clear hd16 hk16 hl16 HBd Hk15 Hl15
              go_upto_region 35 with (first
                | (go_at_call 16; refine Calls.mono (HPk.out _) ?_; rintro e w17 ⟨rfl, rfl⟩)
                | (go_at_call 30; refine Calls.mono HOp.out ?_; rintro e w18 ⟨q3, bl, s, e0, e1, rfl, rfl, hpb3, hO18, hk18, hl18⟩)
                | fail)
              have HPd := Lib.hid (pending_opn hO18)
              have Hk18 := Lib.hid (Hk16.out.trans hk18)
              have Hl18 := Lib.hid (Hl16.out.trans hl18)
              have Hpb3 := Lib.hid hpb3
              clear hO18 hk18 hl18 hpb3 HOp Hk16 Hl16
              go_upto_block 6 with (first
                | (go_at_call 31; refine Calls.mono HPd.out ?_; rintro e w19 ⟨rfl, rfl, hO19⟩)
                | fail)
              have hp3 := Hpb3.out
              subst hp3
              have hO20 : Opn (stN c) last E w.heap.size (s.d.pending == 0) bl s e0 e1 w18 q3 := hO19
              generalize (s.d.pending == 0) = sure at hO20 ⊢
              clear hO19 HPd
              refine st_b6 c last E w.heap.size bl s e0 e1 q3 lb kv (ke.take 40) sure w18 Hc.out hO20 (HK.out.keep Hk18.out) Hlb.out ?_
              intros
              rename_i la w21 hO21 hK21 hl21
              have HE21 := Lib.hid hO21.eng
              have HK21 := Lib.hid hK21
              have Hl21 := Lib.hid (HL.out.trans (Hl18.out.trans hl21))
              clear hO20 hO21 hK21 hl21
              go_wp2_with fail
              go_roundw
              case rel =>
                refine ⟨j + 1, q3, la, ?_, ?_, ?_, rfl, rfl, rfl, ?_, HK21.out, Hl21.out⟩
                · have := Hj2.out; omega
                · have := Hj1.out; omega
                · go_num
                · rw [← HEe.out]; exact HE21.out
              case measure => have := Hj2.out; simp [intOf]; omega
      · have h1I : (j : Int) < cu.length := by omega
        have h2I : ¬ ((j : Int) < 12) := by omega
        go_wp2_with fail
        go_ret
        exact ⟨rfl, HL.out⟩
    · have h1I : ¬ ((j : Int) < cu.length) := by omega
      go_wp2_with fail
      go_ret
      exact ⟨rfl, HL.out⟩
end Go.Proofs.YtkafmfdipmhleaaGreatDoor
