/-
  What is proved: the given statement of Again: for every input it returns true, and each argument reads as it did. Conditions: those of the row (the listed variable starts as the program's text lays it: tied by the card).
-/
import Derived.Test.YtkafmfdipmhleaaGreatDoorAy7
import Derived.Test.YtkafmfdipmhleaaGreatDoorRows
import Derived.ChangeSame
import Derived.ChangeVars
import Derived.ChangeSlices
import Derived.JoinedOf
import Derived.RowKit
import Derived.RowKitTokens
import Derived.LaidLaws
import Derived.LaidHandle
import Derived.Stop.Joined
import Derived.Carry
import Derived.Test.YtkafmfdipmhleaaGreatDoorCards
import Derived.Test.YtkafmfdipmhleaaGreatDoorTie

namespace Go.Proofs.YtkafmfdipmhleaaGreatDoor
open Go.RowKit Go.Maps

theorem steps_shape {w : World} {B : Nat} {v : Value} {x : Int} {m : Nat} (h : StepsVal w B v (kSteps x m)) : ∃ a c, v = .slice a m c ∧ (m = 0 ∨ (1 ≤ m ∧ ∃ g cur, a = some ⟨g, 0, none⟩ ∧ B ≤ g ∧ w.heap[g]? = some (.cells cur 54 (0, 0)) ∧ m * 2 ≤ cur.size ∧ cur.toList.take (m * 2) = stepCells (kSteps x m))) := by
  have hl := kSteps_len x m
  obtain ⟨h1, h2⟩ := h
  rw [hl] at h2
  rcases h2 with ⟨rfl, h0⟩ | ⟨g, cap, cur, rfl, hg, hh, hmc, _, hsz, htk⟩
  · exact ⟨none, 0, by rw [h0], .inl h0⟩
  · by_cases hm : m = 0
    · subst hm
      exact ⟨_, _, rfl, .inl rfl⟩
    · exact ⟨_, cap, rfl, .inr ⟨by omega, g, cur, rfl, hg, hh, by rw [hsz]; omega, htk⟩⟩
/-- The first undo written anew. -/
def firstU (u : ByteArray) : List (ByteArray × ByteArray) → List (ByteArray × ByteArray)
  | [] => []
  | (a, _) :: t => (a, u) :: t
theorem firstU_len (u : ByteArray) (l : List (ByteArray × ByteArray)) : (firstU u l).length = l.length := by
  cases l with
  | nil => rfl
  | cons a t => rfl
theorem kSteps_cons (x : Int) (m : Nat) (hm : 1 ≤ m) : ∃ t, kSteps x m = kStep x 0 :: t ∧ anyLong t = false ∧ t.length + 1 = m := by
  obtain ⟨n, rfl⟩ : ∃ n, m = n + 1 := ⟨m - 1, by omega⟩
  refine ⟨(List.range n).map fun i => kStep x ((i + 1 : Nat) : Int), ?_, ?_, by simp⟩
  · simp [kSteps, List.range_succ_eq_map]
  · unfold anyLong
    rw [List.any_eq_false]
    intro y hy
    simp only [List.mem_map] at hy
    obtain ⟨i, _, rfl⟩ := hy
    have e1 : (kStep x ((i + 1 : Nat) : Int)).1.size = 3 := rfl
    have e2 : (kStep x ((i + 1 : Nat) : Int)).2.size = 3 := rfl
    simp only [longB, e1, e2]
    simp
theorem firstU_long (x : Int) (m : Nat) (hm : 1 ≤ m) (u : ByteArray) : anyLong (firstU u (kSteps x m)) = decide (8 < u.size) := by
  obtain ⟨t, h1, h2, _⟩ := kSteps_cons x m hm
  rw [h1]
  have key : ∀ (a : ByteArray), a.size = 3 → anyLong ((a, u) :: t) = decide (8 < u.size) := by
    intro a ha
    unfold anyLong at h2 ⊢
    rw [List.any_cons, h2]
    simp [longB, ha]
  exact key (kStep x 0).1 rfl
theorem firstU_same (x : Int) (m : Nat) (hm : 1 ≤ m) : firstU (kStep x 0).2 (kSteps x m) = kSteps x m := by
  obtain ⟨t, h1, _, _⟩ := kSteps_cons x m hm
  rw [h1]; rfl
theorem whole_of (id : Int) (x : Int) (m : Nat) (hm : 1 ≤ m) (u : ByteArray) : wholeB id (firstU u (kSteps x m)) = (decide (1 ≤ id) && decide (id ≤ 1000) && decide (m ≤ 6) && !decide (8 < u.size)) := by
  unfold wholeB
  rw [firstU_long x m hm u, firstU_len, kSteps_len, show decide (1 ≤ m) = true from decide_eq_true hm, Bool.and_true]
/-- The slice behind the store. -/
theorem stepsAt_set {w : World} {g c : Nat} {m : Nat} {x : Int} {cur : Array Value} (hm : 1 ≤ m) (hh : w.heap[g]? = some (.cells cur 54 (0, 0))) (hz : m * 2 ≤ cur.size) (ht : cur.toList.take (m * 2) = stepCells (kSteps x m)) (u : ByteArray) :
    StepsAt (w.setCell ⟨g, 1, none⟩ (.string u)) (.slice (some ⟨g, 0, none⟩) m c) (firstU u (kSteps x m)) := by
  obtain ⟨t, h1, _, h3⟩ := kSteps_cons x m hm
  refine ⟨g, 0, c, cur.setIfInBounds 1 (.string u), by rw [firstU_len, kSteps_len], ?_, fun j hj => ?_⟩
  · rw [hp_setCell, if_pos rfl, hh]; rfl
  · rw [firstU_len, kSteps_len] at hj
    have e : cur[j]? = (stepCells (kSteps x m))[j]? := by
      rw [← ht, List.getElem?_take_of_lt (by omega)]; simp
    rw [h1] at e ⊢
    rw [Nat.zero_add, Array.getElem?_setIfInBounds]
    rcases j with _ | _ | j
    · rw [if_neg (by omega), e]; rfl
    · rw [if_pos rfl, if_pos (by omega)]; rfl
    · rw [if_neg (by omega), e]; rfl
theorem stepsAt_own {w : World} {g c : Nat} {m : Nat} {x : Int} {cur : Array Value} (hh : w.heap[g]? = some (.cells cur 54 (0, 0))) (ht : cur.toList.take (m * 2) = stepCells (kSteps x m)) :
    StepsAt w (.slice (some ⟨g, 0, none⟩) m c) (kSteps x m) := by
  refine ⟨g, 0, c, cur, by rw [kSteps_len], hh, fun j hj => ?_⟩
  rw [kSteps_len] at hj
  rw [← ht, List.getElem?_take_of_lt (by omega)]; simp
theorem undo_cell {w : World} {g : Nat} {m : Nat} {x : Int} {cur : Array Value} (hm : 1 ≤ m) (hh : w.heap[g]? = some (.cells cur 54 (0, 0))) (ht : cur.toList.take (m * 2) = stepCells (kSteps x m)) : w.cell? ⟨g, 1, none⟩ = some (.string (kStep x 0).2) := by
  obtain ⟨t, h1, _, _⟩ := kSteps_cons x m hm
  rw [cellv, hh, cellOf_cells]
  have e : cur[1]? = (stepCells (kSteps x m))[1]? := by
    rw [← ht, List.getElem?_take_of_lt (by omega)]; simp
  rw [e, h1]; rfl
theorem eq38 (a b c d e f : Int) (w : World) : (Op.equalIn 10000 38 (.agg #[.int .i64 a, .int .i64 b, .int .i64 c, .int .i64 d, .int .i64 e, .int .i64 f]) (.agg #[.int .i64 a, .int .i64 b, .int .i64 c, .int .i64 d, .int .i64 e, .int .i64 f])).run Tryz.prog w = .ok true w := by
  have hS : Tryz.prog.underlying 38 = some (.struct (Tryz.prog.fieldsOf 38)) := by kernel_rfl
  have hp : Tryz.prog.stoodInHeld 38 = false := by kernel_rfl
  have u3 := Tryz.underlying3
  rw [show (10000 : Nat) = 9999 + 1 from rfl, run_equalIn_agg w 9999 38 _ _ hS hp]
  simp only [Program.fieldsOf, Tryz.underlying38]
  go_simp
theorem Tryz.guard38 : Tryz.prog.eqGuardType Tryz.prog.depth 38 = false := by kernel_rfl
/-- The first p digits. -/
def digs (p : Nat) : ByteArray := (ByteArray.mk #[48, 49, 50, 51, 52, 53, 54, 55, 56, 57]).extract 0 p
theorem digs_size (p : Nat) (hp : p ≤ 10) : (digs p).size = p := by
  unfold digs
  rw [ByteArray.size_extract]
  show min p 10 - 0 = p
  omega
end Go.Proofs.YtkafmfdipmhleaaGreatDoor

namespace Go.Proofs.YtkafmfdipmhleaaGreatDoor
open Go.RowKit Go.Maps

theorem ag_sub1 {w : World} {q : Pl} {l : List Int} {lo n1 : Nat} {v : Value} (hs : StAt w q [] (ag0 l lo)) (hv : StepsAt w v (kSteps 1 n1)) (hn : 1 ≤ n1 ∧ n1 ≤ 6) :
    Calls Tryz.prog 18 #[.pointer (some ⟨q.xb, 0, none⟩), .int .i64 1, v] w fun e w' => e = .returned .nilIface ∧ (∃ bl', StAt w' q bl' (ag1 l lo n1)) ∧ FrK [0, 103, 104, 133, 80] w w' ∧ Low lo w w' :=
  Submit_calls (id := 1) (l := kSteps 1 n1) hs (ag0_inv l lo) hv (kSteps_whole 1 n1 (by omega) hn) (fun x hx => by simp [ag0, StM.fresh] at hx) (ag0_room l lo n1 hn)
theorem ag_sub2 {w : World} {q : Pl} {bl : List Nat} {l : List Int} {lo n1 n2 : Nat} {v : Value} (hs : StAt w q bl (ag1 l lo n1)) (hv : StepsAt w v (kSteps 2 n2)) (hl : l.length ≤ 60) (hn : 1 ≤ n1 ∧ n1 ≤ 6) (hn2 : 1 ≤ n2 ∧ n2 ≤ 6) :
    Calls Tryz.prog 18 #[.pointer (some ⟨q.xb, 0, none⟩), .int .i64 2, v] w fun e w' => e = .returned .nilIface ∧ (∃ bl', StAt w' q bl' (ag2 l lo n1 n2)) ∧ FrK [0, 103, 104, 133, 80] w w' ∧ Low lo w w' :=
  Submit_calls (id := 2) (l := kSteps 2 n2) hs (ag1_inv l lo n1 hl hn).1 hv (kSteps_whole 2 n2 (by omega) hn2) (ag1_new l lo n1) (ag1_room l lo n1 n2 hn hn2)
theorem ag2_clock (l : List Int) (lo n1 n2 : Nat) : (ag2 l lo n1 n2).clock = 0 := rfl
theorem ag_tick1 {w : World} {q : Pl} {bl : List Nat} {l : List Int} {lo n1 n2 : Nat} (hs : StAt w q bl (ag2 l lo n1 n2)) (hl : l.length ≤ 60) (hn : 1 ≤ n1 ∧ n1 ≤ 6) (hn2 : 1 ≤ n2 ∧ n2 ≤ 6) :
    Calls Tryz.prog 20 #[.pointer (some ⟨q.xb, 0, none⟩)] w fun e w' => e = .returned .nilIface ∧ StAt w' q bl (ag3 l lo n1 n2) ∧ FrK KT w w' ∧ Low lo w w' := by
  obtain ⟨h1, h2⟩ := ag2_inv l lo n1 n2 hl hn hn2
  exact Tick_calls (m := 98) hs h1 (by rw [ag2_slen]; exact h2) (by rw [ag2_clock]; omega)
theorem ag3_lo (l : List Int) (lo n1 n2 : Nat) : (ag3 l lo n1 n2).p.lo = lo := tick_lo _
theorem ag_tick2 {w : World} {q : Pl} {bl : List Nat} {l : List Int} {lo n1 n2 : Nat} {a : Int} (hs : StAt w q bl (ag4 l lo n1 n2 a)) (hg : Handle w) (hlo : 0 < lo) (hl : l.length ≤ 60) (hn : 1 ≤ n1 ∧ n1 ≤ 6) (hn2 : 1 ≤ n2 ∧ n2 ≤ 6) :
    Calls Tryz.prog 20 #[.pointer (some ⟨q.xb, 0, none⟩)] w fun e w' => (∃ x, e = .returned x) ∧ DiskAt w' q.db q.bb (ag5 l lo n1 n2 a).d ∧ PAt w' q.pb (ag5 l lo n1 n2 a).p ∧ Low lo w w' := by
  obtain ⟨h1, h2, h3, h4, h5⟩ := ag4_inv l lo n1 n2 a hl hn hn2
  have hlo' : (ag4 l lo n1 n2 a).p.lo = lo := ag3_lo l lo n1 n2
  refine Calls.mono (Tick_gen (m := 96) hs h1 h2 (by rw [h5]; exact h3) (by rw [h4]; omega) hg (by rw [hlo']; exact hlo)) ?_
  rintro e w' ⟨_, hl, ⟨_, rfl, hs'⟩ | ⟨_, ⟨nb, rfl⟩, hf'⟩⟩
  · exact ⟨⟨_, rfl⟩, hs'.dk, hs'.pt, by rw [hlo'] at hl; exact hl⟩
  · exact ⟨⟨_, rfl⟩, hf'.2.1, hf'.2.2, by rw [hlo'] at hl; exact hl⟩
theorem tickG_lo (s : StM) : s.tickG.1.p.lo = s.p.lo := by
  have : ∀ (l : List Nat) (a : StM × Bool), (l.foldl (fun a k => if a.2 then a.1.stepG k else a) a).1.p.lo = a.1.p.lo := by
    intro l
    induction l with
    | nil => intro a; rfl
    | cons k l ih =>
      intro a
      rw [List.foldl_cons, ih]
      split
      · exact stepG_lo _ _
      · rfl
  exact this _ ({ s with clock := s.clock + 1 }, true)
theorem ag5_lo (l : List Int) (lo n1 n2 : Nat) (a : Int) : (ag5 l lo n1 n2 a).p.lo = lo := (tickG_lo _).trans (ag3_lo l lo n1 n2)
/-- A journal is opened. -/
theorem ag_open {w : World} {eb gb pb : Nat} {p : PartM} {d : DiskM} {ev : List Ev} (h : DiskAt w eb gb d) (hp : PAt w pb p) (hlo : p.lo ≤ eb ∧ p.lo ≤ gb) (hq : d.quiet) (hc : 0 ≤ d.calls ∧ d.calls < 2 ^ 40) (hpd : d.pend = none) (hl : d.blocks.length = 120) (hj : JD d.blocks ev) (hok : EvsOk [] ev) :
    Calls Tryz.prog 30 #[.pointer (some ⟨eb, 0, none⟩), .int .i64 2, .pointer (some ⟨pb, 0, none⟩)] w fun e w' => ∃ xb jb mb bl m, e = .returned (.tuple #[.pointer (some ⟨xb, 0, none⟩), .nilIface]) ∧ w.heap.size ≤ xb ∧ m ≤ 10000 ∧
      StAt w' ⟨xb, jb, mb, eb, gb, pb⟩ bl ⟨2, 0, ev.foldl applyEv [], ⟨1, 1 + evLen ev, true⟩, d.reads m, p⟩ ∧ Fr (· = eb) w w' := by
  have hlk : ∀ i, d.look i = d.blocks.getD i [] := fun i => by simp only [DiskM.look, hpd]
  obtain ⟨⟨r0, h0, hk, hep⟩, hev, hst⟩ := hj.stop hlk rfl
  have hr := hj.room
  have hev' : EvsOn d r0.epoch 1 ev := by rw [hep]; exact hev
  have hst' : JStop d r0.epoch (1 + evLen ev) := by rw [hep]; exact hst
  have := pOpen_calls h hp hlo hq hc r0 h0 hk ev hev' hst' hok (by omega) (by simp [DiskM.fits]; omega) 2 (by omega)
  rw [hep] at this
  exact this
theorem ag_log {w : World} {pb : Nat} {p : PartM} (h : PAt w pb p) : ∃ va vc, w.cell? ⟨pb, 0, none⟩ = some (.slice va p.log.length vc) := by
  obtain ⟨lv, ev, iv, B, h1, h2, _⟩ := h.ex
  obtain ⟨va, vc, hlv⟩ : ∃ va vc, lv = .slice va p.log.length vc := by
    rcases h2.2 with ⟨h3, h4⟩ | ⟨g, cap, cur, h3, _⟩
    · exact ⟨none, 0, by rw [h3, h4]⟩
    · exact ⟨some ⟨g, 0, none⟩, cap, h3⟩
  refine ⟨va, vc, ?_⟩
  rw [cellv, h1, ← hlv]; rfl
theorem ag_two {F : List SagaM} (h : F.map (·.id) = [1, 2]) : ∃ g1 g2, F = [g1, g2] ∧ g1.id = 1 ∧ g2.id = 2 := by
  cases F with
  | nil => simp at h
  | cons g1 F =>
    cases F with
    | nil => simp at h
    | cons g2 F =>
      simp at h
      obtain ⟨h1, h2, h3⟩ := h
      subst h3
      exact ⟨g1, g2, rfl, h1, h2⟩
set_option maxRecDepth 100000 in
set_option maxHeartbeats 4000000 in
theorem Again_calls {w : World} {c at_ : Int} {rv v : Value} {r l : List Int} (hrv : IntsIn w rv r) (hv : IntsIn w v l) (hc : i64 c) (ha : i64 at_) (hg : Handle w) :
    Calls Tryz.prog 8 #[.int .i64 c, rv, .int .i64 at_, v] w fun e w' => e = .returned (.bool true) ∧ Low w.heap.size w w' := by
  have Hv := Lib.hid hv
  have Hc := Lib.hid hc
  have Ha := Lib.hid ha
  have Hg := Lib.hid hg
  have Hpos := Lib.hid (handle_pos hg)
  have HFew1 := Lib.hid (few_in hrv 60 (by omega))
  have Hr60 : Hid ((r.take 60).length ≤ 60) := by show _ ≤ _; rw [List.length_take]; omega
  clear hv hc ha hg hrv
  go_enter Tryz.func8, Tryz.ntmps8
  go_upto_region 2 with (first
    | (go_at_call 14; refine Calls.mono HFew1.out ?_; rintro e w1 ⟨v1, rfl, hown1, hf1⟩)
    | (go_at_call 15; refine Calls.mono (NewPartner_calls (own_ints hown1) (by have := Hr60.out; omega) w.heap.size hf1.size) ?_; rintro e w3 ⟨pb, rfl, hpb, hp3, hf3⟩)
    | fail)
  have HB := Lib.hid (begun_calls (n := 120) hp3 (by omega) (pause := 2) (by omega))
  have HL3 := Lib.hid ((hf1.low (Nat.le_refl w.heap.size) (fun _ f => f.elim)).trans (hf3.low hf1.size (fun _ f => f.elim)))
  clear hp3 hf3 hpb hown1 hf1 HFew1
  generalize r.take 60 = R at Hr60 HB
  go_upto_region 5 with (first
    | (go_at_call 17; refine Calls.mono HB.out ?_; rintro e w6 ⟨q, hqp, rfl, hs6, hl6, hz6⟩)
    | fail)
  have HL6 := Lib.hid (HL3.out.trans hl6)
  have Hs6 : Hid (StAt w6 q [] (ag0 R w.heap.size)) := hs6
  have Hqp := Lib.hid hqp
  clear hs6 hl6 hz6 hqp HB
  obtain ⟨n1, hn1⟩ : ∃ n1 : Nat, manyM c 1 = (n1 : Int) := ⟨(manyM c 1).toNat, by have := manyM_range c 1; omega⟩
  obtain ⟨n2, hn2⟩ : ∃ n2 : Nat, manyM c 2 = (n2 : Int) := ⟨(manyM c 2).toNat, by have := manyM_range c 2; omega⟩
  have Hn1 : Hid (1 ≤ n1 ∧ n1 ≤ 6) := by have := manyM_range c 1; show _ ∧ _; omega
  have Hn2 : Hid (1 ≤ n2 ∧ n2 ≤ 6) := by have := manyM_range c 2; show _ ∧ _; omega
  have HM1 := Lib.hid (fun (w' : World) => many_calls w' c 1 Hc.out (by omega))
  have HM2 := Lib.hid (fun (w' : World) => many_calls w' c 2 Hc.out (by omega))
  rw [hn1] at HM1
  rw [hn2] at HM2
  clear hn1 hn2
  have HS1 := Lib.hid (fun (w' : World) => steps_calls w' 1 n1 (by omega) (by have := Hn1.out; omega))
  have HS2 := Lib.hid (fun (w' : World) => steps_calls w' 2 n2 (by omega) (by have := Hn2.out; omega))
  have HSub := Lib.hid (fun (w7 : World) (v : Value) (hf7 : New w6 w7) (hv : StepsAt w7 v (kSteps 1 n1)) => ag_sub1 (Hs6.out.keepK (hf7.toK (K := []) (fun _ _ f _ => f.elim)) (by simp)) hv Hn1.out)
  go_upto_region 6 with (first
    | (go_at_call 24; refine Calls.mono (HM1.out _) ?_; rintro e w7 ⟨rfl, rfl⟩)
    | (go_at_call 19; refine Calls.mono (HS1.out _) ?_; rintro e w7 ⟨sv, rfl, hsv, hf7⟩; obtain ⟨sa, sn, sc, rfl⟩ := own_slice hsv)
    | (go_at_call 18; refine Calls.mono (HSub.out _ _ hf7 (hsv.at (by rw [kSteps_len]; have := Hn1.out; omega))) ?_; rintro e w8 ⟨rfl, ⟨bl, hs8⟩, hk8, hl8⟩)
    | fail)
  have HL8 := Lib.hid ((HL6.out.trans (hf7.low HL6.out.size (fun _ f => f.elim))).trans hl8)
  have Hs8 := Lib.hid hs8
  clear hsv hf7 hs8 hk8 hl8 HSub HS1 HM1
  have HSub := Lib.hid (fun (w7 : World) (v : Value) (hf7 : New w8 w7) (hv : StepsAt w7 v (kSteps 2 n2)) => ag_sub2 (Hs8.out.keepK (hf7.toK (K := []) (fun _ _ f _ => f.elim)) (by simp)) hv Hr60.out Hn1.out Hn2.out)
  go_upto_region 7 with (first
    | (go_at_call 24; refine Calls.mono (HM2.out _) ?_; rintro e w7 ⟨rfl, rfl⟩)
    | (go_at_call 19; refine Calls.mono (HS2.out _) ?_; rintro e w7 ⟨sv2, rfl, hsv, hf7⟩; obtain ⟨sa2, sn2, sc2, rfl⟩ := own_slice hsv)
    | (go_at_call 18; refine Calls.mono (HSub.out _ _ hf7 (hsv.at (by rw [kSteps_len]; have := Hn2.out; omega))) ?_; rintro e w10 ⟨rfl, ⟨bl2, hs10⟩, hk10, hl10⟩)
    | fail)
  have HL10 := Lib.hid ((HL8.out.trans (hf7.low HL8.out.size (fun _ f => f.elim))).trans hl10)
  have Hs10 := Lib.hid hs10
  clear hsv hf7 hs10 hk10 hl10 HSub HS2 HM2 Hs8 Hs6
  have HT1 := Lib.hid (ag_tick1 Hs10.out Hr60.out Hn1.out Hn2.out)
  go_upto_region 10 with (first
    | (go_at_call 20; refine Calls.mono HT1.out ?_; rintro e w11 ⟨rfl, hs11, hk11, hl11⟩)
    | fail)
  have HL11 := Lib.hid (HL10.out.trans hl11)
  have Hs11 := Lib.hid hs11
  clear hs11 hk11 hl11 HT1 Hs10
  have hpk := pickM_range at_ 12 (by omega)
  have HPk := Lib.hid (fun (w' : World) => pick_calls w' at_ 12 Ha.out (by omega))
  generalize pickM at_ 12 = a at HPk
  clear hpk
  have HOff := Lib.hid (fun (w' : World) (h : w' = w11) => h ▸ Off_calls Hs11.out.dk a)
  go_upto_region 11 with (first
    | (go_at_call 16; refine Calls.mono (HPk.out _) ?_; rintro e w12 ⟨rfl, rfl⟩)
    | (go_at_call 27; refine Calls.mono (HOff.out _ rfl) ?_; rintro e w12 ⟨rfl, hf12, hd12⟩)
    | fail)
  have hs12 : StAt w12 q bl2 (ag4 R w.heap.size n1 n2 a) := Hs11.out.disk hf12 hd12
  have HL12 := Lib.hid (HL11.out.trans (hf12.low HL11.out.size (by
    rintro k rfl
    have := Hs11.out.lo.2.2.2.1
    rw [ag3_lo] at this
    exact this)))
  have HT2 := Lib.hid (ag_tick2 hs12 (Hg.out.low HL12.out Hpos.out) Hpos.out Hr60.out Hn1.out Hn2.out)
  clear hf12 hd12 hs12 HPk HOff Hs11
  go_upto_region 12 with (first
    | (go_at_call 20; refine Calls.mono HT2.out ?_; rintro e w13 ⟨⟨tv, rfl⟩, hd13, hp13, hl13⟩)
    | fail)
  have HL13 := Lib.hid (HL12.out.trans hl13)
  have Hd13 := Lib.hid hd13
  rw [Hqp.out] at hp13
  have Hp13 := Lib.hid hp13
  have HFew := Lib.hid (few_in (ints_Low Hv.out HL13.out) 40 (by omega))
  obtain ⟨h120, ev, hjd, hevok, hagp⟩ := ag5_after R w.heap.size n1 n2 a Hr60.out Hn1.out Hn2.out (l.take 40)
  have H120 := Lib.hid h120
  have Hjd := Lib.hid hjd
  have Hevok := Lib.hid hevok
  have Hagp := Lib.hid hagp
  have Hplo : Hid ((ag5 R w.heap.size n1 n2 a).p.lo = w.heap.size) := ag5_lo R w.heap.size n1 n2 a
  clear hd13 hp13 hl13 h120 hjd hevok hagp HT2
  generalize (ag5 R w.heap.size n1 n2 a).d = D at Hd13 H120 Hjd
  generalize (ag5 R w.heap.size n1 n2 a).p = P at Hp13 Hplo
  have HAf := Lib.hid (fun (w11 : World) (kv : Value) (hf11 : New w13 w11) (hk : w11.ownsRow w13.heap.size 3 1 kv (l.take 40).length ((l.take 40).map encZ)) => After_calls (Hd13.out.new hf11) (by have := H120.out; omega) (own_in hk))
  go_upto_region 13 with (first
    | (go_at_call 14; refine Calls.mono HFew.out ?_; rintro e w14 ⟨kv, rfl, hown, hf14⟩)
    | (go_at_call 29; refine Calls.mono (HAf.out _ _ hf14 hown) ?_; rintro e w15 ⟨eb, gb, hebl, hgbl, rfl, hd15, hf15⟩)
    | fail)
  have HL15 := Lib.hid ((HL13.out.trans (hf14.low HL13.out.size (fun _ f => f.elim))).trans (hf15.low (Nat.le_trans HL13.out.size hf14.size) (fun _ f => f.elim)))
  have hz14 : w.heap.size ≤ w14.heap.size := Nat.le_trans HL13.out.size hf14.size
  have Hp15 := Lib.hid ((Hp13.out.keep hf14.size (fun _ _ ho _ => hf14.get ho (fun f => f))).keep hf15.size (fun _ _ ho _ => hf15.get ho (fun f => f)))
  have Hlo15 : Hid (P.lo ≤ eb ∧ P.lo ≤ gb) := by show _ ∧ _; rw [Hplo.out]; exact ⟨Nat.le_trans hz14 hebl, Nat.le_trans hz14 hgbl⟩
  have Hq15 : Hid ((D.after (l.take 40)).quiet) := ⟨by show (-1 : Int) < 0; omega, by show (0 : Int) ≤ 0; omega⟩
  have hda : (D.after (l.take 40)).blocks.length = 120 := by
    have := H120.out
    unfold DiskM.after
    split <;> simp [this]
  have Hw15 : Hid ((D.after (l.take 40)).writes = 0 ∧ (D.after (l.take 40)).pend = none ∧ (D.after (l.take 40)).calls = 0) := ⟨rfl, rfl, rfl⟩
  have Hda := Lib.hid hda
  have Hd15 := Lib.hid hd15
  clear hown hf14 hf15 hebl hgbl hd15 hz14 hda HFew HAf Hd13 Hp13 H120
  generalize D.after (l.take 40) = E at Hd15 Hjd Hq15 Hw15 Hda
  have HBy := Lib.hid (Bytes_calls Hd15.out (by have := Hda.out; omega))
  go_upto_region 14 with (first
    | (go_at_call 25; refine Calls.mono HBy.out ?_; rintro e w16 ⟨rfl, hf16⟩)
    | fail)
  have HL16 := Lib.hid (HL15.out.trans (hf16.low HL15.out.size (fun _ f => f.elim)))
  have hp16 := Hp15.out.keep hf16.size (fun _ _ ho _ => hf16.get ho (fun f => f))
  have Hp16 := Lib.hid hp16
  have Hd16 := Lib.hid (Hd15.out.new hf16)
  obtain ⟨la, lc, hlog⟩ := ag_log hp16
  clear hf16 hp16 HBy Hd15 Hp15
  go_upto_region 15 with fail
  have HO1 := Lib.hid (ag_open Hd16.out Hp16.out Hlo15.out Hq15.out (by have := Hw15.out; omega) Hw15.out.2.1 Hda.out Hjd.out Hevok.out)
  clear hlog
  go_upto_region 16 with (first
    | (go_at_call 30; refine Calls.mono HO1.out ?_; rintro e w17 ⟨xb, jb, mb, bl3, m1, rfl, hx17, hm17, hs17, hf17⟩)
    | fail)
  have HL17 := Lib.hid (HL16.out.trans (hf17.low HL16.out.size (by rintro k rfl; have := Hlo15.out.1; rw [Hplo.out] at this; exact this)))
  have Hs17 := Lib.hid hs17
  have Hm17 := Lib.hid hm17
  have HO2 := Lib.hid (ag_open (d := E.reads m1) hs17.dk hs17.pt Hlo15.out Hq15.out (by have := Hw15.out.2.2; show 0 ≤ E.calls + m1 ∧ E.calls + m1 < _; omega) Hw15.out.2.1 Hda.out Hjd.out Hevok.out)
  clear hs17 hf17 hm17 hx17 HO1
  go_upto_region 17 with (first
    | (go_at_call 30; refine Calls.mono HO2.out ?_; rintro e w18 ⟨xb2, jb2, mb2, bl4, m2, rfl, hx18, hm18, hs18, hf18⟩)
    | fail)
  have HL18 := Lib.hid (HL17.out.trans (hf18.low HL17.out.size (by rintro k rfl; have := Hlo15.out.1; rw [Hplo.out] at this; exact this)))
  have Hy18 := Lib.hid (Hs17.out.disk hf18 hs18.dk)
  have Hz18 := Lib.hid hs18
  clear hf18 hs18 hm18 hx18 HO2 Hs17
  obtain ⟨g1, g2, hF, hg1, hg2⟩ := ag_two Hagp.out.1
  simp only [hF] at Hy18 Hz18
  have Hg1 := Lib.hid hg1
  have Hg2 := Lib.hid hg2
  clear hF hg1 hg2
  have ho : ([g1, g2] : List SagaM).Pairwise (fun a b => a.id < b.id) := by simp [Hg1.out, Hg2.out]
  have hok : ∀ g ∈ ([g1, g2] : List SagaM), 1 ≤ g.id ∧ g.id ≤ 1000 := by
    intro g hg
    simp at hg
    rcases hg with rfl | rfl
    · rw [Hg1.out]; omega
    · rw [Hg2.out]; omega
  have HA1 := Lib.hid (All_gen (M := 10) Hy18.out ho hok ⟨by show 2 ≤ 10; omega, by show 2 ≤ 100; omega⟩ (by omega))
  have Ho := Lib.hid ho
  have Hok := Lib.hid hok
  clear ho hok
  go_upto_region 20 with (first
    | (go_at_call 32; refine Calls.mono HA1.out ?_; rintro e w19 ⟨lv, rfl, hown, hbel⟩; obtain ⟨va, vc, rfl, hva⟩ : ∃ va vc, lv = .slice va 2 vc ∧ (2 = 0 ∨ ∃ g, va = some ⟨g, 0, none⟩) := (by
        rcases hown.2 with ⟨h1, h2⟩ | ⟨g, cap, cur, h1, _⟩
        · exact absurd h2 (by simp)
        · exact ⟨some ⟨g, 0, none⟩, cap, h1, .inr ⟨g, rfl⟩⟩))
    | fail)
  obtain ⟨la1, rfl⟩ : ∃ g, va = some ⟨g, 0, none⟩ := by
    rcases hva with h | h
    · omega
    · exact h
  have hk19 := below_toK hbel (Nat.le_refl _) []
  have HL19 := Lib.hid (HL18.out.trans (show Low w.heap.size _ w19 from ⟨hbel.os, hbel.tape, hbel.output, hbel.size, fun k hk => hbel.block k (by have := HL18.out.size; omega)⟩))
  have Hz19 := Lib.hid (Hz18.out.keepK hk19 (by simp))
  have Hown := Lib.hid hown
  have HA2 := Lib.hid (All_gen (M := 10) Hz19.out Ho.out Hok.out ⟨by show 2 ≤ 10; omega, by show 2 ≤ 100; omega⟩ (by omega))
  clear hown hbel hva hk19 HA1 Hz18
  go_upto_region 21 with (first
    | (go_at_call 32; refine Calls.mono HA2.out ?_; rintro e w20 ⟨lv, rfl, hown2, hbel⟩; obtain ⟨va, vc2, rfl, hva⟩ : ∃ va vc, lv = .slice va 2 vc ∧ (2 = 0 ∨ ∃ g, va = some ⟨g, 0, none⟩) := (by
        rcases hown2.2 with ⟨h1, h2⟩ | ⟨g, cap, cur, h1, _⟩
        · exact absurd h2 (by simp)
        · exact ⟨some ⟨g, 0, none⟩, cap, h1, .inr ⟨g, rfl⟩⟩))
    | fail)
  obtain ⟨la2, rfl⟩ : ∃ g, va = some ⟨g, 0, none⟩ := by
    rcases hva with h | h
    · omega
    · exact h
  have hk20 := below_toK hbel (Nat.le_refl _) []
  have HL20 := Lib.hid (HL19.out.trans (show Low w.heap.size _ w20 from ⟨hbel.os, hbel.tape, hbel.output, hbel.size, fun k hk => hbel.block k (by have := HL19.out.size; omega)⟩))
  have Hz20 := Lib.hid (Hz19.out.keepK hk20 (by simp))
  have hown1 := own_keepK Hown.out hk20 (by simp)
  obtain ⟨a0, a1, a2, a3, a4, a5⟩ := st_cells hown1 0 g1 rfl
  obtain ⟨b0, b1, b2, b3, b4, b5⟩ := st_cells hown1 1 g2 rfl
  obtain ⟨c0, c1, c2, c3, c4, c5⟩ := st_cells hown2 0 g1 rfl
  obtain ⟨d0, d1, d2, d3, d4, d5⟩ := st_cells hown2 1 g2 rfl
  clear hown1 hown2 hbel hva hk20 HA2 Hown Hz19 Hy18 Ho Hok
  have hg38 := Tryz.guard38
  have he38 := eq38
  simp only [Nat.zero_mul, Nat.zero_add, Nat.one_mul, Nat.reduceAdd] at a0 a1 a2 a3 a4 a5 b0 b1 b2 b3 b4 b5 c0 c1 c2 c3 c4 c5 d0 d1 d2 d3 d4 d5
  have hS : ∀ w' : World, w' = w20.drew → (w'.cell? ⟨la1, 0, none⟩ = some (.int .i64 g1.id) ∧ w'.cell? ⟨la1, 1, none⟩ = some (.int .i64 g1.st) ∧ w'.cell? ⟨la1, 2, none⟩ = some (.int .i64 g1.step) ∧ w'.cell? ⟨la1, 3, none⟩ = some (.int .i64 g1.steps.length) ∧ w'.cell? ⟨la1, 4, none⟩ = some (.int .i64 g1.tries) ∧ w'.cell? ⟨la1, 5, none⟩ = some (.int .i64 g1.due) ∧ w'.cell? ⟨la1, 6, none⟩ = some (.int .i64 g2.id) ∧ w'.cell? ⟨la1, 7, none⟩ = some (.int .i64 g2.st) ∧ w'.cell? ⟨la1, 8, none⟩ = some (.int .i64 g2.step) ∧ w'.cell? ⟨la1, 9, none⟩ = some (.int .i64 g2.steps.length) ∧ w'.cell? ⟨la1, 10, none⟩ = some (.int .i64 g2.tries) ∧ w'.cell? ⟨la1, 11, none⟩ = some (.int .i64 g2.due) ∧ w'.cell? ⟨la2, 0, none⟩ = some (.int .i64 g1.id) ∧ w'.cell? ⟨la2, 1, none⟩ = some (.int .i64 g1.st) ∧ w'.cell? ⟨la2, 2, none⟩ = some (.int .i64 g1.step) ∧ w'.cell? ⟨la2, 3, none⟩ = some (.int .i64 g1.steps.length) ∧ w'.cell? ⟨la2, 4, none⟩ = some (.int .i64 g1.tries) ∧ w'.cell? ⟨la2, 5, none⟩ = some (.int .i64 g1.due) ∧ w'.cell? ⟨la2, 6, none⟩ = some (.int .i64 g2.id) ∧ w'.cell? ⟨la2, 7, none⟩ = some (.int .i64 g2.st) ∧ w'.cell? ⟨la2, 8, none⟩ = some (.int .i64 g2.step) ∧ w'.cell? ⟨la2, 9, none⟩ = some (.int .i64 g2.steps.length) ∧ w'.cell? ⟨la2, 10, none⟩ = some (.int .i64 g2.tries) ∧ w'.cell? ⟨la2, 11, none⟩ = some (.int .i64 g2.due)) := by
    rintro w' rfl
    exact ⟨a0, a1, a2, a3, a4, a5, b0, b1, b2, b3, b4, b5, c0, c1, c2, c3, c4, c5, d0, d1, d2, d3, d4, d5⟩
  clear a0 a1 a2 a3 a4 a5 b0 b1 b2 b3 b4 b5 c0 c1 c2 c3 c4 c5 d0 d1 d2 d3 d4 d5
  have HS := Lib.hid hS
  clear hS
  refine wp_region_noPanic ?_
  refine wp_region_held_drew (S := (fun w' => w'.cell? ⟨la1, 0, none⟩ = some (.int .i64 g1.id) ∧ w'.cell? ⟨la1, 1, none⟩ = some (.int .i64 g1.st) ∧ w'.cell? ⟨la1, 2, none⟩ = some (.int .i64 g1.step) ∧ w'.cell? ⟨la1, 3, none⟩ = some (.int .i64 g1.steps.length) ∧ w'.cell? ⟨la1, 4, none⟩ = some (.int .i64 g1.tries) ∧ w'.cell? ⟨la1, 5, none⟩ = some (.int .i64 g1.due) ∧ w'.cell? ⟨la1, 6, none⟩ = some (.int .i64 g2.id) ∧ w'.cell? ⟨la1, 7, none⟩ = some (.int .i64 g2.st) ∧ w'.cell? ⟨la1, 8, none⟩ = some (.int .i64 g2.step) ∧ w'.cell? ⟨la1, 9, none⟩ = some (.int .i64 g2.steps.length) ∧ w'.cell? ⟨la1, 10, none⟩ = some (.int .i64 g2.tries) ∧ w'.cell? ⟨la1, 11, none⟩ = some (.int .i64 g2.due) ∧ w'.cell? ⟨la2, 0, none⟩ = some (.int .i64 g1.id) ∧ w'.cell? ⟨la2, 1, none⟩ = some (.int .i64 g1.st) ∧ w'.cell? ⟨la2, 2, none⟩ = some (.int .i64 g1.step) ∧ w'.cell? ⟨la2, 3, none⟩ = some (.int .i64 g1.steps.length) ∧ w'.cell? ⟨la2, 4, none⟩ = some (.int .i64 g1.tries) ∧ w'.cell? ⟨la2, 5, none⟩ = some (.int .i64 g1.due) ∧ w'.cell? ⟨la2, 6, none⟩ = some (.int .i64 g2.id) ∧ w'.cell? ⟨la2, 7, none⟩ = some (.int .i64 g2.st) ∧ w'.cell? ⟨la2, 8, none⟩ = some (.int .i64 g2.step) ∧ w'.cell? ⟨la2, 9, none⟩ = some (.int .i64 g2.steps.length) ∧ w'.cell? ⟨la2, 10, none⟩ = some (.int .i64 g2.tries) ∧ w'.cell? ⟨la2, 11, none⟩ = some (.int .i64 g2.due))) (by kernel_rfl) (HS.out _ rfl) (fun hHeld => ?_)
  refine wpAnyH_take (i := 0) (v := ?vg0) rfl (by kernel_rfl) (by kernel_rfl) (by kernel_rfl) (fun _ _ _ h => h) (Or.inl ⟨by rfl, ?yg0⟩) hHeld ?rg0
  case yg0 => intro w hSw; (try dsimp only at hSw); go_simp; (try with_reducible rfl)
  simp only [List.getElem_toArray, List.getElem_cons_zero, List.getElem_cons_succ, Act.put, List.setIfInBounds_toArray, List.set_cons_zero, List.set_cons_succ]
  refine wpAnyH_take (i := 1) (v := ?vg1) rfl (by kernel_rfl) (by kernel_rfl) (by kernel_rfl) (fun _ _ _ h => h) (Or.inl ⟨by rfl, ?yg1⟩) hHeld ?rg1
  case yg1 => intro w hSw; (try dsimp only at hSw); go_simp; (try with_reducible rfl)
  simp only [List.getElem_toArray, List.getElem_cons_zero, List.getElem_cons_succ, Act.put, List.setIfInBounds_toArray, List.set_cons_zero, List.set_cons_succ]
  refine wpAnyH_take (i := 2) (v := ?vg2) rfl (by kernel_rfl) (by kernel_rfl) (by kernel_rfl) (fun _ _ _ h => h) (Or.inl ⟨by rfl, ?yg2⟩) hHeld ?rg2
  case yg2 => intro w hSw; (try dsimp only at hSw); go_simp; (try with_reducible rfl)
  simp only [List.getElem_toArray, List.getElem_cons_zero, List.getElem_cons_succ, Act.put, List.setIfInBounds_toArray, List.set_cons_zero, List.set_cons_succ]
  refine wpAnyH_take (i := 3) (v := ?vg3) rfl (by kernel_rfl) (by kernel_rfl) (by kernel_rfl) (fun _ _ _ h => h) (Or.inl ⟨by rfl, ?yg3⟩) hHeld ?rg3
  case yg3 => intro w hSw; (try dsimp only at hSw); go_simp; (try with_reducible rfl)
  simp only [List.getElem_toArray, List.getElem_cons_zero, List.getElem_cons_succ, Act.put, List.setIfInBounds_toArray, List.set_cons_zero, List.set_cons_succ]
  refine wpAnyH_take (i := 4) (v := ?vg4) rfl (by kernel_rfl) (by kernel_rfl) (by kernel_rfl) (fun _ _ _ h => h) (Or.inl ⟨by rfl, ?yg4⟩) hHeld ?rg4
  case yg4 => intro w hSw; (try dsimp only at hSw); go_simp; (try with_reducible rfl)
  simp only [List.getElem_toArray, List.getElem_cons_zero, List.getElem_cons_succ, Act.put, List.setIfInBounds_toArray, List.set_cons_zero, List.set_cons_succ]
  refine wpAnyH_take (i := 5) (v := ?vg5) rfl (by kernel_rfl) (by kernel_rfl) (by kernel_rfl) (fun _ _ _ h => h) (Or.inl ⟨by rfl, ?yg5⟩) hHeld ?rg5
  case yg5 => intro w hSw; (try dsimp only at hSw); go_simp; (try with_reducible rfl)
  simp only [List.getElem_toArray, List.getElem_cons_zero, List.getElem_cons_succ, Act.put, List.setIfInBounds_toArray, List.set_cons_zero, List.set_cons_succ]
  refine wpAnyH_take (i := 6) (v := ?vg6) rfl (by kernel_rfl) (by kernel_rfl) (by kernel_rfl) (fun _ _ _ h => h) (Or.inl ⟨by rfl, ?yg6⟩) hHeld ?rg6
  case yg6 => intro w hSw; (try dsimp only at hSw); go_simp; (try with_reducible rfl)
  simp only [List.getElem_toArray, List.getElem_cons_zero, List.getElem_cons_succ, Act.put, List.setIfInBounds_toArray, List.set_cons_zero, List.set_cons_succ]
  refine wpAnyH_take (i := 7) (v := ?vg7) rfl (by kernel_rfl) (by kernel_rfl) (by kernel_rfl) (fun _ _ _ h => h) (Or.inl ⟨by rfl, ?yg7⟩) hHeld ?rg7
  case yg7 => intro w hSw; (try dsimp only at hSw); go_simp; (try with_reducible rfl)
  simp only [List.getElem_toArray, List.getElem_cons_zero, List.getElem_cons_succ, Act.put, List.setIfInBounds_toArray, List.set_cons_zero, List.set_cons_succ]
  refine wpAnyH_take (i := 8) (v := ?vg8) rfl (by kernel_rfl) (by kernel_rfl) (by kernel_rfl) (fun _ _ _ h => h) (Or.inl ⟨by rfl, ?yg8⟩) hHeld ?rg8
  case yg8 => intro w hSw; (try dsimp only at hSw); go_simp; (try with_reducible rfl)
  simp only [List.getElem_toArray, List.getElem_cons_zero, List.getElem_cons_succ, Act.put, List.setIfInBounds_toArray, List.set_cons_zero, List.set_cons_succ]
  refine wpAnyH_take (i := 9) (v := ?vg9) rfl (by kernel_rfl) (by kernel_rfl) (by kernel_rfl) (fun _ _ _ h => h) (Or.inl ⟨by rfl, ?yg9⟩) hHeld ?rg9
  case yg9 => intro w hSw; (try dsimp only at hSw); go_simp; (try with_reducible rfl)
  simp only [List.getElem_toArray, List.getElem_cons_zero, List.getElem_cons_succ, Act.put, List.setIfInBounds_toArray, List.set_cons_zero, List.set_cons_succ]
  refine wpAnyH_take (i := 10) (v := ?vg10) rfl (by kernel_rfl) (by kernel_rfl) (by kernel_rfl) (fun _ _ _ h => h) (Or.inl ⟨by rfl, ?yg10⟩) hHeld ?rg10
  case yg10 => intro w hSw; (try dsimp only at hSw); go_simp; (try with_reducible rfl)
  simp only [List.getElem_toArray, List.getElem_cons_zero, List.getElem_cons_succ, Act.put, List.setIfInBounds_toArray, List.set_cons_zero, List.set_cons_succ]
  refine wpAnyH_take (i := 11) (v := ?vg11) rfl (by kernel_rfl) (by kernel_rfl) (by kernel_rfl) (fun _ _ _ h => h) (Or.inl ⟨by rfl, ?yg11⟩) hHeld ?rg11
  case yg11 => intro w hSw; (try dsimp only at hSw); go_simp; (try with_reducible rfl)
  simp only [List.getElem_toArray, List.getElem_cons_zero, List.getElem_cons_succ, Act.put, List.setIfInBounds_toArray, List.set_cons_zero, List.set_cons_succ]
  refine wpAnyH_take (i := 12) (v := ?vg12) rfl (by kernel_rfl) (by kernel_rfl) (by kernel_rfl) (fun _ _ _ h => h) (Or.inl ⟨by rfl, ?yg12⟩) hHeld ?rg12
  case yg12 => intro w hSw; (try dsimp only at hSw); go_simp; (try with_reducible rfl)
  simp only [List.getElem_toArray, List.getElem_cons_zero, List.getElem_cons_succ, Act.put, List.setIfInBounds_toArray, List.set_cons_zero, List.set_cons_succ]
  refine wpAnyH_take (i := 13) (v := ?vg13) rfl (by kernel_rfl) (by kernel_rfl) (by kernel_rfl) (fun _ _ _ h => h) (Or.inl ⟨by rfl, ?yg13⟩) hHeld ?rg13
  case yg13 => intro w hSw; (try dsimp only at hSw); go_simp; (try with_reducible rfl)
  simp only [List.getElem_toArray, List.getElem_cons_zero, List.getElem_cons_succ, Act.put, List.setIfInBounds_toArray, List.set_cons_zero, List.set_cons_succ]
  refine wpAnyH_take (i := 14) (v := ?vg14) rfl (by kernel_rfl) (by kernel_rfl) (by kernel_rfl) (fun _ _ _ h => h) (Or.inl ⟨by rfl, ?yg14⟩) hHeld ?rg14
  case yg14 => intro w hSw; (try dsimp only at hSw); go_simp; (try with_reducible rfl)
  simp only [List.getElem_toArray, List.getElem_cons_zero, List.getElem_cons_succ, Act.put, List.setIfInBounds_toArray, List.set_cons_zero, List.set_cons_succ]
  refine wpAnyH_take (i := 15) (v := ?vg15) rfl (by kernel_rfl) (by kernel_rfl) (by kernel_rfl) (fun _ _ _ h => h) (Or.inl ⟨by rfl, ?yg15⟩) hHeld ?rg15
  case yg15 => intro w hSw; (try dsimp only at hSw); go_simp; (try with_reducible rfl)
  simp only [List.getElem_toArray, List.getElem_cons_zero, List.getElem_cons_succ, Act.put, List.setIfInBounds_toArray, List.set_cons_zero, List.set_cons_succ]
  refine wpAnyH_take (i := 16) (v := ?vg16) rfl (by kernel_rfl) (by kernel_rfl) (by kernel_rfl) (fun _ _ _ h => h) (Or.inl ⟨by rfl, ?yg16⟩) hHeld ?rg16
  case yg16 => intro w hSw; (try dsimp only at hSw); go_simp; (try with_reducible rfl)
  simp only [List.getElem_toArray, List.getElem_cons_zero, List.getElem_cons_succ, Act.put, List.setIfInBounds_toArray, List.set_cons_zero, List.set_cons_succ]
  refine wpAnyH_take (i := 17) (v := ?vg17) rfl (by kernel_rfl) (by kernel_rfl) (by kernel_rfl) (fun _ _ _ h => h) (Or.inl ⟨by rfl, ?yg17⟩) hHeld ?rg17
  case yg17 => intro w hSw; (try dsimp only at hSw); go_simp; (try with_reducible rfl)
  simp only [List.getElem_toArray, List.getElem_cons_zero, List.getElem_cons_succ, Act.put, List.setIfInBounds_toArray, List.set_cons_zero, List.set_cons_succ]
  refine wpAnyH_take (i := 18) (v := ?vg18) rfl (by kernel_rfl) (by kernel_rfl) (by kernel_rfl) (fun _ _ _ h => h) (Or.inl ⟨by rfl, ?yg18⟩) hHeld ?rg18
  case yg18 => intro w hSw; (try dsimp only at hSw); go_simp; (try with_reducible rfl)
  simp only [List.getElem_toArray, List.getElem_cons_zero, List.getElem_cons_succ, Act.put, List.setIfInBounds_toArray, List.set_cons_zero, List.set_cons_succ]
  refine wpAnyH_take (i := 19) (v := ?vg19) rfl (by kernel_rfl) (by kernel_rfl) (by kernel_rfl) (fun _ _ _ h => h) (Or.inl ⟨by rfl, ?yg19⟩) hHeld ?rg19
  case yg19 => intro w hSw; (try dsimp only at hSw); go_simp; (try with_reducible rfl)
  simp only [List.getElem_toArray, List.getElem_cons_zero, List.getElem_cons_succ, Act.put, List.setIfInBounds_toArray, List.set_cons_zero, List.set_cons_succ]
  refine wpAnyH_take (i := 20) (v := ?vg20) rfl (by kernel_rfl) (by kernel_rfl) (by kernel_rfl) (fun _ _ _ h => h) (Or.inl ⟨by rfl, ?yg20⟩) hHeld ?rg20
  case yg20 => intro w hSw; (try dsimp only at hSw); go_simp; (try with_reducible rfl)
  simp only [List.getElem_toArray, List.getElem_cons_zero, List.getElem_cons_succ, Act.put, List.setIfInBounds_toArray, List.set_cons_zero, List.set_cons_succ]
  refine wpAnyH_take (i := 21) (v := ?vg21) rfl (by kernel_rfl) (by kernel_rfl) (by kernel_rfl) (fun _ _ _ h => h) (Or.inl ⟨by rfl, ?yg21⟩) hHeld ?rg21
  case yg21 => intro w hSw; (try dsimp only at hSw); go_simp; (try with_reducible rfl)
  simp only [List.getElem_toArray, List.getElem_cons_zero, List.getElem_cons_succ, Act.put, List.setIfInBounds_toArray, List.set_cons_zero, List.set_cons_succ]
  refine wpAnyH_take (i := 22) (v := ?vg22) rfl (by kernel_rfl) (by kernel_rfl) (by kernel_rfl) (fun _ _ _ h => h) (Or.inl ⟨by rfl, ?yg22⟩) hHeld ?rg22
  case yg22 => intro w hSw; (try dsimp only at hSw); go_simp; (try with_reducible rfl)
  simp only [List.getElem_toArray, List.getElem_cons_zero, List.getElem_cons_succ, Act.put, List.setIfInBounds_toArray, List.set_cons_zero, List.set_cons_succ]
  refine wpAnyH_take (i := 23) (v := ?vg23) rfl (by kernel_rfl) (by kernel_rfl) (by kernel_rfl) (fun _ _ _ h => h) (Or.inl ⟨by rfl, ?yg23⟩) hHeld ?rg23
  case yg23 => intro w hSw; (try dsimp only at hSw); go_simp; (try with_reducible rfl)
  simp only [List.getElem_toArray, List.getElem_cons_zero, List.getElem_cons_succ, Act.put, List.setIfInBounds_toArray, List.set_cons_zero, List.set_cons_succ]
  refine wpAnyH_take (i := 24) (v := ?vg24) rfl (by kernel_rfl) (by kernel_rfl) (by kernel_rfl) (fun _ _ _ h => h) (Or.inl ⟨by rfl, ?yg24⟩) hHeld ?rg24
  case yg24 => intro w hSw; (try dsimp only at hSw); go_simp; (try with_reducible rfl)
  simp only [List.getElem_toArray, List.getElem_cons_zero, List.getElem_cons_succ, Act.put, List.setIfInBounds_toArray, List.set_cons_zero, List.set_cons_succ]
  refine wpAnyH_take (i := 25) (v := ?vg25) rfl (by kernel_rfl) (by kernel_rfl) (by kernel_rfl) (fun _ _ _ h => h) (Or.inl ⟨by rfl, ?yg25⟩) hHeld ?rg25
  case yg25 => intro w hSw; (try dsimp only at hSw); go_simp; (try with_reducible rfl)
  simp only [List.getElem_toArray, List.getElem_cons_zero, List.getElem_cons_succ, Act.put, List.setIfInBounds_toArray, List.set_cons_zero, List.set_cons_succ]
  refine wpAnyH_done (by kernel_rfl) ?_ _
  refine NoPanic.normal ?_
  have hN : New w20 w20.drew := (Fr.refl (fun _ => False) w20).drew
  have HL21 : Hid (Low w.heap.size w w20.drew) := HL20.out.trans (hN.low HL20.out.size (fun _ f => f.elim))
  have Hz21 := Lib.hid (Hz20.out.keepK (hN.toK (K := []) (fun _ _ f _ => f.elim)) (by simp))
  clear hg38 he38 HS hHeld hN
  generalize w20.drew = w21 at HL21 Hz21 ⊢
  have HW := Lib.hid (Writes_calls Hz21.out.dk)
  have HPe := Lib.hid (Pending_calls Hz21.out.dk)
  have hwr : ((E.reads m1).reads m2).writes = 0 := Hw15.out.1
  have hpe : ((E.reads m1).reads m2).pending = 0 := by
    have : ((E.reads m1).reads m2).pend = none := Hw15.out.2.1
    simp [DiskM.pending, this]
  rw [hwr] at HW
  rw [hpe] at HPe
  have hB2 := Bytes_calls Hz21.out.dk (by show E.blocks.length ≤ 1000; rw [Hda.out]; omega)
  have hby : ((E.reads m1).reads m2).bytes = E.bytes := rfl
  rw [hby] at hB2
  have HB2 := Lib.hid hB2
  have Hp21 := Lib.hid (Hz21.out.pt)
  have hbe : (E.bytes == E.bytes) = true := by rw [ba_beq]; simp
  clear hwr hpe hB2 hby
  go_wp2_with (first
    | (go_at_call 34; refine Calls.mono HW.out ?_; rintro e w22 ⟨rfl, rfl⟩)
    | (go_at_call 31; refine Calls.mono HPe.out ?_; rintro e w23 ⟨rfl, rfl⟩)
    | (go_at_call 25; refine Calls.mono HB2.out ?_; rintro e w24 ⟨rfl, hf24⟩; obtain ⟨va4, vc4, hva4⟩ := ag_log (Hp21.out.keep hf24.size (fun _ _ ho _ => hf24.get ho (fun f => f))); have HL24 := Lib.hid (HL21.out.trans (hf24.low HL21.out.size (fun _ f => f.elim))); clear hf24)
    | fail)
  go_ret
  exact ⟨rfl, HL24.out⟩
end Go.Proofs.YtkafmfdipmhleaaGreatDoor

namespace Go.Proofs.YtkafmfdipmhleaaGreatDoor
open Go.ChangeShapes Go.WideShapes Go.RowKit

theorem Tryz.own : ownKnob Tryz.prog.godebug = none := by kernel_rfl
/-- A world that meets the condition: the settled one, the variable's cell laid. -/
noncomputable def laidWorld (os : Os) : World :=
  let w0 := World.holding Tryz.prog os ⟨#[], #[], []⟩
  { w0 with heap := w0.heap.modify 0 fun
      | .cells _ t frozen => .cells #[.iface 176 (.agg #[.pointer (some ⟨1, 32, none⟩)])] t frozen
      | o => o }
theorem laidWorld_met (os : Os) (args : Array Value) : laidMetH Tryz.prog [("errors.errorType", Rows.laid_errors_errorType)] ((laidWorld os).forCall (fun _ _ => 0) ⟨#[], args, []⟩).memory :=
  laidMetH_of_parts (laidMet_nil _ _) (by kernel_rfl)
theorem Tryz.et : Tryz.prog.globalNamed "errors.errorType" = some 0 := by kernel_rfl
theorem Tryz.rt : (Tryz.prog.cutTypes.find? (·.1 == "internal/reflectlite.rtype")).map (·.2) = some 176 := by kernel_rfl
set_option maxRecDepth 1000000 in
theorem Tryz.oneRow : ((List.range Tryz.prog.types.size).filter fun t => Tryz.prog.rowNamed t [101, 114, 114, 111, 114]) = [32] := by kernel_rfl
/-- What the condition gives a walk: the variable's one cell. -/
theorem handle_of_laid {W : World} (h : laidMetH Tryz.prog [("errors.errorType", Rows.laid_errors_errorType)] W) : W.cell? ⟨0, 0, none⟩ = some (.iface 176 (.agg #[.pointer (some ⟨1, 32, none⟩)])) := by
  have h' : laidMet Tryz.prog [] W ∧ handlesMet Tryz.prog [("errors.errorType", Rows.laid_errors_errorType)] W := h
  obtain ⟨name, u, ty, e1, e2, e3, e4, e5⟩ := h'.2 _ (List.mem_singleton.2 rfl)
  have en : name = [101, 114, 114, 111, 114] := (Option.some.inj e1).symm
  subst en
  obtain rfl := Option.some.inj (Tryz.rt.symm.trans e2)
  have hm : ty ∈ (List.range Tryz.prog.types.size).filter fun t => Tryz.prog.rowNamed t [101, 114, 114, 111, 114] := List.mem_filter.2 ⟨List.mem_range.2 e3, e4⟩
  rw [Tryz.oneRow] at hm
  obtain rfl := List.mem_singleton.1 hm
  have hh : typeHandle Tryz.prog 32 = .pointer (some ⟨1, 32, none⟩) := by kernel_rfl
  rw [hh] at e5
  simpa using World.var?_cell Tryz.et e5 0
end Go.Proofs.YtkafmfdipmhleaaGreatDoor

namespace Go.Proofs.YtkafmfdipmhleaaGreatDoor
open Go.ChangeShapes Go.WideShapes Go.RowKit

theorem cells3g : Tryz.prog.cellsOf 3 = 1 := by kernel_rfl
/-- How a slice of ints that came in reads. -/
theorem ints_openg {H : Type} {enc : TypeId × Value → H} {W : World} {base : Nat} {a : Option Addr} {len cap : Nat} {d : DataW H} {p : List MemPlace} {sp : Nat → Bool} {held : Bool} (h : DataW.Trod enc Tryz.prog W base sp held 22 (.slice a len cap) d p) : ∃ l, IntsIn W (.slice a len cap) l := by
  obtain ⟨fuel, hf⟩ := h
  rcases open_ints Tryz.underlying22 Tryz.underlying3 cells3g hf with ⟨hcs, hx⟩ | ⟨ad, len', cap', zs, hcs, _, hl, hm, hz, hx, hcell, hwz⟩
  · simp [Value.cells] at hcs
    obtain ⟨rfl, rfl, rfl⟩ := hcs
    exact ⟨[], .inl ⟨rfl, none, 0, rfl⟩⟩
  · simp [Value.cells] at hcs
    obtain ⟨rfl, rfl, rfl⟩ := hcs
    have hlz : len ≤ zs.length := by rw [hz]; split <;> omega
    by_cases h0 : len = 0
    · subst h0
      exact ⟨[], .inl ⟨rfl, some ad, cap, rfl⟩⟩
    · obtain ⟨b, off, spot⟩ := ad
      have hspot : spot = none := by simpa [Addr.add] using World.cell?_spot (hcell 0 (by omega))
      subst hspot
      refine ⟨zs.take len, .inr ⟨b, off, cap, ?_, fun j x hx => ?_⟩⟩
      · rw [List.length_take, Nat.min_eq_left hlz]
      · have hj := (List.getElem?_eq_some_iff.1 hx).1
        rw [List.length_take] at hj
        rw [List.getElem?_take_of_lt (by omega)] at hx
        have := hcell j (by omega)
        rw [add_plain] at this
        rw [this, List.getD_eq_getElem?_getD, hx]; rfl
set_option maxRecDepth 100000 in
theorem again_lifted (os : Os) (started : os.Started) (H : Type) (enc : TypeId × Value → H) :
    ReturnsInHanded {} Tryz.checked os 8 .any (fun w args => (Rows.againSpec.pre enc Tryz.prog Tryz.f8 [] false w args ∧ laidMetH Tryz.prog [("errors.errorType", Rows.laid_errors_errorType)] w) ∧ sizedMet enc Tryz.prog Tryz.f8 (OpenSpec.ofChange Rows.againSpec) false w args)
      (Rows.againSpec.post enc Tryz.prog Tryz.f8 false true false false) := by
  refine returnsInHanded_of_change_and (C := Tryz.checked) (X := fun w _ => laidMetH Tryz.prog [("errors.errorType", Rows.laid_errors_errorType)] w) (fun _ _ _ hh h => h.of_heap hh) Tryz.own started (by kernel_rfl) Tryz.func8
    (ChangeSpec.witness_at (enc := enc) (C := Tryz.checked) (os := os) (X := fun w _ => laidMetH Tryz.prog [("errors.errorType", Rows.laid_errors_errorType)] w) false (laidWorld os) #[.int .i64 0, .slice none 0 0, .int .i64 0, .slice none 0 0] 8 rfl (by kernel_rfl) (by kernel_rfl) (by kernel_rfl) (by kernel_rfl) (by kernel_rfl) (laidWorld_met os _)) ?_
  intro W base args ds gs before hval0 hW _ _ hL _
  have hval : ∀ (j : Nat) t v, Tryz.f8.params[j]? = some t → args[j]? = some v → Value.okWide Tryz.prog W .any base t v := hval0
  have hW' := hW
  obtain ⟨p, q, hA0, hV0, rfl, hfz, hnd⟩ := hW
  have hA : DataW.TrodAll enc Tryz.prog W 0 (fun _ => true) true Tryz.f8.params.toList args.toList ds p := hA0
  have hV : DataW.TrodVars enc Tryz.prog W (fun _ => true) [] gs q := hV0
  rw [Tryz.params8] at hA hval
  obtain ⟨v0, v1, v2, v3, d0, d1, d2, d3, p0, p1, p2, p3, rfl, rfl, rfl, h0, h1, h2, h3⟩ := trodAll_four hA
  obtain ⟨c, rfl, rfl, rfl, hwc⟩ := open_int Tryz.underlying3 (hval 0 3 v0 rfl rfl) h0
  obtain ⟨n, rfl, rfl, rfl, hwn⟩ := open_int Tryz.underlying3 (hval 2 3 v2 rfl rfl) h2
  obtain ⟨a, len, cap, rfl⟩ := okWide_slice Tryz.underlying22 (hval 1 22 v1 rfl rfl)
  obtain ⟨r, hr⟩ := ints_openg h1
  obtain ⟨a3, len3, cap3, rfl⟩ := okWide_slice Tryz.underlying22 (hval 3 22 v3 rfl rfl)
  obtain ⟨l, hl⟩ := ints_openg h3
  obtain ⟨rfl, rfl⟩ : gs = [] ∧ q = [] := by
    cases gs with
    | nil => exact ⟨rfl, hV⟩
    | cons g r => exact absurd hV (by intro h; cases h)
  have hc : i64 c := by simp [Lit.wf] at hwc; exact hwc
  have hn : i64 n := by simp [Lit.wf] at hwn; exact hwn
  have e1 : Rows.againSpec.fn H ([.lit (.int .i64 c), d1, .lit (.int .i64 n), d3] ++ []) = { results := [.lit (.bool true)], args := [.lit (.int .i64 c), d1, .lit (.int .i64 n), d3] } := rfl
  have hlt : ∀ x ∈ p1, x.block < W.heap.size := fun x hx => hW'.lt x (by simp [hx])
  have hlt3 : ∀ x ∈ p3, x.block < W.heap.size := fun x hx => hW'.lt x (by simp [hx])
  refine (Again_calls hr hl hc hn (handle_of_laid hL)).mono fun e W' ⟨he, hlow⟩ => ?_
  subst he
  have hb := hlow.below
  refine ⟨_, rfl, _, _, _, [], [] ++ (p1 ++ ([] ++ p3)), [], hW', ?_, ?_, ?_, hb.frame _, fun h => by cases h⟩
  · rw [e1]; exact trodAll_mk1 (shut_bool Tryz.underlying4 true)
  · rw [e1]; exact trodAll_mk4 (shut_int Tryz.underlying3 hwc) (Below.trod (by kernel_rfl) (by kernel_rfl) (of_decide_eq_true (by kernel_rfl)) h1 hb hlt) (shut_int Tryz.underlying3 hwn) (Below.trod (by kernel_rfl) (by kernel_rfl) (of_decide_eq_true (by kernel_rfl)) h3 hb hlt3)
  · rw [e1]; rfl

theorem again_said : Rows.AgainSaid :=
  OpenClaim.holds_of_wide 8 Tryz.f8 rfl rfl rfl rfl rfl rfl rfl ⟨rfl, rfl, rfl, rfl, rfl⟩ rfl rfl rfl rfl rfl (by kernel_rfl) Tryz.func8 (by kernel_rfl)
    (of_decide_eq_true (by kernel_rfl)) (by unfold Func.isWrapper; rw [if_neg (of_decide_eq_false (by kernel_rfl))]; exact ⟨rfl, rfl⟩)
    (fun os started H enc _ => again_lifted os started H enc)
/-- The given statement, tied to the program's text. -/
theorem again_holds : Rows.AgainCardSaid :=
  Claim7.holds_tied_plain_at .later [] [.handle] true (true, "500ca5754671a5e02e1cafc7ae1f070d50fdff4f9b7bc823d05bb60165e94295") true
    again_said (fun _ h => by cases h) (by kernel_rfl) (fun _ h => by cases h) again_row_tie rfl ⟨rfl, rfl⟩ (by kernel_rfl) rfl
    (fun f fn hf hfn => by
      obtain rfl : f = 8 := Option.some.inj ((show Tryz.prog.funcNamed "sagas/sagaskeep.Again" = some 8 by kernel_rfl).symm.trans hf) |>.symm
      obtain rfl : fn = Tryz.f8 := (Option.some.inj (Tryz.func8.symm.trans hfn)).symm
      exact ⟨by kernel_rfl, fun j t ht => by
        rw [Tryz.params8] at ht
        have hm : t ∈ [3, 22, 3, 22] := by simpa using Array.mem_of_getElem? ht
        have hall : ([3, 22, 3, 22].all fun u => !Tryz.prog.wantsStandIn u) = true := by kernel_rfl
        exact (show Tryz.prog.wantsStandIn t = false by simpa using List.all_eq_true.1 hall t hm)⟩)
    (by kernel_rfl)
#print axioms again_holds
end Go.Proofs.YtkafmfdipmhleaaGreatDoor
