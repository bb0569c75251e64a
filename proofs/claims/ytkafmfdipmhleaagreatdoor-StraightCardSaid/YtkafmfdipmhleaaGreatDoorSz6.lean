/-
  What is proved: what Spare's engine comes to. (No program in sight.) sagas whose partner does whatever it is asked for go straight on. (No program in sight.) what survives of a Submit that is cut off. (No program in sight.) where the sagas of Taken end. (No program in sight.) the contract of the iterator All, at every loop body that leaves the engine as it is. the contract of plain.All, on an engine of at most a hundred sagas. the contract of plain.All, on an engine of at most a hundred sagas, whatever the most. the contract of a Submit that is refused, or that is no new one.
-/
import Derived.Test.YtkafmfdipmhleaaGreatDoorSz5
import Derived.RangeFuncNested
import Derived.RangeFuncBound
import Derived.RangeFuncCalls
import Derived.RangeFuncLeaves
import Derived.RangeFuncBox
import Derived.Shelf.Abstract
import Derived.Shelf.RegionOpen
import Derived.OwnWalkIn
import Derived.TacticsInMore
import Derived.LoopNIn
import Derived.LoopIn
import Derived.Maps.AppendAt

namespace Go.Proofs.YtkafmfdipmhleaaGreatDoor
open Go.RowKit Go.Maps

/-- A turn asks for no more room than was kept for it. -/
theorem step_room {s : StM} {k : Nat} (h : s.inv) : ((s.stepOne k).j.en : Int) + leftSum (s.stepOne k).sagas ≤ (s.j.en : Int) + leftSum s.sagas ∧ (s.stepOne k).d.blocks.length = s.d.blocks.length := by
  have hlen : (settleD s.j s.d).blocks.length = s.d.blocks.length := settle_len _ _ h.pend
  cases hg : s.sagas[k]? with
  | none => simp only [StM.stepOne, hg]; exact ⟨Int.le_refl _, trivial⟩
  | some g =>
    by_cases hw : g.waits s.clock = false
    · simp only [StM.stepOne, hg, hw, if_true]; exact ⟨Int.le_refl _, trivial⟩
    · have hmem : g ∈ s.sagas := List.mem_of_getElem? hg
      have hok := h.ok g hmem
      have hst : g.st = 1 ∨ g.st = 2 := by
        simp [SagaM.waits] at hw
        obtain ⟨_, _, _, _, h | h⟩ := hok
        · exact h.1
        · omega
      by_cases hm : g.moves (g.reply s.p) = false
      · have e : s.stepOne k = { s with sagas := s.sagas.set k (g.paused s.clock s.pause), j := { s.j with fresh := false }, d := settleD s.j s.d, p := s.p.ask g.call } := by
          simp [StM.stepOne, hg, hw, hm]
        rw [e]
        refine ⟨?_, hlen⟩
        simp only
        rw [leftSum_set _ _ g _ hg]
        have e2 : (g.paused s.clock s.pause).left = g.left := rfl
        rw [e2]; omega
      · have e : s.stepOne k = { s with sagas := s.sagas.set k (g.moved (g.reply s.p)), j := ⟨s.j.epoch, s.j.en + 1, false⟩, d := (settleD s.j s.d).append s.j.epoch s.j.en [⟨4, 0, 0, g.id.toNat, (g.reply s.p).toNat, []⟩], p := s.p.ask g.call } := by
          simp [StM.stepOne, hg, hw, hm]
        obtain ⟨hmo, hml⟩ := hok.moved hst (g.reply s.p)
        rw [e]
        refine ⟨?_, by simp only; rw [append_len, hlen]⟩
        simp only
        rw [leftSum_set _ _ g _ hg]
        omega
theorem fold_room {m : Nat} (l : List Nat) (s : StM) (h : s.inv) (hf : s.fine (m + l.length)) :
    ((l.foldl StM.stepOne s).j.en : Int) + leftSum (l.foldl StM.stepOne s).sagas ≤ (s.j.en : Int) + leftSum s.sagas ∧ (l.foldl StM.stepOne s).d.blocks.length = s.d.blocks.length := by
  induction l generalizing s with
  | nil => exact ⟨Int.le_refl _, rfl⟩
  | cons a l ih =>
    obtain ⟨h1, h2, _, _⟩ := stepOne_inv (k := a) (m := m + l.length) h (by simpa [Nat.add_assoc] using hf)
    obtain ⟨e1, e2⟩ := ih (s.stepOne a) h1 h2
    obtain ⟨e3, e4⟩ := step_room (k := a) h
    exact ⟨by rw [List.foldl_cons]; omega, e2.trans e4⟩
theorem tick_room {s : StM} {m : Nat} (h : s.inv) (hf : s.fine (m + s.sagas.length)) : (s.tick.j.en : Int) + leftSum s.tick.sagas ≤ (s.j.en : Int) + leftSum s.sagas ∧ s.tick.d.blocks.length = s.d.blocks.length :=
  fold_room (m := m) (List.range s.sagas.length) { s with clock := s.clock + 1 } (inv_clock h _) (by rw [List.length_range]; exact hf)
theorem tick_ids (s : StM) : s.tick.sagas.map (·.id) = s.sagas.map (·.id) := fold_ids _ { s with clock := s.clock + 1 }
theorem ticks_ids (s : StM) (t : Nat) : (s.ticks t).sagas.map (·.id) = s.sagas.map (·.id) := by
  induction t with
  | zero => rfl
  | succ t ih => rw [StM.ticks, tick_ids, ih]
theorem ticks_lo (s : StM) (t : Nat) : (s.ticks t).p.lo = s.p.lo := by
  induction t with
  | zero => rfl
  | succ t ih => rw [StM.ticks, tick_lo, ih]

/-- How many steps the saga of number i has. -/
def spN (c : Int) (i : Nat) : Nat := (manyM c (i : Nat)).toNat
theorem spN_range (c : Int) (i : Nat) : 1 ≤ spN c i ∧ spN c i ≤ 6 ∧ (spN c i : Int) = manyM c i := by
  have := manyM_range c i
  unfold spN; omega
def spNeed (c : Int) : Nat → Int
  | 0 => 4
  | j + 1 => spNeed c j + 2 * manyM c ((j + 1 : Nat) : Int) + 2
theorem spNeed_range (c : Int) (j : Nat) : 4 + 4 * (j : Int) ≤ spNeed c j ∧ spNeed c j ≤ 4 + 14 * (j : Int) := by
  induction j with
  | zero => simp [spNeed]
  | succ j ih =>
    have := manyM_range c ((j + 1 : Nat) : Int)
    simp only [spNeed]
    omega
theorem spNeed_mono (c : Int) (j k : Nat) (h : j ≤ k) : spNeed c j ≤ spNeed c k := by
  induction k with
  | zero => obtain rfl : j = 0 := by omega
            exact Int.le_refl _
  | succ k ih =>
    have := manyM_range c ((k + 1 : Nat) : Int)
    by_cases e : j = k + 1
    · subst e; exact Int.le_refl _
    · have := ih (by omega)
      simp only [spNeed]; omega
def rest300 (r : List Int) : List Int := r ++ List.replicate 300 0
def spSub (c : Int) (s : StM) (i : Nat) : StM := s.submit i (kSteps i (spN c i))
/-- Behind so many sagas. -/
def spM (c : Int) (s0 : StM) : Nat → StM
  | 0 => s0
  | j + 1 => (spSub c (spM c s0 j) (j + 1)).tick
/-- What holds there. -/
structure SpI (c : Int) (R : List Int) (lo B j : Nat) (s : StM) : Prop where
  inv : s.inv
  fine : s.fine (100000 - 100 * j)
  ids : s.sagas.map (·.id) = (List.range j).map (fun i => ((i + 1 : Nat) : Int))
  room : (s.j.en : Int) + leftSum s.sagas ≤ 1 + (spNeed c j - 4)
  blocks : s.d.blocks.length = B
  si : SI R (11 * (j : Int)) s
  clock : s.clock = j
  lo : s.p.lo = lo
theorem spI_len {c : Int} {R : List Int} {lo B j : Nat} {s : StM} (h : SpI c R lo B j s) : s.sagas.length = j := by
  have := congrArg List.length h.ids
  simpa using this
theorem spI_new {c : Int} {R : List Int} {lo B j : Nat} {s : StM} (h : SpI c R lo B j s) : ∀ x ∈ s.sagas, x.id ≠ ((j + 1 : Nat) : Int) := by
  intro x hx e
  have : x.id ∈ s.sagas.map (·.id) := List.mem_map.2 ⟨x, hx, rfl⟩
  rw [h.ids, List.mem_map] at this
  obtain ⟨i, hi, e2⟩ := this
  rw [List.mem_range] at hi
  omega
theorem sp_ins (l : List SagaM) (g : SagaM) (h : ∀ x ∈ l, x.id < g.id) : insSaga g l = l ++ [g] := by
  induction l with
  | nil => rfl
  | cons x r ih =>
    have := h x (by simp)
    unfold insSaga
    rw [if_neg (by omega), ih (fun y hy => h y (by simp [hy]))]; rfl
theorem spI_room {c : Int} {R : List Int} {lo B j : Nat} {s : StM} (h : SpI c R lo B j s) (hB : spNeed c (j + 1) ≤ B) :
    (s.j.en : Int) + (2 + (2 * (kSteps ((j + 1 : Nat) : Int) (spN c (j + 1))).length - 1) + leftSum s.sagas) ≤ s.d.blocks.length := by
  have h1 := h.room
  have h2 := spN_range c (j + 1)
  rw [h.blocks, kSteps_len]
  simp only [spNeed] at hB
  omega
theorem told_count (d : DiskM) (hq : d.quiet) (h : d.told = 0) : d.count.told = 0 := by
  have hb := hq.bad
  simp [DiskM.count, hb, h]
theorem fresh_told (n : Nat) : (DiskM.fresh n).count.count.told = 0 := by
  have h1 := new_quiet n
  refine told_count _ (fresh_quiet n).count (told_count _ (fresh_quiet n) ?_)
  exact told_flush _ (h1.count.flush.put 0 _) (told_put _ h1.count.flush (told_flush _ h1.count (told_count _ h1 rfl)) _ _)
theorem spI_zero (c : Int) (r : List Int) (lo B : Nat) (hr : r.length ≤ 60) (hB : 1 ≤ B ∧ B ≤ 1000) : SpI c (rest300 r) lo B 0 (StM.fresh B 1 ⟨[], [], rest300 r, 0, lo⟩) where
  inv := fresh_inv B 1 _ hB (by omega)
  fine := ⟨by simp [StM.fresh], by simp [StM.fresh], by show (rest300 r).length < 2 ^ 30; rw [rest300, List.length_append, List.length_replicate]; omega, by simp [StM.fresh], by simp [StM.fresh], fun g hg => by simp [StM.fresh] at hg⟩
  ids := rfl
  room := by simp [StM.fresh, leftSum, spNeed]
  blocks := fresh_len B
  si := ⟨fun g hg => by simp [StM.fresh] at hg, fun id _ => rfl, rfl, rfl, by simp [StM.fresh, leftSum], fun g hg => by simp [StM.fresh] at hg, by simp [StM.fresh], rfl, fresh_told B⟩
  clock := rfl
  lo := rfl
theorem spI_sub {c : Int} {R : List Int} {lo B j : Nat} {s : StM} (h : SpI c R lo B j s) (hj : j < 12) (hB : spNeed c (j + 1) ≤ B) :
    (spSub c s (j + 1)).inv ∧ (spSub c s (j + 1)).fine (100000 - 100 * j) ∧ (spSub c s (j + 1)).sagas.map (·.id) = (List.range (j + 1)).map (fun i => ((i + 1 : Nat) : Int)) ∧
    ((spSub c s (j + 1)).j.en : Int) + leftSum (spSub c s (j + 1)).sagas ≤ 1 + (spNeed c (j + 1) - 4) ∧ (spSub c s (j + 1)).d.blocks.length = B ∧ SI R (11 * ((j + 1 : Nat) : Int)) (spSub c s (j + 1)) := by
  have hN := spN_range c (j + 1)
  have hw : wholeB ((j + 1 : Nat) : Int) (kSteps ((j + 1 : Nat) : Int) (spN c (j + 1))) = true := kSteps_whole _ _ (by omega) (by omega)
  obtain ⟨i1, i2⟩ := submit_inv (id := ((j + 1 : Nat) : Int)) (l := kSteps ((j + 1 : Nat) : Int) (spN c (j + 1))) h.inv h.fine hw (spI_new h) (spI_room h hB)
  have hlt : ∀ x ∈ s.sagas, x.id < ((j + 1 : Nat) : Int) := by
    intro x hx
    have : x.id ∈ s.sagas.map (·.id) := List.mem_map.2 ⟨x, hx, rfl⟩
    rw [h.ids, List.mem_map] at this
    obtain ⟨i, hi, e2⟩ := this
    rw [List.mem_range] at hi
    omega
  have hins : (spSub c s (j + 1)).sagas = s.sagas ++ [SagaM.new ((j + 1 : Nat) : Int) (kSteps ((j + 1 : Nat) : Int) (spN c (j + 1)))] := sp_ins _ _ hlt
  have hsum : leftSum (spSub c s (j + 1)).sagas = (2 * (spN c (j + 1) : Int) - 1) + leftSum s.sagas := by
    show leftSum (insSaga _ _) = _
    rw [insSaga_sum, new_left, kSteps_len]
  have hen : ((spSub c s (j + 1)).j.en : Int) = s.j.en + 2 := by show ((s.j.en + 2 : Nat) : Int) = _; omega
  refine ⟨i1, i2, ?_, ?_, ?_, ?_⟩
  · rw [hins, List.map_append, h.ids, List.range_succ, List.map_append]; rfl
  · rw [hsum, hen]
    have := h.room
    simp only [spNeed]; omega
  · show ((settleD s.j s.d).append _ _ _).blocks.length = B
    rw [append_len, settle_len _ _ h.inv.pend, h.blocks]
  · have hs := h.si
    have hp : (spSub c s (j + 1)).p = s.p := rfl
    refine ⟨?_, ?_, by rw [hp]; exact hs.pl, by rw [hp]; exact hs.at_, ?_, ?_, hs.clk, hs.pz, ?_⟩
    · intro g hg
      rw [hins, List.mem_append, List.mem_singleton] at hg
      rw [hp]
      rcases hg with hg | rfl
      · exact hs.ag g hg
      · have hf : mineOf s.p.effs (SagaM.new ((j + 1 : Nat) : Int) (kSteps ((j + 1 : Nat) : Int) (spN c (j + 1)))).id = [] := hs.fresh ((j + 1 : Nat) : Int) (fun g hg e => by have := hlt g hg; omega)
        rw [hf]
        exact .inl ⟨rfl, 0, rfl, by show 0 < (kSteps _ _).length; rw [kSteps_len]; omega, .inl rfl⟩
    · intro id hid
      rw [hp]
      exact hs.fresh id (fun g hg => hid g (by rw [hins]; simp [hg]))
    · rw [hsum, hp]
      have := hs.sum
      omega
    · intro g hg
      rw [hins, List.mem_append, List.mem_singleton] at hg
      rcases hg with hg | rfl
      · exact hs.due g hg
      · have := hs.clk; show (0 : Int) ≤ s.clock + 1; omega
    · exact told_append _ _ _ _ (settle_quiet _ _ h.inv.quiet) (told_settle _ _ h.inv.quiet hs.told)
theorem spI_step {c : Int} {r : List Int} {lo B j : Nat} {s : StM} (hr : r.length ≤ 60) (h : SpI c (rest300 r) lo B j s) (hj : j < 12) (hB : spNeed c (j + 1) ≤ B) : SpI c (rest300 r) lo B (j + 1) (spSub c s (j + 1)).tick := by
  obtain ⟨i1, i2, i3, i4, i5, i6⟩ := spI_sub h hj hB
  have hlen : (spSub c s (j + 1)).sagas.length = j + 1 := by have := congrArg List.length i3; simpa using this
  have hck : (spSub c s (j + 1)).clock = (j : Int) := h.clock
  have hfm : ∀ m, m ≤ 100000 - 100 * j → (spSub c s (j + 1)).fine m := by
    intro m hm
    obtain ⟨b1, b2, b3, b4, b5, b6⟩ := i2
    exact ⟨by omega, by omega, b3, b4, by omega, b6⟩
  obtain ⟨t1, t2, t3, t4⟩ := tick_inv (m := 100000 - 100 * (j + 1)) i1 (hfm _ (by rw [hlen]; omega))
  obtain ⟨r1, r2⟩ := tick_room (m := 100000 - 100 * (j + 1)) i1 (hfm _ (by rw [hlen]; omega))
  have hsi := (si_tick (r := r) rfl hr i6 (by omega) i1 (hfm _ (by rw [hlen]; omega)) (by rw [hck]; omega)).1
  refine ⟨t1, t2, (tick_ids _).trans i3, by omega, r2.trans i5, hsi, by rw [t3, hck]; omega, (tick_lo _).trans h.lo⟩
theorem spI_all {c : Int} {r : List Int} {lo B : Nat} (hr : r.length ≤ 60) (hB0 : 1 ≤ B ∧ B ≤ 1000) (j : Nat) (hj : j ≤ 12) (hB : spNeed c j ≤ B) : SpI c (rest300 r) lo B j (spM c (StM.fresh B 1 ⟨[], [], rest300 r, 0, lo⟩) j) := by
  induction j with
  | zero => exact spI_zero c r lo B hr hB0
  | succ j ih =>
    have := spNeed_mono c j (j + 1) (by omega)
    exact spI_step hr (ih (by omega) (by omega)) (by omega) hB
/-- A hundred and twenty ticks later all have ended. -/
theorem spI_end {c : Int} {r : List Int} {lo B k : Nat} {s : StM} (hr : r.length ≤ 60) (h : SpI c (rest300 r) lo B k s) (hk : k ≤ 12) :
    SI (rest300 r) (11 * (k : Int)) (s.ticks 120) ∧ (∀ g ∈ (s.ticks 120).sagas, g.st = 3 ∨ g.st = 4) ∧ (s.ticks 120).inv ∧ (s.ticks 120).fine 10 ∧ (s.ticks 120).sagas.length = k ∧ (s.ticks 120).d.told = 0 := by
  have hlen := spI_len h
  have hfm : ∀ m, m ≤ 100000 - 100 * k → s.fine m := by
    intro m hm
    obtain ⟨b1, b2, b3, b4, b5, b6⟩ := h.fine
    exact ⟨by omega, by omega, b3, b4, by omega, b6⟩
  have hb : 120 * s.sagas.length ≤ 1440 := by rw [hlen]; omega
  obtain ⟨e1, e2⟩ := si_ends (r := r) rfl hr h.si (by omega) h.inv (hfm _ (by omega)) (by rw [h.clock]; omega)
  obtain ⟨t1, t2, _, t4⟩ := ticks_inv (m := 10) h.inv 120 (hfm _ (by omega))
  exact ⟨e1, e2, t1, t2, t4.trans hlen, e1.told⟩
end Go.Proofs.YtkafmfdipmhleaaGreatDoor

namespace Go.Proofs.YtkafmfdipmhleaaGreatDoor
open Go.RowKit Go.Maps

theorem nil_reply (g : SagaM) (p : PartM) (h : p.l = []) : g.reply p = 0 := by
  have hk : p.k = 0 := by simp [PartM.k, h]
  simp only [SagaM.reply, replyM, hk]
  cases p.knows g.call <;> simp
/-- Where a saga stands behind so many ticks. -/
def AtJ (j : Nat) (g : SagaM) : Prop := g.due = 0 ∧ (j < g.steps.length ∧ g.st = 1 ∧ g.step = (j : Int) + 1 ∨ g.steps.length ≤ j ∧ g.st = 3)
theorem pi_step {s : StM} {k j : Nat} {g : SagaM} (hi : s.inv) (hl : s.p.l = []) (hag : ∀ g ∈ s.sagas, Agree g.steps.length g.st g.step (mineOf s.p.effs g.id)) (hck : 0 ≤ s.clock) (hg : s.sagas[k]? = some g) (hat : AtJ j g) :
    (s.stepOne k).p.l = [] ∧ (∀ g ∈ (s.stepOne k).sagas, Agree g.steps.length g.st g.step (mineOf (s.stepOne k).p.effs g.id)) ∧ (∀ i, i ≠ k → (s.stepOne k).sagas[i]? = s.sagas[i]?) ∧
    ∃ g', (s.stepOne k).sagas[k]? = some g' ∧ AtJ (j + 1) g' ∧ g'.id = g.id ∧ g'.steps = g.steps := by
  have hmem : g ∈ s.sagas := List.mem_of_getElem? hg
  have hkl := (List.getElem?_eq_some_iff.1 hg).1
  cases hw : g.waits s.clock
  · have e : s.stepOne k = s := by simp only [StM.stepOne, hg, hw, if_true]
    rw [e]
    refine ⟨hl, hag, fun _ _ => rfl, g, hg, ?_, rfl, rfl⟩
    obtain ⟨h1, ⟨h2, h3, h4⟩ | ⟨h2, h3⟩⟩ := hat
    · exfalso
      simp only [SagaM.waits, Bool.and_eq_false_iff, decide_eq_false_iff_not] at hw
      omega
    · exact ⟨h1, .inr ⟨by omega, h3⟩⟩
  · have hst : g.st = 1 := by
      obtain ⟨h1, ⟨h2, h3, h4⟩ | ⟨h2, h3⟩⟩ := hat
      · exact h3
      · simp [SagaM.waits] at hw; omega
    have hr := nil_reply g s.p hl
    have hm : g.moves (g.reply s.p) = true := by rw [hr]; simp [SagaM.moves]
    obtain ⟨a1, a2, a3, a4⟩ := agree_ask g s.p (hag g hmem) (.inl hst)
    have e : s.stepOne k = { s with sagas := s.sagas.set k (g.moved (g.reply s.p)), j := ⟨s.j.epoch, s.j.en + 1, false⟩, d := (settleD s.j s.d).append s.j.epoch s.j.en [⟨4, 0, 0, g.id.toNat, (g.reply s.p).toNat, []⟩], p := s.p.ask g.call } := by
      simp [StM.stepOne, hg, hw, hm]
    have hcs : g.call.saga = g.id := rfl
    have hother : ∀ id, id ≠ g.id → mineOf (s.p.ask g.call).effs id = mineOf s.p.effs id := fun id hid => mine_other s.p g.call id (fun e => hid (e.symm.trans hcs))
    have hsteps : (g.moved (g.reply s.p)).steps = g.steps := by
      by_cases h1 : g.st = 1 <;> by_cases h2 : g.reply s.p = 0 <;> by_cases h3 : (g.steps.length : Int) < g.step + 1 <;> simp [SagaM.moved, SagaM.forward, SagaM.backward, h1, h2, h3]
    have hatm : AtJ (j + 1) (g.moved (g.reply s.p)) := by
      rw [hr]
      obtain ⟨h1, ⟨h2, h3, h4⟩ | ⟨h2, h3⟩⟩ := hat
      · by_cases h5 : (g.steps.length : Int) < g.step + 1
        · have e1 : g.moved 0 = { g with st := 3, step := 0, tries := 0, due := 0 } := by simp [SagaM.moved, SagaM.forward, h3, h5]
          rw [e1]
          exact ⟨rfl, .inr ⟨by simp only; omega, rfl⟩⟩
        · have e1 : g.moved 0 = { g with step := g.step + 1, tries := 0, due := 0 } := by simp [SagaM.moved, SagaM.forward, h3, h5]
          rw [e1]
          exact ⟨rfl, .inl ⟨by simp only; omega, h3, by simp only; omega⟩⟩
      · omega
    rw [e]
    refine ⟨hl, ?_, fun i hik => List.getElem?_set_ne (fun e => hik e.symm), g.moved (g.reply s.p), List.getElem?_set_self hkl, hatm, moved_id g _, hsteps⟩
    intro x hx
    obtain ⟨i, hi2⟩ := List.getElem?_of_mem hx
    by_cases e : i = k
    · subst e
      rw [List.getElem?_set_self hkl] at hi2
      cases hi2
      rw [hsteps, moved_id]; exact a2 hm
    · rw [List.getElem?_set_ne (fun h => e h.symm)] at hi2
      rw [hother x.id (ord_ne hi.ord hi2 hg e)]
      exact hag x (List.mem_of_getElem? hi2)
/-- All that holds behind so many ticks. -/
structure PI (j : Nat) (s : StM) : Prop where
  l : s.p.l = []
  ag : ∀ g ∈ s.sagas, Agree g.steps.length g.st g.step (mineOf s.p.effs g.id)
  at_ : ∀ g ∈ s.sagas, AtJ j g
  clk : 0 ≤ s.clock
theorem pi_tick {s : StM} {j : Nat} (h : PI j s) (hi : s.inv) (hf : s.fine s.sagas.length) : PI (j + 1) s.tick ∧ ∀ (i : Nat) (g : SagaM), s.sagas[i]? = some g → ∃ g', s.tick.sagas[i]? = some g' ∧ g'.id = g.id ∧ g'.steps = g.steps := by
  have key : ∀ n, n ≤ s.sagas.length → let t := (List.range n).foldl StM.stepOne { s with clock := s.clock + 1 }
      t.p.l = [] ∧ (∀ g ∈ t.sagas, Agree g.steps.length g.st g.step (mineOf t.p.effs g.id)) ∧ t.inv ∧ t.fine (s.sagas.length - n) ∧ t.clock = s.clock + 1 ∧ (∀ i, n ≤ i → t.sagas[i]? = s.sagas[i]?) ∧
      (∀ (i : Nat) (g : SagaM), i < n → s.sagas[i]? = some g → ∃ g', t.sagas[i]? = some g' ∧ AtJ (j + 1) g' ∧ g'.id = g.id ∧ g'.steps = g.steps) := by
    intro n
    induction n with
    | zero => intro _; exact ⟨h.l, h.ag, inv_clock hi _, hf, rfl, fun _ _ => rfl, fun i g hi => by omega⟩
    | succ n ih =>
      intro hn
      have ihn := ih (by omega)
      simp only [List.range_succ, List.foldl_append, List.foldl_cons, List.foldl_nil] at ihn ⊢
      generalize (List.range n).foldl StM.stepOne { s with clock := s.clock + 1 } = t at ihn ⊢
      obtain ⟨b1, b2, b3, b4, b5, b6, b7⟩ := ihn
      have hgn : t.sagas[n]? = some s.sagas[n] := (b6 n (Nat.le_refl _)).trans (List.getElem?_eq_getElem (by omega))
      obtain ⟨c1, c2, c3, c4⟩ := pi_step (k := n) (j := j) b3 b1 b2 (by have := h.clk; omega) hgn (h.at_ _ (List.getElem_mem _))
      obtain ⟨d1, d2, d3, _⟩ := stepOne_inv (k := n) (m := s.sagas.length - (n + 1)) b3 (by rw [show s.sagas.length - (n + 1) + 1 = s.sagas.length - n by omega]; exact b4)
      refine ⟨c1, c2, d1, d2, d3.trans b5, fun i hi2 => (c3 i (by omega)).trans (b6 i (by omega)), fun i g hin hg => ?_⟩
      by_cases e : i = n
      · subst e
        rw [List.getElem?_eq_getElem (by omega)] at hg
        cases hg
        exact c4
      · obtain ⟨g', e1, e2⟩ := b7 i g (by omega) hg
        exact ⟨g', (c3 i e).trans e1, e2⟩
  obtain ⟨k1, k2, _, _, k5, _, k7⟩ := key s.sagas.length (Nat.le_refl _)
  have hlen : s.tick.sagas.length = s.sagas.length := (tick_inv (m := 0) hi (by simpa using hf)).2.2.2
  refine ⟨⟨k1, k2, fun g hg => ?_, by have := h.clk; show 0 ≤ s.tick.clock; rw [show s.tick.clock = s.clock + 1 from k5]; omega⟩, fun i g hg => ?_⟩
  · obtain ⟨i, hi2⟩ := List.getElem?_of_mem hg
    have hil := (List.getElem?_eq_some_iff.1 hi2).1
    rw [hlen] at hil
    obtain ⟨g', e1, e2, _⟩ := k7 i _ hil (List.getElem?_eq_getElem hil)
    rw [show s.tick.sagas[i]? = some g' from e1] at hi2
    cases hi2
    exact e2
  · obtain ⟨g', e1, _, e3, e4⟩ := k7 i g (List.getElem?_eq_some_iff.1 hg).1 hg
    exact ⟨g', e1, e3, e4⟩
theorem pi_ticks {s : StM} (h : PI 0 s) (hi : s.inv) (t : Nat) (hf : s.fine (t * s.sagas.length)) : PI t (s.ticks t) ∧ ∀ (i : Nat) (g : SagaM), s.sagas[i]? = some g → ∃ g', (s.ticks t).sagas[i]? = some g' ∧ g'.id = g.id ∧ g'.steps = g.steps := by
  induction t with
  | zero => exact ⟨h, fun i g hg => ⟨g, hg, rfl, rfl⟩⟩
  | succ t ih =>
    have hf1 : s.fine (t * s.sagas.length) := hf.mono (Nat.mul_le_mul_right _ (by omega))
    obtain ⟨h1, h2⟩ := ih hf1
    obtain ⟨i1, i2, i3, i4⟩ := ticks_inv (m := s.sagas.length) hi t (by rw [Nat.add_mul, Nat.one_mul] at hf; rw [Nat.add_comm]; exact hf)
    obtain ⟨k1, k2⟩ := pi_tick h1 i1 (by rw [i4]; exact i2)
    refine ⟨k1, fun i g hg => ?_⟩
    obtain ⟨g1, e1, e2, e3⟩ := h2 i g hg
    obtain ⟨g2, f1, f2, f3⟩ := k2 i g1 e1
    exact ⟨g2, f1, f2.trans e2, f3.trans e3⟩
end Go.Proofs.YtkafmfdipmhleaaGreatDoor

namespace Go.Proofs.YtkafmfdipmhleaaGreatDoor
open Go.RowKit Go.Maps

def tk0 (lo : Nat) : StM := StM.fresh 120 2 ⟨[], [], [], 0, lo⟩
def tk1 (n1 lo : Nat) : StM := (tk0 lo).submit 1 (kSteps 1 n1)
def B1 (n1 : Nat) : List (List UInt8) := (((List.replicate 120 zer).set 0 hdr).set 1 (bod 1 n1 1)).set 2 (tak 1 2)
theorem w64_7 (k : Nat) (h : k ≤ 1000) : wrap64 ((k : Int) + 1) = (k : Int) + 1 := wrap_in _ (by omega)
theorem put_flush_blocks (d : DiskM) (i : Nat) (l : List UInt8) : (d.put i l).flush.blocks = d.blocks.set i (padB l) := rfl
theorem flush_none (d : DiskM) (h : d.pend = none) : d.flush.blocks = d.blocks := by simp [DiskM.flush, h, DiskM.count]
set_option maxRecDepth 100000 in
theorem tk1_d (n1 lo : Nat) : (tk1 n1 lo).d.blocks = B1 n1 ∧ (tk1 n1 lo).d.pend = none ∧ (tk1 n1 lo).d.calls = 11 ∧ (tk1 n1 lo).d.off = -1 ∧ (tk1 n1 lo).d.fr = 0 ∧ (tk1 n1 lo).d.to = 0 := by
  have e : (tk1 n1 lo).d = (((((DiskM.fresh 120).count.count.flush.put 1 (recBytes (placed (bodyRec 1 (kSteps 1 n1)) 1 1))).flush.put 2 (recBytes (placed (takenRec 1) 1 2))).flush)) := rfl
  have w1 : wrap64 1 = 1 := wrap_in _ (by omega)
  have w2 : wrap64 2 = 2 := wrap_in _ (by omega)
  have w3 : wrap64 3 = 3 := wrap_in _ (by omega)
  have w4 : wrap64 4 = 4 := wrap_in _ (by omega)
  have hc : (DiskM.fresh 120).calls = 4 := by simp [DiskM.fresh, DiskM.format, DiskM.sure, DiskM.flush, DiskM.put, DiskM.count, DiskM.new, w1, w2, w3, w4]
  have hfp := fresh_pend 120
  have hfb := fresh_blocks 120
  have w5 : wrap64 5 = 5 := wrap_in _ (by omega)
  have w6 : wrap64 6 = 6 := wrap_in _ (by omega)
  have w7 : wrap64 7 = 7 := wrap_in _ (by omega)
  have w8 : wrap64 8 = 8 := wrap_in _ (by omega)
  have w9 : wrap64 9 = 9 := wrap_in _ (by omega)
  have w10 : wrap64 10 = 10 := wrap_in _ (by omega)
  have w11 : wrap64 11 = 11 := wrap_in _ (by omega)
  have ho : (DiskM.fresh 120).off = -1 ∧ (DiskM.fresh 120).fr = 0 ∧ (DiskM.fresh 120).to = 0 := ⟨rfl, rfl, rfl⟩
  rw [e]
  refine ⟨?_, rfl, ?_, ho.1, ho.2.1, ho.2.2⟩
  · rw [put_flush_blocks, put_flush_blocks, flush_none (DiskM.fresh 120).count.count hfp]
    show ((DiskM.fresh 120).blocks.set 1 _).set 2 _ = _
    rw [hfb]
    unfold B1 bod tak
    exact Eq.refl _
  · simp only [DiskM.flush, DiskM.put, DiskM.count, hc]
    simp [w5, w6, w7, w8, w9, w10, w11]
theorem B1_len (n1 : Nat) : (B1 n1).length = 120 := by simp [B1]
theorem B1_get (n1 i : Nat) (h : 3 ≤ i ∧ i < 120) : (B1 n1).getD i [] = zer := by
  rw [List.getD_eq_getElem?_getD]
  unfold B1
  rw [List.getElem?_set_ne (by omega), List.getElem?_set_ne (by omega), List.getElem?_set_ne (by omega), List.getElem?_replicate, if_pos h.2]; rfl
/-- The blocks that survive: the second saga is not there; or it is. -/
def TkOne (n1 : Nat) (bs : List (List UInt8)) : Prop := ∃ X, bs = (B1 n1).set 3 X ∧ X.length = 128 ∧ ∃ r ok, parseM X = some (r, ok) ∧ r.kind ≠ 4
def TkTwo (n1 n2 : Nat) (bs : List (List UInt8)) : Prop := bs = ((B1 n1).set 3 (bod 2 n2 3)).set 4 (tak 2 4)
theorem bod_len (id : Int) (n ix : Nat) : (bod id n ix).length = 128 := padB_length _ (by
  unfold recBytes endOf
  split <;> simp <;> omega)
theorem zer_len : zer.length = 128 := by simp [zer]
theorem B1_zer (n1 i : Nat) (h : 3 ≤ i ∧ i < 120) : (B1 n1).set i zer = B1 n1 := by
  apply List.ext_getElem?
  intro j
  by_cases e : j = i
  · subst e
    rw [List.getElem?_set_self (by rw [B1_len]; omega)]
    have := B1_get n1 j h
    rw [List.getD_eq_getElem?_getD, List.getElem?_eq_getElem (by rw [B1_len]; omega)] at this
    rw [List.getElem?_eq_getElem (by rw [B1_len]; omega), ← this]; rfl
  · rw [List.getElem?_set_ne (fun h => e h.symm)]
theorem tk_one_zer (n1 : Nat) : TkOne n1 (B1 n1) := by
  obtain ⟨r, hr⟩ := parse_zer
  refine ⟨zer, (B1_zer n1 3 (by omega)).symm, zer_len, r, false, hr, ?_⟩
  have : (parseM zer).map (fun p => decide (p.1.kind ≠ 4)) = some true := by kernel_rfl
  rw [hr] at this
  simpa using this
theorem tk_one_bod (n1 n2 : Nat) (hn : 1 ≤ n2 ∧ n2 ≤ 6) : TkOne n1 ((B1 n1).set 3 (bod 2 n2 3)) := ⟨_, rfl, bod_len _ _ _, _, _, parse_bod2 n2 hn, by show (2 : Nat) ≠ 4; omega⟩
theorem tk_one_torn (n1 n2 : Nat) (hn : 1 ≤ n2 ∧ n2 ≤ 6) (k : Int) : TkOne n1 ((B1 n1).set 3 (tearB zer (bod 2 n2 3) k 4)) := by
  obtain ⟨r, ok, h1, h2⟩ := torn_bod n2 hn k
  exact ⟨_, rfl, tearB_len _ _ _ zer_len (bod_len _ _ _) 4 (by omega), r, ok, h1, h2⟩
theorem set_same (l : List (List UInt8)) (i : Nat) (x : List UInt8) (h : l.getD i [] = x) (hi : i < l.length) : l.set i x = l := by
  subst h
  rw [List.getD_eq_getElem?_getD, List.getElem?_eq_getElem hi, Option.getD_some, List.set_getElem_self]
theorem tk_after (n1 n2 : Nat) (hn : 1 ≤ n2 ∧ n2 ≤ 6) (d : DiskM) (a : Nat) (hb : d.blocks = B1 n1) (hp : d.pend = none) (hc : d.calls = 11) (ho : d.off = 11 + (a : Int)) (hf : d.fr = 0) (ht : d.to = 0) (ks : List Int) :
    let A := d.appendA ⟨1, 3, false⟩ [bodyRec 2 (kSteps 2 n2), takenRec 2]
    (A.2 = true → TkTwo n1 n2 (A.1.after ks).blocks) ∧ (TkOne n1 (A.1.after ks).blocks ∨ TkTwo n1 n2 (A.1.after ks).blocks) := by
  have w12 : wrap64 12 = 12 := wrap_in _ (by omega)
  have w13 : wrap64 13 = 13 := wrap_in _ (by omega)
  have w14 : wrap64 14 = 14 := wrap_in _ (by omega)
  have w15 : wrap64 15 = 15 := wrap_in _ (by omega)
  obtain ⟨bs, pd, cl, wr, tl, of, fr, to_⟩ := d
  simp only at hb hp hc ho hf ht
  subst hb hp hc ho hf ht
  have eb : padB (recBytes (placed (bodyRec 2 (kSteps 2 n2)) 1 3)) = bod 2 n2 3 := rfl
  have et : padB (recBytes (placed (takenRec 2) 1 4)) = tak 2 4 := rfl
  have hz3 := B1_get n1 3 (by omega)
  have hz4 : ((B1 n1).set 3 (bod 2 n2 3)).getD 4 [] = zer := by
    rw [List.getD_eq_getElem?_getD, List.getElem?_set_ne (by omega), ← List.getD_eq_getElem?_getD]; exact B1_get n1 4 (by omega)
  have hA : ∀ (x y : List UInt8), padB x = bod 2 n2 3 → padB y = tak 2 4 → True := fun _ _ _ _ => trivial
  generalize hx : recBytes (placed (bodyRec 2 (kSteps 2 n2)) 1 3) = x at eb
  generalize hy : recBytes (placed (takenRec 2) 1 4) = y at et
  have hcase : a = 0 ∨ a = 1 ∨ a = 2 ∨ a = 3 ∨ 4 ≤ a := by omega
  simp only [DiskM.appendA, DiskM.appendG, settleD, hx, hy]
  rcases hcase with rfl | rfl | rfl | rfl | h4
  · simp [DiskM.sureG, DiskM.bad, DiskM.count, DiskM.after]
    exact .inl (tk_one_zer n1)
  · simp [DiskM.sureG, DiskM.bad, DiskM.count, DiskM.put, DiskM.after, w12, eb]
    cases ks with
    | nil => exact .inl (tk_one_zer n1)
    | cons k ks =>
      have := tk_one_torn n1 n2 hn k
      rw [← hz3, List.getD_eq_getElem?_getD] at this
      exact .inl (by simpa using this)
  · simp [DiskM.sureG, DiskM.bad, DiskM.count, DiskM.put, DiskM.sure, DiskM.flush, DiskM.after, w12, w13, eb, hy]
    exact .inl (tk_one_bod n1 n2 hn)
  · simp [DiskM.sureG, DiskM.bad, DiskM.count, DiskM.put, DiskM.sure, DiskM.flush, DiskM.after, w12, w13, w14, eb, et, hy]
    cases ks with
    | nil => exact .inl (tk_one_bod n1 n2 hn)
    | cons k ks =>
      show TkOne n1 (((B1 n1).set 3 (bod 2 n2 3)).set 4 (tearB (((B1 n1).set 3 (bod 2 n2 3))[4]?.getD []) (tak 2 4) k 4)) ∨ TkTwo n1 n2 (((B1 n1).set 3 (bod 2 n2 3)).set 4 (tearB (((B1 n1).set 3 (bod 2 n2 3))[4]?.getD []) (tak 2 4) k 4))
      rw [← List.getD_eq_getElem?_getD, hz4]
      rcases torn_tak k with h | h
      · rw [h]; exact .inr rfl
      · rw [h, set_same _ 4 zer hz4 (by rw [List.length_set, B1_len]; omega)]
        exact .inl (tk_one_bod n1 n2 hn)
  · have h5 : ¬ (11 + (a : Int) ≤ 11) := by omega
    have h6 : ¬ (11 + (a : Int) ≤ 12) := by omega
    have h7 : ¬ (11 + (a : Int) ≤ 13) := by omega
    have h8 : ¬ (11 + (a : Int) ≤ 14) := by omega
    simp [DiskM.sureG, DiskM.bad, DiskM.count, DiskM.put, DiskM.sure, DiskM.flush, DiskM.after, w12, w13, w14, w15, eb, et, hy, h5, h6, h7, h8]
    exact ⟨rfl, .inr rfl⟩
/-- What the journal tells that survives. -/
def tkEvs (n1 n2 : Nat) (two : Bool) : List Ev := if two then [.taken 1 (kSteps 1 n1), .taken 2 (kSteps 2 n2)] else [.taken 1 (kSteps 1 n1)]
def TkBs (n1 n2 : Nat) (two : Bool) (bs : List (List UInt8)) : Prop := if two then TkTwo n1 n2 bs else TkOne n1 bs
theorem tk_bs_len {n1 n2 : Nat} {two : Bool} {bs : List (List UInt8)} (h : TkBs n1 n2 two bs) : bs.length = 120 := by
  cases two
  · obtain ⟨X, rfl, _⟩ := h
    rw [List.length_set, B1_len]
  · obtain rfl : bs = _ := h
    rw [List.length_set, List.length_set, B1_len]
theorem B1_hd (n1 : Nat) : (B1 n1).getD 0 [] = hdr ∧ (B1 n1).getD 1 [] = bod 1 n1 1 ∧ (B1 n1).getD 2 [] = tak 1 2 := by
  simp only [List.getD_eq_getElem?_getD]
  unfold B1
  refine ⟨?_, ?_, ?_⟩
  · rw [List.getElem?_set_ne (by omega), List.getElem?_set_ne (by omega), List.getElem?_set_self (by rw [List.length_replicate]; omega)]; rfl
  · rw [List.getElem?_set_ne (by omega), List.getElem?_set_self (by rw [List.length_set, List.length_replicate]; omega)]; rfl
  · rw [List.getElem?_set_self (by rw [List.length_set, List.length_set, List.length_replicate]; omega)]; rfl
theorem tk_look {n1 n2 : Nat} {two : Bool} {bs : List (List UInt8)} (h : TkBs n1 n2 two bs) : bs.getD 0 [] = hdr ∧ bs.getD 1 [] = bod 1 n1 1 ∧ bs.getD 2 [] = tak 1 2 ∧
    (two = true → bs.getD 3 [] = bod 2 n2 3 ∧ bs.getD 4 [] = tak 2 4 ∧ bs.getD 5 [] = zer) ∧ (two = false → (∃ r ok, parseM (bs.getD 3 []) = some (r, ok) ∧ r.kind ≠ 4) ∧ bs.getD 4 [] = zer) := by
  obtain ⟨a0, a1, a2⟩ := B1_hd n1
  simp only [List.getD_eq_getElem?_getD] at a0 a1 a2 ⊢
  have a4 := B1_get n1 4 (by omega)
  have a5 := B1_get n1 5 (by omega)
  simp only [List.getD_eq_getElem?_getD] at a4 a5
  have hl := B1_len n1
  cases two
  · obtain ⟨X, rfl, hX, r, ok, hp, hk⟩ := h
    refine ⟨?_, ?_, ?_, fun h => by (cases h), fun _ => ⟨⟨r, ok, ?_, hk⟩, ?_⟩⟩
    · rw [List.getElem?_set_ne (by omega)]; exact a0
    · rw [List.getElem?_set_ne (by omega)]; exact a1
    · rw [List.getElem?_set_ne (by omega)]; exact a2
    · rw [List.getElem?_set_self (by omega)]; exact hp
    · rw [List.getElem?_set_ne (by omega)]; exact a4
  · obtain rfl : bs = _ := h
    refine ⟨?_, ?_, ?_, fun _ => ⟨?_, ?_, ?_⟩, fun h => by (cases h)⟩
    · rw [List.getElem?_set_ne (by omega), List.getElem?_set_ne (by omega)]; exact a0
    · rw [List.getElem?_set_ne (by omega), List.getElem?_set_ne (by omega)]; exact a1
    · rw [List.getElem?_set_ne (by omega), List.getElem?_set_ne (by omega)]; exact a2
    · rw [List.getElem?_set_ne (by omega), List.getElem?_set_self (by omega)]; rfl
    · rw [List.getElem?_set_self (by rw [List.length_set]; omega)]; rfl
    · rw [List.getElem?_set_ne (by omega), List.getElem?_set_ne (by omega)]; exact a5
theorem tk_evs {d : DiskM} {n1 n2 : Nat} {two : Bool} (hn1 : 1 ≤ n1 ∧ n1 ≤ 6) (hn2 : 1 ≤ n2 ∧ n2 ≤ 6) (hp : d.pend = none) (h : TkBs n1 n2 two d.blocks) :
    (∃ r0, parseM (d.look 0) = some (r0, true) ∧ r0.kind = 1 ∧ r0.epoch = 1) ∧ EvsOn d 1 1 (tkEvs n1 n2 two) ∧ JStop d 1 (1 + evLen (tkEvs n1 n2 two)) ∧ EvsOk [] (tkEvs n1 n2 two) := by
  obtain ⟨a0, a1, a2, a3, a4⟩ := tk_look h
  have hlk : ∀ i, d.look i = d.blocks.getD i [] := fun i => by simp only [DiskM.look, hp]
  have hl := tk_bs_len h
  have hs1 := (whole_small (kSteps_whole 1 n1 (by omega) hn1)).2.2
  have hs2 := (whole_small (kSteps_whole 2 n2 (by omega) hn2)).2.2
  obtain ⟨rz, hz⟩ := parse_zer
  refine ⟨by rw [hlk, a0]; exact parse_hdr, ?_, ?_, ?_⟩
  · have e1 : EvOn d 1 1 (.taken 1 (kSteps 1 n1)) := ⟨_, _, by rw [hlk, a1]; exact parse_bod1 n1 hn1, rfl, rfl, rfl, rfl, rfl, by rw [hlk, a2]; exact parse_tak1, rfl, rfl, rfl, rfl⟩
    cases two
    · exact ⟨e1, trivial⟩
    · obtain ⟨b3, b4, _⟩ := a3 rfl
      have e2 : EvOn d 1 3 (.taken 2 (kSteps 2 n2)) := ⟨_, _, by rw [hlk, b3]; exact parse_bod2 n2 hn2, rfl, rfl, rfl, rfl, rfl, by rw [hlk, b4]; exact parse_tak2, rfl, rfl, rfl, rfl⟩
      exact ⟨e1, e2, trivial⟩
  · cases two
    · obtain ⟨⟨r, ok, hr, hk⟩, b4⟩ := a4 rfl
      refine ⟨r, ok, by rw [hlk]; exact hr, ?_⟩
      by_cases h2 : r.kind = 2
      · exact .inr (.inr ⟨h2, by show 3 + 1 < d.blocks.length; omega, rz, false, by rw [hlk]; show parseM (d.blocks.getD 4 []) = _; rw [b4]; exact hz, .inl rfl⟩)
      · exact .inr (.inl ⟨hk, h2⟩)
    · obtain ⟨_, _, b5⟩ := a3 rfl
      exact ⟨rz, false, by rw [hlk]; show parseM (d.blocks.getD 5 []) = _; rw [b5]; exact hz, .inl rfl⟩
  · have o1 : EvOk [] (.taken 1 (kSteps 1 n1)) := ⟨fun x hx => by simp at hx, by omega, by omega, hs1⟩
    cases two
    · exact ⟨o1, trivial⟩
    · exact ⟨o1, ⟨fun x hx => by simp only [applyEv, insSaga, List.mem_singleton] at hx; rw [hx]; show (1 : Int) ≠ 2; omega, by omega, by omega, hs2⟩, trivial⟩
end Go.Proofs.YtkafmfdipmhleaaGreatDoor

namespace Go.Proofs.YtkafmfdipmhleaaGreatDoor
open Go.RowKit Go.Maps

def tkY (n1 n2 : Nat) (two : Bool) (d : DiskM) (lo : Nat) : StM := ⟨2, 0, (tkEvs n1 n2 two).foldl applyEv [], ⟨1, 1 + evLen (tkEvs n1 n2 two), true⟩, d, ⟨[], [], [], 0, lo⟩⟩
theorem tkY_sagas (n1 n2 : Nat) (two : Bool) (d : DiskM) (lo : Nat) : (tkY n1 n2 two d lo).sagas = if two then [SagaM.new 1 (kSteps 1 n1), SagaM.new 2 (kSteps 2 n2)] else [SagaM.new 1 (kSteps 1 n1)] := by
  cases two
  · rfl
  · show insSaga (SagaM.new 2 (kSteps 2 n2)) [SagaM.new 1 (kSteps 1 n1)] = _
    have : ¬ ((SagaM.new 2 (kSteps 2 n2)).id < (SagaM.new 1 (kSteps 1 n1)).id) := by show ¬ ((2 : Int) < 1); omega
    simp [insSaga, this]
theorem tkY_en (n1 n2 : Nat) (two : Bool) (d : DiskM) (lo : Nat) : (tkY n1 n2 two d lo).j.en = if two then 5 else 3 := by cases two <;> rfl
theorem tkY_inv {n1 n2 : Nat} {two : Bool} {d : DiskM} {lo : Nat} (hn1 : 1 ≤ n1 ∧ n1 ≤ 6) (hn2 : 1 ≤ n2 ∧ n2 ≤ 6) (hq : d.quiet) (hp : d.pend = none) (hl : d.blocks.length = 120) : (tkY n1 n2 two d lo).inv ∧ (tkY n1 n2 two d lo).fine 1000 := by
  have hs := tkY_sagas n1 n2 two d lo
  have he := tkY_en n1 n2 two d lo
  have o1 := new_ok (kSteps_whole 1 n1 (by omega) hn1)
  have o2 := new_ok (kSteps_whole 2 n2 (by omega) hn2)
  have l1 := new_left 1 (kSteps 1 n1)
  have l2 := new_left 2 (kSteps 2 n2)
  rw [kSteps_len] at l1 l2
  refine ⟨⟨hq, hp, by show 1 < 2 ^ 32; omega, ?_, ?_, ?_, by show d.blocks.length ≤ 1000; omega, by show (1 : Int) ≤ 2 ∧ (2 : Int) ≤ 64; omega⟩, ⟨by show 0 + 1000 < 2 ^ 30; omega, by show 0 + 1000 < 2 ^ 30; omega, by show 0 < 2 ^ 30; omega, by show (0 : Int) ≤ 0; omega, by show (0 : Int) + 1000 < 2 ^ 30; omega, ?_⟩⟩
  · rw [hs]
    intro g hg
    cases two
    · simp at hg; rw [hg]; exact o1
    · simp at hg
      rcases hg with rfl | rfl
      · exact o1
      · exact o2
  · rw [hs]
    cases two
    · simp
    · simp [SagaM.new]
  · rw [hs, he]
    show _ ≤ (d.blocks.length : Int)
    cases two
    · simp [leftSum, l1]; omega
    · simp [leftSum, l1, l2]; omega
  · rw [hs]
    intro g hg
    cases two
    · simp at hg; rw [hg]; simp [SagaM.new]
    · simp at hg
      rcases hg with rfl | rfl <;> simp [SagaM.new]
def tkZ (n1 n2 : Nat) (two : Bool) (d : DiskM) (lo : Nat) : StM := if two then tkY n1 n2 true d lo else (tkY n1 n2 false d lo).submit 2 (kSteps 2 n2)
theorem tkY_room {n1 n2 : Nat} {d : DiskM} {lo : Nat} (hn1 : 1 ≤ n1 ∧ n1 ≤ 6) (hn2 : 1 ≤ n2 ∧ n2 ≤ 6) (hl : d.blocks.length = 120) :
    (((tkY n1 n2 false d lo).j.en : Nat) : Int) + (2 + (2 * (kSteps 2 n2).length - 1) + leftSum (tkY n1 n2 false d lo).sagas) ≤ (tkY n1 n2 false d lo).d.blocks.length := by
  have l1 := new_left 1 (kSteps 1 n1)
  rw [kSteps_len] at l1
  rw [tkY_sagas, tkY_en, kSteps_len]
  show _ ≤ (d.blocks.length : Int)
  simp [leftSum, l1]; omega
theorem tkY_fresh {n1 n2 : Nat} {d : DiskM} {lo : Nat} : ∀ x ∈ (tkY n1 n2 false d lo).sagas, x.id ≠ 2 := by
  rw [tkY_sagas]
  intro x hx
  simp at hx
  rw [hx]; show (1 : Int) ≠ 2; omega
theorem tkZ_facts {n1 n2 : Nat} {two : Bool} {d : DiskM} {lo : Nat} (hn1 : 1 ≤ n1 ∧ n1 ≤ 6) (hn2 : 1 ≤ n2 ∧ n2 ≤ 6) (hq : d.quiet) (hp : d.pend = none) (hl : d.blocks.length = 120) :
    (tkZ n1 n2 two d lo).inv ∧ (tkZ n1 n2 two d lo).fine 1000 ∧ (tkZ n1 n2 two d lo).sagas = [SagaM.new 1 (kSteps 1 n1), SagaM.new 2 (kSteps 2 n2)] ∧ PI 0 (tkZ n1 n2 two d lo) ∧ (tkZ n1 n2 two d lo).clock = 0 ∧ (tkZ n1 n2 two d lo).p.lo = lo := by
  have key : (tkZ n1 n2 two d lo).inv ∧ (tkZ n1 n2 two d lo).fine 1000 ∧ (tkZ n1 n2 two d lo).sagas = [SagaM.new 1 (kSteps 1 n1), SagaM.new 2 (kSteps 2 n2)] ∧ (tkZ n1 n2 two d lo).p = ⟨[], [], [], 0, lo⟩ ∧ (tkZ n1 n2 two d lo).clock = 0 := by
    cases two
    · obtain ⟨i1, i2⟩ := tkY_inv (two := false) (lo := lo) hn1 hn2 hq hp hl
      obtain ⟨j1, j2⟩ := submit_inv (id := 2) (l := kSteps 2 n2) i1 i2 (kSteps_whole 2 n2 (by omega) hn2) tkY_fresh (tkY_room hn1 hn2 hl)
      refine ⟨j1, j2, ?_, rfl, rfl⟩
      show insSaga (SagaM.new 2 (kSteps 2 n2)) (tkY n1 n2 false d lo).sagas = _
      rw [tkY_sagas]
      have : ¬ ((SagaM.new 2 (kSteps 2 n2)).id < (SagaM.new 1 (kSteps 1 n1)).id) := by show ¬ ((2 : Int) < 1); omega
      simp [insSaga, this]
    · obtain ⟨i1, i2⟩ := tkY_inv (two := true) (lo := lo) hn1 hn2 hq hp hl
      refine ⟨i1, i2, ?_, rfl, rfl⟩
      show (tkY n1 n2 true d lo).sagas = _
      rw [tkY_sagas]; rfl
  obtain ⟨k1, k2, k3, k4, k5⟩ := key
  refine ⟨k1, k2, k3, ⟨by rw [k4], ?_, ?_, by rw [k5]; omega⟩, k5, by rw [k4]⟩
  · rw [k3, k4]
    intro g hg
    simp at hg
    rcases hg with rfl | rfl
    · exact .inl ⟨rfl, 0, rfl, by show 0 < (kSteps _ _).length; rw [kSteps_len]; omega, .inl rfl⟩
    · exact .inl ⟨rfl, 0, rfl, by show 0 < (kSteps _ _).length; rw [kSteps_len]; omega, .inl rfl⟩
  · rw [k3]
    intro g hg
    simp at hg
    rcases hg with rfl | rfl
    · exact ⟨rfl, .inl ⟨by show 0 < (kSteps _ _).length; rw [kSteps_len]; omega, rfl, rfl⟩⟩
    · exact ⟨rfl, .inl ⟨by show 0 < (kSteps _ _).length; rw [kSteps_len]; omega, rfl, rfl⟩⟩
theorem tkZ_end {n1 n2 : Nat} {two : Bool} {d : DiskM} {lo : Nat} (hn1 : 1 ≤ n1 ∧ n1 ≤ 6) (hn2 : 1 ≤ n2 ∧ n2 ≤ 6) (hq : d.quiet) (hp : d.pend = none) (hl : d.blocks.length = 120) :
    ∃ g, ((tkZ n1 n2 two d lo).ticks 6).sagas[1]? = some g ∧ g.id = 2 ∧ g.steps.length = n2 ∧ g.st = 3 ∧ Agree n2 g.st g.step (mineOf ((tkZ n1 n2 two d lo).ticks 6).p.effs 2) ∧ ((tkZ n1 n2 two d lo).ticks 6).inv ∧ ((tkZ n1 n2 two d lo).ticks 6).fine 0 := by
  obtain ⟨k1, k2, k3, k4, _, _⟩ := tkZ_facts (two := two) (lo := lo) hn1 hn2 hq hp hl
  have hlen : (tkZ n1 n2 two d lo).sagas.length = 2 := by rw [k3]; rfl
  obtain ⟨p1, p2⟩ := pi_ticks k4 k1 6 (k2.mono (by rw [hlen]; omega))
  obtain ⟨t1, t2, _, _⟩ := ticks_inv (m := 0) k1 6 (k2.mono (by rw [hlen]; omega))
  obtain ⟨g, e1, e2, e3⟩ := p2 1 (SagaM.new 2 (kSteps 2 n2)) (by rw [k3]; rfl)
  have hmem := List.mem_of_getElem? e1
  have hid : g.id = 2 := e2
  have hst : g.steps.length = n2 := by rw [e3]; exact kSteps_len 2 n2
  have hag := p1.ag g hmem
  rw [hid, hst] at hag
  refine ⟨g, e1, hid, hst, ?_, hag, t1, t2⟩
  obtain ⟨_, ⟨h2, _⟩ | ⟨_, h3⟩⟩ := p1.at_ g hmem
  · omega
  · exact h3
end Go.Proofs.YtkafmfdipmhleaaGreatDoor

namespace Go.Proofs.YtkafmfdipmhleaaGreatDoor
open Go.RowKit Go.Maps Go.Shelf

attribute [local go_sem] Oper.semAt_some

/-- What a round of a loop over All keeps. -/
def KpA (n₀ : Nat) (W W' : World) : Prop := Below n₀ W W' ∧ FrK [0, 66, 39] W W'
theorem KpA.refl (n₀ : Nat) (W : World) : KpA n₀ W W := ⟨Below.refl _ _, FrK.refl _ _⟩
theorem KpA.trans {n₀ : Nat} {A B C : World} (h : KpA n₀ A B) (k : KpA n₀ B C) : KpA n₀ A C := ⟨h.1.trans k.1, h.2.trans k.2⟩
theorem grown_below {w w' : World} (h : Below w.heap.size w w') : w.grownBy w' none := ⟨h.os, h.tape, h.output, h.size, fun k hk _ => h.block k hk⟩
theorem abides_below {β : Type} {B : Nat} {J : β → World → Prop} (hJ : AbidesFrom B J) {x : β} {w w' : World} (h : J x w) (hb : Below w.heap.size w w') : J x w' :=
  hJ x w w' none h (grown_below hb) (fun r e => by cases e)
set_option maxHeartbeats 1000000 in
/-- x.All(): the receiver is boxed. -/
theorem all59 (n : Nat) (xb : Nat) (w : World) :
    CallsIn Fence.wide n Tryz.prog 59 #[.pointer (some ⟨xb, 0, none⟩)] w fun e w' => e = .returned (.func (.func 84) #[] #[.pointer (some ⟨w.heap.size, 0, none⟩)]) ∧ w' = w.alloc (.cells #[.pointer (some ⟨xb, 0, none⟩)] 28) := by
  refine callsIn_of_wp Tryz.func59 rfl trivial ?_ rfl
  simp only [Tryz.ntmps59, List.size_toArray, List.length_cons, List.length_nil, Nat.reduceAdd, Nat.reduceSub, Array.replicate_succ, Array.replicate_zero, List.push_toArray, List.append_toArray, List.nil_append, List.cons_append]
  gi_wp2
  go_ret
  exact ⟨rfl, rfl⟩
set_option maxRecDepth 100000 in
set_option maxHeartbeats 4000000 in
/-- The iterator: it goes through the sagas in the order of their numbers. -/
theorem all84 (n : Nat) (hn : 1 ≤ n) {w0 : World} {q : Pl} {bl : List Nat} {s : StM} (hs : StAt w0 q bl s) (ho : s.sagas.Pairwise (fun a b => a.id < b.id)) (hok : ∀ g ∈ s.sagas, 1 ≤ g.id ∧ g.id ≤ 1000) (hl : s.sagas.length ≤ 1000)
    (l Bn : Nat) (J Jx : List SagaM → World → Prop) (W : World) (hJ : AbidesFrom W.heap.size J)
    (hY : ∀ pre x W1, J pre W1 → pre.length < s.sagas.length → YieldAt Fence.wide (n - 1) Tryz.prog l #[.agg x.status] W1 fun e W' =>
      (e = .returned (.bool true) ∧ J (pre ++ [x]) W' ∧ KpA w0.heap.size W1 W') ∨ (e = .returned (.bool false) ∧ Jx (pre ++ [x]) W'))
    (hBn : W.heap[Bn]? = some (.cells #[.pointer (some ⟨q.xb, 0, none⟩)] 28 (0, 0))) (hB : Below w0.heap.size w0 W) (h0 : J [] W) :
    CallsIn Fence.wide n Tryz.prog 84 #[.func (.yield l) #[] #[], .pointer (some ⟨Bn, 0, none⟩)] W fun e W' => (∃ v, e = .returned v) ∧
      ((∃ ys, ys = s.sagas ∧ J ys W') ∨ (∃ pre, pre <+: s.sagas ∧ Jx pre W')) := by
  have Hs := Lib.hid hs
  have Ho := Lib.hid ho
  have Hok := Lib.hid hok
  have hs1 := hs.keepK (below_toK hB (Nat.le_refl _) []) (by simp)
  have hx := hs1.eng
  simp only [egCells] at hx
  have hz : Maps.size (dataOf (ilOf s.sagas bl)) = s.sagas.length := by
    rw [size_dataOf, ilOf, List.length_zip, List.length_map, hs.len]; omega
  have HK := Lib.hid (fun m => (callsIn_wide (n := m)).2 (Keys_calls (some q.mb) W))
  have HS := Lib.hid (fun m => (callsIn_wide (n := m)).2 (Sorted_calls q.mb s.sagas.length (dataOf (ilOf s.sagas bl)) ptrR W hs1.mp (by rw [hz]; unfold maxLen; omega) (by rw [hz]; omega)))
  have Hl := Lib.hid hl
  have HB := Lib.hid hB
  have HY := Lib.hid hY
  have HJ := Lib.hid hJ
  have H0 := Lib.hid h0
  have a1 : W.cell? ⟨Bn, 0, none⟩ = some (.pointer (some ⟨q.xb, 0, none⟩)) := by rw [cellv, hBn]; rfl
  have Hbn : Hid (W.heap[Bn]? = some (.cells #[.pointer (some ⟨q.xb, 0, none⟩)] 28 (0, 0))) := hBn
  clear hs ho hok hl hs1 hz hJ hY hB h0 hBn
  have hcv := cellv W
  refine callsIn_of_wp Tryz.func84 rfl trivial ?_ rfl
  simp only [Tryz.ntmps84, List.size_toArray, List.length_cons, List.length_nil, Nat.reduceAdd, Nat.reduceSub, Array.replicate_succ, Array.replicate_zero, List.push_toArray, List.append_toArray, List.nil_append, List.cons_append]
  gi_wp2_with (first
    | (gi_at_call 48; refine (HK.out _).mono ?_; rintro e w2 ⟨rfl, rfl⟩)
    | (refine ⟨trivial, ?_⟩; gi_at_call 48; refine (HK.out _).mono ?_; rintro e w2 ⟨rfl, rfl⟩)
    | (refine ⟨trivial, ?_⟩; refine (HK.out _).mono ?_; rintro e w2 ⟨rfl, rfl⟩)
    | (refine ⟨trivial, ?_⟩; refine (HS.out _).mono ?_; rintro e w3 ⟨v, ss, rfl, hperm, hown, hnil, hbel⟩; obtain ⟨va, vc, rfl, hva⟩ := ids_shape hown)
    | fail)
  have hb1 : Below W.heap.size W w3 := ((Below.refl _ W).alloc (Nat.le_refl _) (.cells #[.map (some q.mb)] 76)).trans (hbel.mono (by simp))
  have hb3 : Below w0.heap.size w0 w3 := HB.out.trans (hb1.mono HB.out.size)
  have hids := keys_sorted Hs.out.len Ho.out hperm
  rw [hids] at hown
  have hlen : ss.length = s.sagas.length := by
    have := congrArg List.length hids
    simpa using this
  rw [hlen] at hown hva ⊢
  have hbn3 := (hb1.block Bn (lt_of_hp Hbn.out)).trans Hbn.out
  have HJ3 := Lib.hid (abides_below HJ.out H0.out hb1)
  have HB3 := Lib.hid hb3
  have Hbn3 := Lib.hid hbn3
  have Hva := Lib.hid hva
  have Hown := Lib.hid hown
  clear hcv hx a1 hnil hbel hb1 hb3 hids hperm hva hlen hown hbn3 Hbn HJ H0 HK HS
  gi_loopw [12] (fun i wr => ∃ k : Nat, k ≤ s.sagas.length ∧ i = .int .i64 (k : Nat) ∧ J (s.sagas.take k) wr ∧ Below w0.heap.size w0 wr ∧ FrK [0, 66, 39] w3 wr) (fun i _ => s.sagas.length - (intOf i).toNat)
  case atStart => exact ⟨0, Nat.zero_le _, rfl, HJ3.out, HB3.out, FrK.refl _ _⟩
  case round =>
    obtain ⟨k, hk, rfl, hJk, hbl, hfk⟩ := hrel
    have Hbl := Lib.hid hbl
    have Hfk := Lib.hid hfk
    have HJk := Lib.hid hJk
    have hbn := hfk.block _ _ Hbn3.out (by simp [kindOf])
    clear hbl hfk hJk
    by_cases hkn : k < s.sagas.length
    · obtain ⟨g, hg⟩ : ∃ g, s.sagas[k]? = some g := ⟨s.sagas[k], List.getElem?_eq_getElem hkn⟩
      obtain ⟨b, hb, hbo⟩ := blk_of s.sagas bl Hs.out.len Ho.out k g hg
      have hokg := Hok.out g (List.mem_of_getElem? hg)
      have hsr := Hs.out.keepK (below_toK Hbl.out (Nat.le_refl _) []) (by simp)
      have hlk := look_some hsr.mp g.id (by omega) hbo
      have hsg := hsr.sg k g b hg hb
      have hx := hsr.eng
      obtain ⟨sv, hsb, _⟩ := hsg
      simp only [egCells] at hx
      simp only [sgCells] at hsb
      obtain ⟨ib, rfl⟩ : ∃ ib, va = some ⟨ib, 0, none⟩ := by
        rcases Hva.out with h | h
        · omega
        · exact h
      have hgid : (s.sagas.map (·.id))[k]? = some g.id := by rw [List.getElem?_map, hg]; rfl
      have hcell := ints_at (own_keepK Hown.out Hfk.out (by decide)) k g.id hgid
      have htk : s.sagas.take k ++ [g] = s.sagas.take (k + 1) := by
        rw [List.take_succ_eq_append_getElem hkn]
        congr 2
        rw [List.getElem?_eq_getElem hkn] at hg; exact (Option.some.inj hg).symm
      obtain ⟨fn, tmps, assign, body, hy, hR⟩ := HY.out (s.sagas.take k) g wr HJk.out (by rw [List.length_take]; omega)
      rw [htk] at hR
      have HR := Lib.hid hR
      have hkI : (k : Int) < s.sagas.length := by omega
      have Hkn := Lib.hid hkn
      simp only [SagaM.status] at hy
      have hl30 := Hl.out
      clear hb hbo hsr hgid htk hR hg hkn hokg
      have hcv := cellv wr
      have a1 : wr.cell? ⟨Bn, 0, none⟩ = some (.pointer (some ⟨q.xb, 0, none⟩)) := by rw [cellv, hbn]; rfl
      gi_wp2
      refine HR.out.mono ?_
      rintro e W3 (⟨rfl, hJ3, hk3⟩ | ⟨rfl, hJx3⟩)
      · gi_wp2
        go_roundw
        case rel => exact ⟨k + 1, Hkn.out, by go_num, hJ3, Hbl.out.trans hk3.1, Hfk.out.trans hk3.2⟩
        case measure => have := Hkn.out; simp [intOf]; omega
      · gi_wp2
        refine bodyPost_ret (results_none rfl _ _ _) rfl ?_
        exact ⟨⟨_, rfl⟩, .inr ⟨s.sagas.take (k + 1), List.take_prefix _ _, hJx3⟩⟩
    · obtain rfl : k = s.sagas.length := by omega
      have hnk : ¬ ((s.sagas.length : Int) < s.sagas.length) := by omega
      gi_wp2
      go_end0
      exact ⟨⟨_, rfl⟩, .inl (by have := HJk.out; rw [List.take_length] at this; exact this)⟩
end Go.Proofs.YtkafmfdipmhleaaGreatDoor

namespace Go.Proofs.YtkafmfdipmhleaaGreatDoor
open Go.RowKit Go.Maps Go.Shelf

attribute [local go_sem] Oper.semAt_some

theorem FrK.keepsFrom {K : List Nat} {W W' : World} (h : FrK K W W') (hK : 0 ∉ K) (B : Nat) : KeepsFrom B W W' :=
  ⟨h.size, fun k o _ hk ho => h.block k o hk (by cases o <;> first | exact hK | cases ho)⟩
theorem KpA.of {n₀ : Nat} {K : List Nat} {W W' : World} (h : FrK K W W') (hK : ∀ k ∈ K, k ∈ [0, 66, 39]) (hb : Below n₀ W W') : KpA n₀ W W' := ⟨hb, h.mono hK⟩
theorem KpA.put {n₀ : Nat} {w : World} (hn : n₀ ≤ w.heap.size) (W : World) (l : Nat) (o o' : Obj) (hl : w.heap.size ≤ l) (h : W.heap[l]? = some o) (hc : o.isCells = false) (hw : o.isWalk = false) : KpA n₀ W (W.putObj l o') :=
  ⟨belowK_b hn W l o o' hl h hc hw, rfl, rfl, rfl, by simp, fun k x hx hk => by
    have hg := grownBy_putObj' W l o'
    refine (hg.block k (lt_of_hp hx) (fun e => ?_)).trans hx
    cases e
    rw [h] at hx; cases hx
    exact hk (by cases o <;> simp_all [kindOf, Obj.isCells])⟩
theorem Tryz.info38z : (Tryz.prog.info? 38).map (fun i => (i.zero, i.size, i.bytes)) = some (some (.agg #[.int .i64 0, .int .i64 0, .int .i64 0, .int .i64 0, .int .i64 0, .int .i64 0]), 6, 48) := by kernel_rfl
def stCells (l : List SagaM) : List Value := l.flatMap (fun g => g.status.toList)
theorem stCells_len (l : List SagaM) : (stCells l).length = l.length * 6 := by
  induction l with
  | nil => rfl
  | cons a l ih => simp [stCells, SagaM.status] at ih ⊢; omega
theorem stCells_snoc (l : List SagaM) (g : SagaM) : stCells (l ++ [g]) = stCells l ++ g.status.toList := by simp [stCells]
theorem all_stops (n : Nat) (hn : 1 ≤ n) {w0 w : World} {q : Pl} {bl : List Nat} {s : StM} (hs : StAt w0 q bl s) (ho : s.sagas.Pairwise (fun a b => a.id < b.id)) (hok : ∀ g ∈ s.sagas, 1 ≤ g.id ∧ g.id ≤ 1000) (hl : s.sagas.length ≤ 1000)
    (Bn : Nat) (hBn : w.heap[Bn]? = some (.cells #[.pointer (some ⟨q.xb, 0, none⟩)] 28 (0, 0))) (hB : Below w0.heap.size w0 w) :
    SeqStopsK Fence.wide n Tryz.prog 84 #[.pointer (some ⟨Bn, 0, none⟩)] (fun g : SagaM => #[Value.agg g.status]) (KpA w0.heap.size) (fun ys => ys = s.sagas) (fun pre => pre <+: s.sagas) s.sagas.length w :=
  fun l J Jx W hW hJ _ hY h0 => all84 n hn hs ho hok hl l Bn J Jx W hJ hY ((hW.block Bn (lt_of_hp hBn)).trans hBn) (hB.trans (hW.mono hB.size)) h0
set_option maxRecDepth 100000 in
set_option maxHeartbeats 4000000 in
theorem All_calls {w : World} {q : Pl} {bl : List Nat} {s : StM} (hs : StAt w q bl s) (ho : s.sagas.Pairwise (fun a b => a.id < b.id)) (hok : ∀ g ∈ s.sagas, 1 ≤ g.id ∧ g.id ≤ 1000) (hl : s.sagas.length ≤ 100) :
    Calls Tryz.prog 32 #[.pointer (some ⟨q.xb, 0, none⟩), .int .i64 100] w fun e w' => ∃ v, e = .returned v ∧ w'.ownsRow w.heap.size 38 6 v s.sagas.length (stCells s.sagas) ∧ Below w.heap.size w w' := by
  refine (callsIn_wide (n := 10)).1 ?_
  obtain ⟨i0, hi, hz0, hz1, hz2⟩ := info_parts Tryz.info38z
  refine callsIn_of_wp_marks Tryz.func32 rfl trivial ?_ rfl
  simp only [Tryz.ntmps32, List.size_toArray, List.length_cons, List.length_nil, Nat.reduceAdd, Nat.reduceSub, Array.replicate_succ, Array.replicate_zero, List.push_toArray, List.append_toArray, List.nil_append, List.cons_append]
  have Hs := Lib.hid hs
  have Ho := Lib.hid ho
  have Hok := Lib.hid hok
  have Hl := Lib.hid hl
  clear hs ho hok hl
  gi_wp2_with (first
    | (refine ⟨trivial, ?_⟩; refine (all59 9 q.xb _).mono ?_; rintro e w' ⟨rfl, rfl⟩)
    | fail)
  have bM := ((Boxed.new w 3 (.int .i64 100)).alloc (.cells #[.slice none 0 0] 65)).alloc (.cells #[.pointer (some ⟨q.xb, 0, none⟩)] 28)
  have bO := (Boxed.new (w.alloc (.cells #[.int .i64 100] 3)) 65 (.slice none 0 0)).alloc (.cells #[.pointer (some ⟨q.xb, 0, none⟩)] 28)
  have bA := Boxed.new ((w.alloc (.cells #[.int .i64 100] 3)).alloc (.cells #[.slice none 0 0] 65)) 28 (.pointer (some ⟨q.xb, 0, none⟩))
  simp only [World.size_alloc] at bO bA
  have hB0 : Below w.heap.size w (((w.alloc (.cells #[.int .i64 100] 3)).alloc (.cells #[.slice none 0 0] 65)).alloc (.cells #[.pointer (some ⟨q.xb, 0, none⟩)] 28)) := (((Below.refl _ w).alloc (Nat.le_refl _) _).alloc (by simp) _).alloc (by simp; omega) _
  have hsz : (((w.alloc (.cells #[.int .i64 100] 3)).alloc (.cells #[.slice none 0 0] 65)).alloc (.cells #[.pointer (some ⟨q.xb, 0, none⟩)] 28)).heap.size = w.heap.size + 3 := by simp
  obtain ⟨W0, hW0⟩ : ∃ W0, ((w.alloc (.cells #[.int .i64 100] 3)).alloc (.cells #[.slice none 0 0] 65)).alloc (.cells #[.pointer (some ⟨q.xb, 0, none⟩)] 28) = W0 := ⟨_, rfl⟩
  rw [hW0] at bM bO bA hB0 hsz
  simp only [World.size_alloc, hW0]
  refine wpIn_rangeFunc_ownH rfl (by omega) (gf := 84) (lb := #[.pointer (some ⟨w.heap.size + 1 + 1, 0, none⟩)]) rfl trivial (enters_of Tryz.func84 (by kernel_rfl) rfl)
    (all_stops 9 (by omega) Hs.out Ho.out Hok.out (by have := Hl.out; omega) (w.heap.size + 1 + 1) bA hB0) KpA.trans (KpA.put (by omega)) (Below.refl _ _) (fun _ => rfl)
    (fun pre W => ((∃ v, Boxed W (w.heap.size + 1) 65 v ∧ W.ownsRow w.heap.size 38 6 v pre.length (stCells pre) ∧ (v = .slice none 0 0 ↔ pre = [])) ∧ Boxed W w.heap.size 3 (.int .i64 100)) ∧ Below w.heap.size w W)
    (fun _ _ _ => False)
    (OwnFrom.and (OwnFrom.and (Own.from (holdsRow_own w.heap.size (w.heap.size + 1) 65 38 6 (fun pre => pre.length) (fun pre => stCells pre) (fun pre v => v = .slice none 0 0 ↔ pre = [])) _) (Own.from (boxed_own _ _ _) _)) (ownFrom_below (Nat.le_refl _) (by omega)))
    (fun _ _ _ _ _ hs _ _ => hs)
    ⟨⟨⟨_, bO, World.ownsRow_nil _ _ _ _, by simp⟩, bM⟩, hB0⟩
    (fun x a' W => ∃ Bx, w.heap.size + 1 < Bx ∧ W.heap[Bx]? = some (.cells x.status 38 (0, 0)) ∧ a' = { tmps := #[.pointer (some ⟨q.xb, 0, none⟩), .int .i64 100, undef, .pointer (some ⟨w.heap.size, 0, none⟩), .slice none 0 0, .pointer (some ⟨w.heap.size + 1, 0, none⟩), .pointer (some ⟨Bx, 0, none⟩), .int .i64 100, .bool false, .pointer (some ⟨q.xb, 0, none⟩), .func (.func 84) #[] #[.pointer (some ⟨w.heap.size + 1 + 1, 0, none⟩)], .agg x.status, undef, undef, undef, undef, undef, undef, undef, undef, undef], defers := [] })
    (fun x a' _ X Y row hs hg hr => by
      obtain ⟨Bx, h1, h2, h3⟩ := hs
      refine ⟨Bx, h1, (hg.block Bx (lt_of_hp h2) (fun e => ?_)).trans h2, h3⟩
      obtain ⟨_, o, ho, hc⟩ := hr Bx e.symm
      rw [h2] at ho; cases ho; cases hc)
    ?assign ?body ?done ?stop
  case assign =>
    rintro l pre x W K ⟨⟨⟨v, hv, hrow, hnil⟩, bM1⟩, hB1⟩ hK
    have hst : Hid (#[Value.int .i64 x.id, Value.int .i64 x.st, Value.int .i64 x.step, Value.int .i64 x.steps.length, Value.int .i64 x.tries, Value.int .i64 x.due] = x.status) := rfl
    simp only [SagaM.status]
    gi_wp2
    rw [hst.out]
    exact hK _ _ (FrK.keepsFrom (K := []) (((Fr.refl (fun _ => False) W).alloc _).toK (fun _ _ f _ => f.elim)) (by simp) _)
      ⟨(Below.refl _ W).alloc hB1.size _, ((Fr.refl (fun _ => False) W).alloc _).toK (fun _ _ f _ => f.elim)⟩
      ⟨⟨⟨v, hv.alloc _, hrow.alloc _, hnil⟩, bM1.alloc _⟩, hB1.alloc hB1.size _⟩ ⟨W.heap.size, hv.lt, World.alloc_heap_new W _, rfl⟩
  case body =>
    rintro l pre x a' W hl ⟨r, hr⟩ ⟨⟨⟨v, hv, hrow, hnil⟩, bM1⟩, hB1⟩ ⟨Bx, hBx, bX, rfl⟩ hlt
    have hc := hv.cell
    have hm := bM1.cell
    have hne : ¬ ((pre.length : Int) = 100) := by have := Hl.out; omega
    obtain ⟨va, vc, rfl⟩ : ∃ va vc, v = .slice va pre.length vc := by
      rcases hrow.2 with ⟨h1, h2⟩ | ⟨g, cap, cur, h1, _⟩
      · exact ⟨none, 0, by rw [h1, h2]⟩
      · exact ⟨_, _, h1⟩
    have hst : Hid (#[Value.int .i64 x.id, Value.int .i64 x.st, Value.int .i64 x.step, Value.int .i64 x.steps.length, Value.int .i64 x.tries, Value.int .i64 x.due] = x.status) := rfl
    have Hrow := Lib.hid hrow
    have Hv := Lib.hid hv
    have HM1 := Lib.hid bM1
    have HB1 := Lib.hid hB1
    have Hnil := Lib.hid hnil
    simp only [SagaM.status] at bX ⊢
    have hoA := Lib.hid (hrow.alloc (.cells #[Value.int .i64 x.id, Value.int .i64 x.st, Value.int .i64 x.step, Value.int .i64 x.steps.length, Value.int .i64 x.tries, Value.int .i64 x.due] 38))
    have hnews : ∀ (j : Nat) (u : Value), [Value.int .i64 x.id, Value.int .i64 x.st, Value.int .i64 x.step, Value.int .i64 x.steps.length, Value.int .i64 x.tries, Value.int .i64 x.due][j]? = some u → (W.alloc (.cells #[Value.int .i64 x.id, Value.int .i64 x.st, Value.int .i64 x.step, Value.int .i64 x.steps.length, Value.int .i64 x.tries, Value.int .i64 x.due] 38)).cell? ((⟨W.heap.size, 0, none⟩ : Addr).add j) = some u := World.news_of_block (heap_alloc_new W _)
    have Hnews := Lib.hid hnews
    have hlt' := Lib.hid hlt
    clear hrow hv bM1 hB1 hnil hnews hlt hr
    have hcv := cellv W
    gi_wp2_with (first
      | (gi_at_builtin; refine wpListIn_append_own _ rfl _ _ 65 rfl w.heap.size 38 i0 (.agg #[.int .i64 0, .int .i64 0, .int .i64 0, .int .i64 0, .int .i64 0, .int .i64 0]) 6 48 Tryz.underlying65 hi hz0 hz1 hz2 rfl (by decide) _ _ _ rfl hoA.out ⟨W.heap.size, 0, none⟩ 1 1 [Value.int .i64 x.id, Value.int .i64 x.st, Value.int .i64 x.step, Value.int .i64 x.steps.length, Value.int .i64 x.tries, Value.int .i64 x.due] rfl rfl Hnews.out (by intro u hu; simp at hu; rcases hu with rfl | rfl | rfl | rfl | rfl | rfl <;> rfl) (by unfold maxLen; have := hlt'.out; have := Hl.out; omega) (by have := hlt'.out; have := Hl.out; omega) (by have := HB1.out.size; simp; omega) ?_; intro v' w1 hown' hgrow _; obtain ⟨g', cap', rfl⟩ := ownsRow_succ hown'; obtain ⟨hv1, hv2, hr2, hk2, hb2⟩ := Hv.out.appended (by decide) Hrow.out HB1.out.size (by omega) hown' hgrow; have hc1 := hv1.cell; have hf1 := hv1.frozen)
      | fail)
    have hg1 : (W.alloc (.cells #[Value.int .i64 x.id, Value.int .i64 x.st, Value.int .i64 x.step, Value.int .i64 x.steps.length, Value.int .i64 x.tries, Value.int .i64 x.due] 38)).grownBy w1 (Value.slice va pre.length vc).ownBlock := hgrow
    have hF : FrK [66, 39] W (w1.setCell ⟨w.heap.size + 1, 0, none⟩ (.slice (some ⟨g', 0, none⟩) (pre.length + 1) cap')) := by
      refine FrK.trans (b := W.alloc (.cells #[Value.int .i64 x.id, Value.int .i64 x.st, Value.int .i64 x.step, Value.int .i64 x.steps.length, Value.int .i64 x.tries, Value.int .i64 x.due] 38)) (((Fr.refl (fun _ => False) W).alloc _).toK (fun _ _ f _ => f.elim)) (FrK.trans (b := w1) ((Fr.ofGrown hg1).toK ?_) ((Fr.one (w.heap.size + 1) w1 0 _).toK ?_))
      · intro k o hk ho
        obtain ⟨o', ho', hk'⟩ := own_kind hoA.out hk
        rw [ho] at ho'; cases ho'
        simp [hk']
      · rintro k o rfl ho
        rw [show w1.heap[w.heap.size + 1]? = _ from hv1] at ho; cases ho
        simp [kindOf]
    refine ⟨hF.keepsFrom (by simp) _, KpA.of hF (by simp) hb2, ⟨⟨_, hv2, ?_, by simp⟩, hF.block _ _ HM1.out (by simp [kindOf])⟩, HB1.out.trans hb2⟩
    rw [stCells_snoc, List.length_append, List.length_singleton]
    exact hr2
  case done =>
    rintro D ys W hD rfl ⟨⟨⟨v, hv, hrow, hnil⟩, bM1⟩, hB1⟩ hK
    have hc := hv.cell
    obtain ⟨va, vc, rfl⟩ : ∃ va vc, v = .slice va s.sagas.length vc := by
      rcases hrow.2 with ⟨h1, h2⟩ | ⟨g, cap, cur, h1, _⟩
      · exact ⟨none, 0, by rw [h1, h2]⟩
      · exact ⟨_, _, h1⟩
    gi_wp2
    refine ⟨by simp, .inl ⟨_, _, rfl, run_takeDeferred hK, ?_⟩⟩
    exact ⟨_, results_tmp rfl _ _ _, _, rfl, ownsRow_putObj hrow _ hK rfl, hB1.trans (belowK_b (w := w) (Nat.le_refl _) W D _ _ (by omega) hK rfl rfl)⟩
  case stop =>
    rintro D c pre W _ _ h _
    exact h.elim
end Go.Proofs.YtkafmfdipmhleaaGreatDoor

namespace Go.Proofs.YtkafmfdipmhleaaGreatDoor
open Go.RowKit Go.Maps Go.Shelf

attribute [local go_sem] Oper.semAt_some

set_option maxRecDepth 100000 in
set_option maxHeartbeats 4000000 in
theorem All_gen {w : World} {M : Nat} {q : Pl} {bl : List Nat} {s : StM} (hs : StAt w q bl s) (ho : s.sagas.Pairwise (fun a b => a.id < b.id)) (hok : ∀ g ∈ s.sagas, 1 ≤ g.id ∧ g.id ≤ 1000) (hl : s.sagas.length ≤ M ∧ s.sagas.length ≤ 100) (hM : 1 ≤ M) :
    Calls Tryz.prog 32 #[.pointer (some ⟨q.xb, 0, none⟩), .int .i64 (M : Nat)] w fun e w' => ∃ v, e = .returned v ∧ w'.ownsRow w.heap.size 38 6 v s.sagas.length (stCells s.sagas) ∧ Below w.heap.size w w' := by
  refine (callsIn_wide (n := 10)).1 ?_
  obtain ⟨i0, hi, hz0, hz1, hz2⟩ := info_parts Tryz.info38z
  refine callsIn_of_wp_marks Tryz.func32 rfl trivial ?_ rfl
  simp only [Tryz.ntmps32, List.size_toArray, List.length_cons, List.length_nil, Nat.reduceAdd, Nat.reduceSub, Array.replicate_succ, Array.replicate_zero, List.push_toArray, List.append_toArray, List.nil_append, List.cons_append]
  have Hs := Lib.hid hs
  have Ho := Lib.hid ho
  have Hok := Lib.hid hok
  have Hl := Lib.hid hl
  have hM1 : ¬ ((M : Int) < 1) := by omega
  clear hs ho hok hl
  gi_wp2_with (first
    | (refine ⟨trivial, ?_⟩; refine (all59 9 q.xb _).mono ?_; rintro e w' ⟨rfl, rfl⟩)
    | fail)
  have bM := ((Boxed.new w 3 (.int .i64 (M : Nat))).alloc (.cells #[.slice none 0 0] 65)).alloc (.cells #[.pointer (some ⟨q.xb, 0, none⟩)] 28)
  have bO := (Boxed.new (w.alloc (.cells #[.int .i64 (M : Nat)] 3)) 65 (.slice none 0 0)).alloc (.cells #[.pointer (some ⟨q.xb, 0, none⟩)] 28)
  have bA := Boxed.new ((w.alloc (.cells #[.int .i64 (M : Nat)] 3)).alloc (.cells #[.slice none 0 0] 65)) 28 (.pointer (some ⟨q.xb, 0, none⟩))
  simp only [World.size_alloc] at bO bA
  have hB0 : Below w.heap.size w (((w.alloc (.cells #[.int .i64 (M : Nat)] 3)).alloc (.cells #[.slice none 0 0] 65)).alloc (.cells #[.pointer (some ⟨q.xb, 0, none⟩)] 28)) := (((Below.refl _ w).alloc (Nat.le_refl _) _).alloc (by simp) _).alloc (by simp; omega) _
  have hsz : (((w.alloc (.cells #[.int .i64 (M : Nat)] 3)).alloc (.cells #[.slice none 0 0] 65)).alloc (.cells #[.pointer (some ⟨q.xb, 0, none⟩)] 28)).heap.size = w.heap.size + 3 := by simp
  obtain ⟨W0, hW0⟩ : ∃ W0, ((w.alloc (.cells #[.int .i64 (M : Nat)] 3)).alloc (.cells #[.slice none 0 0] 65)).alloc (.cells #[.pointer (some ⟨q.xb, 0, none⟩)] 28) = W0 := ⟨_, rfl⟩
  rw [hW0] at bM bO bA hB0 hsz
  simp only [World.size_alloc, hW0]
  refine wpIn_rangeFunc_ownH rfl (by omega) (gf := 84) (lb := #[.pointer (some ⟨w.heap.size + 1 + 1, 0, none⟩)]) rfl trivial (enters_of Tryz.func84 (by kernel_rfl) rfl)
    (all_stops 9 (by omega) Hs.out Ho.out Hok.out (by have := Hl.out.2; omega) (w.heap.size + 1 + 1) bA hB0) KpA.trans (KpA.put (by omega)) (Below.refl _ _) (fun _ => rfl)
    (fun pre W => ((∃ v, Boxed W (w.heap.size + 1) 65 v ∧ W.ownsRow w.heap.size 38 6 v pre.length (stCells pre) ∧ (v = .slice none 0 0 ↔ pre = [])) ∧ Boxed W w.heap.size 3 (.int .i64 (M : Nat))) ∧ Below w.heap.size w W)
    (fun _ _ _ => False)
    (OwnFrom.and (OwnFrom.and (Own.from (holdsRow_own w.heap.size (w.heap.size + 1) 65 38 6 (fun pre => pre.length) (fun pre => stCells pre) (fun pre v => v = .slice none 0 0 ↔ pre = [])) _) (Own.from (boxed_own _ _ _) _)) (ownFrom_below (Nat.le_refl _) (by omega)))
    (fun _ _ _ _ _ hs _ _ => hs)
    ⟨⟨⟨_, bO, World.ownsRow_nil _ _ _ _, by simp⟩, bM⟩, hB0⟩
    (fun x a' W => ∃ Bx, w.heap.size + 1 < Bx ∧ W.heap[Bx]? = some (.cells x.status 38 (0, 0)) ∧ a' = { tmps := #[.pointer (some ⟨q.xb, 0, none⟩), .int .i64 (M : Nat), undef, .pointer (some ⟨w.heap.size, 0, none⟩), .slice none 0 0, .pointer (some ⟨w.heap.size + 1, 0, none⟩), .pointer (some ⟨Bx, 0, none⟩), .int .i64 (M : Nat), .bool false, .pointer (some ⟨q.xb, 0, none⟩), .func (.func 84) #[] #[.pointer (some ⟨w.heap.size + 1 + 1, 0, none⟩)], .agg x.status, undef, undef, undef, undef, undef, undef, undef, undef, undef], defers := [] })
    (fun x a' _ X Y row hs hg hr => by
      obtain ⟨Bx, h1, h2, h3⟩ := hs
      refine ⟨Bx, h1, (hg.block Bx (lt_of_hp h2) (fun e => ?_)).trans h2, h3⟩
      obtain ⟨_, o, ho, hc⟩ := hr Bx e.symm
      rw [h2] at ho; cases ho; cases hc)
    ?assign ?body ?done ?stop
  case assign =>
    rintro l pre x W K ⟨⟨⟨v, hv, hrow, hnil⟩, bM1⟩, hB1⟩ hK
    have hst : Hid (#[Value.int .i64 x.id, Value.int .i64 x.st, Value.int .i64 x.step, Value.int .i64 x.steps.length, Value.int .i64 x.tries, Value.int .i64 x.due] = x.status) := rfl
    simp only [SagaM.status]
    gi_wp2
    rw [hst.out]
    exact hK _ _ (FrK.keepsFrom (K := []) (((Fr.refl (fun _ => False) W).alloc _).toK (fun _ _ f _ => f.elim)) (by simp) _)
      ⟨(Below.refl _ W).alloc hB1.size _, ((Fr.refl (fun _ => False) W).alloc _).toK (fun _ _ f _ => f.elim)⟩
      ⟨⟨⟨v, hv.alloc _, hrow.alloc _, hnil⟩, bM1.alloc _⟩, hB1.alloc hB1.size _⟩ ⟨W.heap.size, hv.lt, World.alloc_heap_new W _, rfl⟩
  case body =>
    rintro l pre x a' W hl ⟨r, hr⟩ ⟨⟨⟨v, hv, hrow, hnil⟩, bM1⟩, hB1⟩ ⟨Bx, hBx, bX, rfl⟩ hlt
    have hc := hv.cell
    have hm := bM1.cell
    have hne : ¬ ((pre.length : Int) = (M : Int)) := by have := Hl.out.1; omega
    obtain ⟨va, vc, rfl⟩ : ∃ va vc, v = .slice va pre.length vc := by
      rcases hrow.2 with ⟨h1, h2⟩ | ⟨g, cap, cur, h1, _⟩
      · exact ⟨none, 0, by rw [h1, h2]⟩
      · exact ⟨_, _, h1⟩
    have hst : Hid (#[Value.int .i64 x.id, Value.int .i64 x.st, Value.int .i64 x.step, Value.int .i64 x.steps.length, Value.int .i64 x.tries, Value.int .i64 x.due] = x.status) := rfl
    have Hrow := Lib.hid hrow
    have Hv := Lib.hid hv
    have HM1 := Lib.hid bM1
    have HB1 := Lib.hid hB1
    have Hnil := Lib.hid hnil
    simp only [SagaM.status] at bX ⊢
    have hoA := Lib.hid (hrow.alloc (.cells #[Value.int .i64 x.id, Value.int .i64 x.st, Value.int .i64 x.step, Value.int .i64 x.steps.length, Value.int .i64 x.tries, Value.int .i64 x.due] 38))
    have hnews : ∀ (j : Nat) (u : Value), [Value.int .i64 x.id, Value.int .i64 x.st, Value.int .i64 x.step, Value.int .i64 x.steps.length, Value.int .i64 x.tries, Value.int .i64 x.due][j]? = some u → (W.alloc (.cells #[Value.int .i64 x.id, Value.int .i64 x.st, Value.int .i64 x.step, Value.int .i64 x.steps.length, Value.int .i64 x.tries, Value.int .i64 x.due] 38)).cell? ((⟨W.heap.size, 0, none⟩ : Addr).add j) = some u := World.news_of_block (heap_alloc_new W _)
    have Hnews := Lib.hid hnews
    have hlt' := Lib.hid hlt
    clear hrow hv bM1 hB1 hnil hnews hlt hr
    have hcv := cellv W
    gi_wp2_with (first
      | (gi_at_builtin; refine wpListIn_append_own _ rfl _ _ 65 rfl w.heap.size 38 i0 (.agg #[.int .i64 0, .int .i64 0, .int .i64 0, .int .i64 0, .int .i64 0, .int .i64 0]) 6 48 Tryz.underlying65 hi hz0 hz1 hz2 rfl (by decide) _ _ _ rfl hoA.out ⟨W.heap.size, 0, none⟩ 1 1 [Value.int .i64 x.id, Value.int .i64 x.st, Value.int .i64 x.step, Value.int .i64 x.steps.length, Value.int .i64 x.tries, Value.int .i64 x.due] rfl rfl Hnews.out (by intro u hu; simp at hu; rcases hu with rfl | rfl | rfl | rfl | rfl | rfl <;> rfl) (by unfold maxLen; have := hlt'.out; have := Hl.out.2; omega) (by have := hlt'.out; have := Hl.out.2; omega) (by have := HB1.out.size; simp; omega) ?_; intro v' w1 hown' hgrow _; obtain ⟨g', cap', rfl⟩ := ownsRow_succ hown'; obtain ⟨hv1, hv2, hr2, hk2, hb2⟩ := Hv.out.appended (by decide) Hrow.out HB1.out.size (by omega) hown' hgrow; have hc1 := hv1.cell; have hf1 := hv1.frozen)
      | fail)
    have hg1 : (W.alloc (.cells #[Value.int .i64 x.id, Value.int .i64 x.st, Value.int .i64 x.step, Value.int .i64 x.steps.length, Value.int .i64 x.tries, Value.int .i64 x.due] 38)).grownBy w1 (Value.slice va pre.length vc).ownBlock := hgrow
    have hF : FrK [66, 39] W (w1.setCell ⟨w.heap.size + 1, 0, none⟩ (.slice (some ⟨g', 0, none⟩) (pre.length + 1) cap')) := by
      refine FrK.trans (b := W.alloc (.cells #[Value.int .i64 x.id, Value.int .i64 x.st, Value.int .i64 x.step, Value.int .i64 x.steps.length, Value.int .i64 x.tries, Value.int .i64 x.due] 38)) (((Fr.refl (fun _ => False) W).alloc _).toK (fun _ _ f _ => f.elim)) (FrK.trans (b := w1) ((Fr.ofGrown hg1).toK ?_) ((Fr.one (w.heap.size + 1) w1 0 _).toK ?_))
      · intro k o hk ho
        obtain ⟨o', ho', hk'⟩ := own_kind hoA.out hk
        rw [ho] at ho'; cases ho'
        simp [hk']
      · rintro k o rfl ho
        rw [show w1.heap[w.heap.size + 1]? = _ from hv1] at ho; cases ho
        simp [kindOf]
    refine ⟨hF.keepsFrom (by simp) _, KpA.of hF (by simp) hb2, ⟨⟨_, hv2, ?_, by simp⟩, hF.block _ _ HM1.out (by simp [kindOf])⟩, HB1.out.trans hb2⟩
    rw [stCells_snoc, List.length_append, List.length_singleton]
    exact hr2
  case done =>
    rintro D ys W hD rfl ⟨⟨⟨v, hv, hrow, hnil⟩, bM1⟩, hB1⟩ hK
    have hc := hv.cell
    obtain ⟨va, vc, rfl⟩ : ∃ va vc, v = .slice va s.sagas.length vc := by
      rcases hrow.2 with ⟨h1, h2⟩ | ⟨g, cap, cur, h1, _⟩
      · exact ⟨none, 0, by rw [h1, h2]⟩
      · exact ⟨_, _, h1⟩
    gi_wp2
    refine ⟨by simp, .inl ⟨_, _, rfl, run_takeDeferred hK, ?_⟩⟩
    exact ⟨_, results_tmp rfl _ _ _, _, rfl, ownsRow_putObj hrow _ hK rfl, hB1.trans (belowK_b (w := w) (Nat.le_refl _) W D _ _ (by omega) hK rfl rfl)⟩
  case stop =>
    rintro D c pre W _ _ h _
    exact h.elim
end Go.Proofs.YtkafmfdipmhleaaGreatDoor

namespace Go.Proofs.YtkafmfdipmhleaaGreatDoor
open Go.RowKit Go.Maps

def subStr : ByteArray := ⟨#[115, 117, 98, 109, 105, 116]⟩
set_option maxRecDepth 100000 in
set_option maxHeartbeats 2000000 in
/-- A saga that is none. -/
theorem Submit_bad {w : World} {q : Pl} {bl : List Nat} {s : StM} {id : Int} {l : List (ByteArray × ByteArray)} {v : Value} (hs : StAt w q bl s) (hv : SlAt w v l) (hll : l.length ≤ 1000) (hw : wholeB id l = false) :
    Calls Tryz.prog 18 #[.pointer (some ⟨q.xb, 0, none⟩), .int .i64 id, v] w (FailPost w subStr 1) := by
  have hsh : ∃ a c, v = .slice a l.length c := by
    rcases hv with ⟨rfl, a, c, rfl⟩ | ⟨b, off, cap, _, e, _⟩
    · exact ⟨a, c, rfl⟩
    · exact ⟨_, _, e⟩
  have HW := Lib.hid (Whole_calls w id l v hv hll)
  obtain ⟨a, c, rfl⟩ := hsh
  rw [hw] at HW
  have hx := hs.eng
  simp only [egCells] at hx
  clear hs hv hll hw
  have hcv := cellv w
  go_enter Tryz.func18, Tryz.ntmps18
  go_wp2_with (first
    | (go_at_call 41; refine Calls.mono HW.out ?_; rintro e w2 ⟨rfl, hf2⟩)
    | (go_at_call 40; refine Calls.mono (fail_calls w2 subStr 1) ?_; rintro e w3 ⟨v, rfl, hv3, hf3⟩)
    | fail)
  go_ret
  obtain ⟨fb, h1, h2, h3⟩ := hv3
  exact ⟨v, rfl, ⟨fb, Nat.le_trans hf2.size h1, h2, h3⟩, hf2.trans hf3⟩
set_option maxRecDepth 100000 in
set_option maxHeartbeats 2000000 in
/-- A saga of this number is there: the same one, or another. -/
theorem Submit_there {w : World} {q : Pl} {bl : List Nat} {s : StM} {i : Nat} {g : SagaM} {l : List (ByteArray × ByteArray)} {v : Value} (hs : StAt w q bl s) (hi : s.inv) (hg : s.sagas[i]? = some g) (hv : StepsAt w v l) (hw : wholeB g.id l = true) :
    Calls Tryz.prog 18 #[.pointer (some ⟨q.xb, 0, none⟩), .int .i64 g.id, v] w fun e w' => New w w' ∧ (if l = g.steps then e = .returned .nilIface else ∃ x, e = .returned x ∧ FaultAt w w' subStr 2 x) := by
  have hws := whole_small hw
  obtain ⟨b, hb, hbo⟩ := blk_of s.sagas bl hs.len hi.ord i g hg
  have hgok := hi.ok g (List.mem_of_getElem? hg)
  obtain ⟨sa, sn, sc, rfl⟩ := hv.shape
  have HW := Lib.hid (Whole_calls w g.id l _ (.inr hv) (by have := hws.2.2.2.1; omega))
  rw [hw] at HW
  have HS := Lib.hid (fun (w2 : World) (hf : New w w2) => Same_calls ((hs.keepK (hf.toK (K := []) (fun _ _ f _ => f.elim)) (by simp)).sg i g b hg hb) l _ (hv.frame hf (fun _ f => f.elim)) (by have := hws.2.2.2.1; omega) (by have := hgok.2.2.1.2.1; omega))
  have HL := Lib.hid (fun (w2 : World) (hf : New w w2) => look_some (hs.keepK (hf.toK (K := []) (fun _ _ f _ => f.elim)) (by simp)).mp g.id (by omega) hbo)
  have Hx := Lib.hid hs.eng
  have hx := hs.eng
  simp only [egCells] at hx
  clear hs hi hg hv hw hb hbo hgok hws
  have hcv := cellv w
  go_enter Tryz.func18, Tryz.ntmps18
  go_upto_region 5 with (first
    | (go_at_call 41; refine Calls.mono HW.out ?_; rintro e w2 ⟨rfl, hf2⟩)
    | fail)
  have hx2 := hf2.get Hx.out (fun f => f)
  have hlk := HL.out w2 hf2
  have HS2 := Lib.hid (HS.out w2 hf2)
  have Hf2 := Lib.hid hf2
  simp only [egCells] at hx2
  clear hcv hx hf2
  have hcv := cellv w2
  by_cases he : l = g.steps
  · rw [decide_eq_true he] at HS2
    have He := Lib.hid he
    clear he
    go_wp2_with (first
      | (go_at_call 42; refine Calls.mono HS2.out ?_; rintro e w3 ⟨rfl, n3, rfl⟩)
      | fail)
    go_ret
    exact ⟨Hf2.out.drewN n3, rfl⟩
  · rw [decide_eq_false he] at HS2
    have He := Lib.hid he
    clear he
    go_wp2_with (first
      | (go_at_call 42; refine Calls.mono HS2.out ?_; rintro e w3 ⟨rfl, n3, rfl⟩)
      | (go_at_call 40; refine Calls.mono (fail_calls (w2.drewN n3) subStr 2) ?_; rintro e w4 ⟨v, rfl, hv4, hf4⟩)
      | fail)
    go_ret
    obtain ⟨fb, h1, h2, h3⟩ := hv4
    exact ⟨(Hf2.out.drewN n3).trans hf4, v, rfl, fb, Nat.le_trans Hf2.out.size h1, h2, h3⟩
end Go.Proofs.YtkafmfdipmhleaaGreatDoor
