/-
  What is proved: many sagas end, at a pause of one. (No program in sight.) what Spare's engine comes to. (No program in sight.) the contract of the iterator All, at every loop body that leaves the engine as it is. the contract of plain.All, on an engine of at most a hundred sagas. the contract of the statements' helper straight, where what was done has the right form. the contract of the statements' helper begun.
-/
import Derived.Test.YtkafmfdipmhleaaGreatDoorRa9
import Derived.RangeFuncNested
import Derived.RangeFuncBound
import Derived.RangeFuncCalls
import Derived.RangeFuncLeaves
import Derived.RangeFuncBox
import Derived.Shelf.Abstract
import Derived.Shelf.RegionOpen
import Derived.OwnWalkIn
import Derived.TacticsInMore
import Derived.LoopNIn
import Derived.LoopIn
import Derived.Maps.AppendAt

namespace Go.Proofs.YtkafmfdipmhleaaGreatDoor
open Go.RowKit Go.Maps

/-- Many sagas, and what their partner has done. -/
structure SI (rest : List Int) (C : Int) (s : StM) : Prop where
  ag : ∀ g ∈ s.sagas, Agree g.steps.length g.st g.step (mineOf s.p.effs g.id)
  fresh : ∀ id, (∀ g ∈ s.sagas, g.id ≠ id) → mineOf s.p.effs id = []
  pl : s.p.l = rest
  at_ : s.p.at_ = s.p.log.length
  sum : (s.p.log.length : Int) + leftSum s.sagas ≤ C + min s.p.log.length 60
  due : ∀ g ∈ s.sagas, g.due ≤ s.clock + 1
  clk : 0 ≤ s.clock ∧ s.clock < 2 ^ 40
  pz : s.pause = 1
  told : s.d.told = 0
theorem ord_ne {l : List SagaM} (h : l.Pairwise (fun a b => a.id < b.id)) {i k : Nat} {a b : SagaM} (ha : l[i]? = some a) (hb : l[k]? = some b) (hik : i ≠ k) : a.id ≠ b.id := by
  obtain ⟨p1, q1⟩ := List.getElem?_eq_some_iff.1 ha
  obtain ⟨p2, q2⟩ := List.getElem?_eq_some_iff.1 hb
  have hpw := List.pairwise_iff_getElem.1 h
  rcases Nat.lt_or_ge i k with h3 | h3
  · have := hpw i k p1 p2 h3; rw [q1, q2] at this; omega
  · have := hpw k i p2 p1 (by omega); rw [q1, q2] at this; omega
theorem told_flush (d : DiskM) (hq : d.quiet) (h : d.told = 0) : d.flush.told = 0 := by
  have hb := hq.bad
  simp only [DiskM.flush, DiskM.count, hb]
  cases d.pend <;> simp [h]
theorem told_put (d : DiskM) (hq : d.quiet) (h : d.told = 0) (i : Nat) (l : List UInt8) : (d.put i l).told = 0 := by
  have hb := hq.bad
  simp [DiskM.put, DiskM.count, hb, h]
theorem told_settle (j : JnM) (d : DiskM) (hq : d.quiet) (h : d.told = 0) : (settleD j d).told = 0 := by
  unfold settleD; split
  · exact told_flush d hq h
  · exact h
theorem told_append (d : DiskM) (ep ix : Nat) (l : List RecM) (hq : d.quiet) (h : d.told = 0) : (d.append ep ix l).told = 0 := by
  induction l generalizing d ix with
  | nil => exact h
  | cons a l ih => exact ih (d.sure ix _) _ ((hq.put _ _).flush) (told_flush _ (hq.put _ _) (told_put d hq h _ _))
/-- One saga's turn. -/
theorem si_step {rest r : List Int} {C : Int} {s : StM} {k : Nat} (hr : rest = r ++ List.replicate 300 0) (hrl : r.length ≤ 60) (h : SI rest C s) (hC : C ≤ 200) (hi : s.inv) (htr : ∀ g ∈ s.sagas, g.tries + 1 < 2 ^ 40) :
    SI rest C (s.stepOne k) ∧ s.p.log.length ≤ (s.stepOne k).p.log.length ∧ (∀ i, i ≠ k → (s.stepOne k).sagas[i]? = s.sagas[i]?) ∧
    (∀ g, s.sagas[k]? = some g → ∃ g', (s.stepOne k).sagas[k]? = some g' ∧ g'.id = g.id ∧ g'.steps = g.steps ∧ ((g.st = 3 ∨ g.st = 4) → g' = g) ∧
      ((g.st = 1 ∨ g.st = 2) → g.due ≤ s.clock → g'.left + ((60 - (s.stepOne k).p.log.length : Nat) : Int) + 1 ≤ g.left + ((60 - s.p.log.length : Nat) : Int))) := by
  have hne : s.p.l ≠ [] := by rw [h.pl, hr]; exact app_ne 300 (by omega)
  cases hg : s.sagas[k]? with
  | none =>
    have e : s.stepOne k = s := by simp only [StM.stepOne, hg]
    rw [e]
    exact ⟨h, Nat.le_refl _, fun _ _ => rfl, fun g hg' => by cases hg'⟩
  | some g =>
    have hmem : g ∈ s.sagas := List.mem_of_getElem? hg
    have hok := hi.ok g hmem
    cases hw : g.waits s.clock
    · have e : s.stepOne k = s := by simp only [StM.stepOne, hg, hw, if_true]
      rw [e]
      refine ⟨h, Nat.le_refl _, fun _ _ => rfl, fun g0 hg' => ?_⟩
      cases hg'
      refine ⟨g, hg, rfl, rfl, fun _ => rfl, fun hst hd => ?_⟩
      exfalso
      simp only [SagaM.waits, Bool.and_eq_false_iff, decide_eq_false_iff_not] at hw
      omega
    · have hst : g.st = 1 ∨ g.st = 2 := by
        simp [SagaM.waits] at hw
        obtain ⟨_, _, _, _, h | h⟩ := hok
        · exact h.1
        · omega
      have hkl := (List.getElem?_eq_some_iff.1 hg).1
      obtain ⟨a1, a2, a3, a4⟩ := agree_ask g s.p (h.ag g hmem) hst
      have hat : (s.p.ask g.call).at_ = s.p.at_ + 1 := at_next hne
      have hlog : (s.p.ask g.call).log = s.p.log ++ [(g.call, g.reply s.p)] := rfl
      have hll : (s.p.ask g.call).log.length = s.p.log.length + 1 := by rw [hlog]; simp
      have hln := leftSum_nonneg s.sagas hi.ok
      have hlm := leftSum_mem s.sagas hi.ok g hmem
      have hsum := h.sum
      have hpos := hok.left_pos hst
      have hcs : g.call.saga = g.id := rfl
      have hother : ∀ id, id ≠ g.id → mineOf (s.p.ask g.call).effs id = mineOf s.p.effs id := fun id hid => mine_other s.p g.call id (fun e => hid (e.symm.trans hcs))
      have hsets : ∀ (g' : SagaM), g'.id = g.id → g'.steps = g.steps → Agree g'.steps.length g'.st g'.step (mineOf (s.p.ask g.call).effs g.id) → g'.due ≤ s.clock + 1 →
          (∀ x ∈ s.sagas.set k g', Agree x.steps.length x.st x.step (mineOf (s.p.ask g.call).effs x.id)) ∧ (∀ id, (∀ x ∈ s.sagas.set k g', x.id ≠ id) → mineOf (s.p.ask g.call).effs id = []) ∧ (∀ x ∈ s.sagas.set k g', x.due ≤ s.clock + 1) ∧
          (∀ i, i ≠ k → (s.sagas.set k g')[i]? = s.sagas[i]?) ∧ (s.sagas.set k g')[k]? = some g' := by
        intro g' h1 h2 h3 h4
        refine ⟨fun x hx => ?_, fun id hid => ?_, fun x hx => ?_, fun i hik => List.getElem?_set_ne (fun e => hik e.symm), List.getElem?_set_self hkl⟩
        · obtain ⟨i, hi2⟩ := List.getElem?_of_mem hx
          by_cases e : i = k
          · subst e
            rw [List.getElem?_set_self hkl] at hi2
            cases hi2
            rw [h1]; exact h3
          · rw [List.getElem?_set_ne (fun h => e h.symm)] at hi2
            have hx0 : x ∈ s.sagas := List.mem_of_getElem? hi2
            rw [hother x.id (ord_ne hi.ord hi2 hg e)]
            exact h.ag x hx0
        · have hidg : id ≠ g.id := fun e => hid g' (List.mem_of_getElem? (List.getElem?_set_self hkl)) (h1.trans e.symm)
          rw [hother id hidg]
          refine h.fresh id (fun x hx => ?_)
          obtain ⟨i, hi2⟩ := List.getElem?_of_mem hx
          by_cases e : i = k
          · subst e
            rw [hg] at hi2; cases hi2
            exact fun e => hidg e.symm
          · exact hid x (List.mem_of_getElem? ((List.getElem?_set_ne (fun h => e h.symm)).trans hi2))
        · rcases mem_set_cases hx with rfl | hx
          · exact h4
          · exact h.due x hx
      cases hm : g.moves (g.reply s.p)
      · have hr1 : g.reply s.p = 1 := by
          rcases a4 with e | e | e
          · rw [e] at hm; simp [SagaM.moves] at hm
          · exact e
          · have := a3 e; rw [e] at hm; simp [SagaM.moves, this] at hm
        have hlt : s.p.log.length < 60 := by
          refine Nat.lt_of_not_le (fun hge => ?_)
          have hk := k_zero' hr hrl (by omega) s.p h.pl (by rw [h.at_]; omega) (by rw [h.at_]; omega)
          have : g.reply s.p = 0 := by
            simp only [SagaM.reply, replyM, hk]
            cases s.p.knows g.call <;> simp
          omega
        have htg := htr g hmem
        have hmn : 1 ≤ (2 : Int) ^ (min g.tries 20).toNat := by
          have h2 : 1 ≤ (2 : Nat) ^ (min g.tries 20).toNat := Nat.one_le_two_pow
          have h3 : (((2 : Nat) ^ (min g.tries 20).toNat : Nat) : Int) = (2 : Int) ^ (min g.tries 20).toNat := by simp
          omega
        have hdw : wrap64 (s.clock + min ((2 : Int) ^ (min g.tries 20).toNat) s.pause) = s.clock + 1 := by
          rw [h.pz, Int.min_eq_right hmn]
          exact wrap_in _ (by have := h.clk; omega)
        have e : s.stepOne k = { s with sagas := s.sagas.set k (g.paused s.clock s.pause), j := { s.j with fresh := false }, d := settleD s.j s.d, p := s.p.ask g.call } := by
          simp only [StM.stepOne, hg, hw, hm, if_true]; rfl
        have hpd : (g.paused s.clock s.pause).due = s.clock + 1 := hdw
        have hpl : (g.paused s.clock s.pause).left = g.left := rfl
        obtain ⟨z1, z2, z3, z4, z5⟩ := hsets (g.paused s.clock s.pause) rfl rfl a1 (by rw [hpd]; omega)
        rw [e]
        refine ⟨⟨z1, z2, h.pl, ?_, ?_, z3, h.clk, h.pz, told_settle _ _ hi.quiet h.told⟩, by simp only [hll]; omega, z4, fun g0 hg' => ?_⟩
        · simp only [hat, hll, h.at_]; omega
        · simp only [hll]; rw [leftSum_set _ _ g _ hg, hpl]; omega
        · cases hg'
          refine ⟨_, z5, rfl, rfl, fun h3 => by omega, fun _ _ => ?_⟩
          simp only [hll, hpl]; omega
      · obtain ⟨hmo, hml⟩ := hok.moved hst (g.reply s.p)
        have hr02 : g.reply s.p = 0 ∨ g.reply s.p = 2 := by
          simp [SagaM.moves] at hm
          exact hm.imp id (fun h => h.1)
        obtain ⟨m1, m2, m3, m4⟩ := moved_st g (g.reply s.p) hst hok hr02 a3
        have hsteps : (g.moved (g.reply s.p)).steps = g.steps := by
          by_cases h1 : g.st = 1 <;> by_cases h2 : g.reply s.p = 0 <;> by_cases h3 : (g.steps.length : Int) < g.step + 1 <;> simp [SagaM.moved, SagaM.forward, SagaM.backward, h1, h2, h3]
        have e : s.stepOne k = { s with sagas := s.sagas.set k (g.moved (g.reply s.p)), j := ⟨s.j.epoch, s.j.en + 1, false⟩, d := (settleD s.j s.d).append s.j.epoch s.j.en [⟨4, 0, 0, g.id.toNat, (g.reply s.p).toNat, []⟩], p := s.p.ask g.call } := by
          simp [StM.stepOne, hg, hw, hm]
        have hck := h.clk
        obtain ⟨z1, z2, z3, z4, z5⟩ := hsets (g.moved (g.reply s.p)) (moved_id g _) hsteps (by rw [hsteps]; exact a2 hm) (by rw [m3]; omega)
        rw [e]
        refine ⟨⟨z1, z2, h.pl, ?_, ?_, z3, h.clk, h.pz, told_append _ _ _ _ (settle_quiet _ _ hi.quiet) (told_settle _ _ hi.quiet h.told)⟩, by simp only [hll]; omega, z4, fun g0 hg' => ?_⟩
        · simp only [hat, hll, h.at_]; omega
        · simp only [hll]; rw [leftSum_set _ _ g _ hg]; omega
        · cases hg'
          refine ⟨_, z5, moved_id g _, hsteps, fun h3 => by omega, fun _ _ => ?_⟩
          simp only [hll]; omega
/-- One tick, for each saga. -/
theorem si_tick {rest r : List Int} {C : Int} {s : StM} (hr : rest = r ++ List.replicate 300 0) (hrl : r.length ≤ 60) (h : SI rest C s) (hC : C ≤ 200) (hi : s.inv) (hf : s.fine s.sagas.length) (hck : s.clock + 1 < 2 ^ 40) :
    SI rest C s.tick ∧ (∀ (i : Nat) (g : SagaM), s.sagas[i]? = some g → ∃ g', s.tick.sagas[i]? = some g' ∧ g'.id = g.id ∧ g'.steps = g.steps ∧ ((g.st = 3 ∨ g.st = 4) → g' = g) ∧
      ((g.st = 1 ∨ g.st = 2) → g'.left + ((60 - s.tick.p.log.length : Nat) : Int) + 1 ≤ g.left + ((60 - s.p.log.length : Nat) : Int))) ∧ s.p.log.length ≤ s.tick.p.log.length := by
  have h0 : SI rest C { s with clock := s.clock + 1 } := ⟨h.ag, h.fresh, h.pl, h.at_, h.sum, fun g hg => by have := h.due g hg; simp only; omega, ⟨by have := h.clk; simp only; omega, hck⟩, h.pz, h.told⟩
  have key : ∀ n, n ≤ s.sagas.length → let t := (List.range n).foldl StM.stepOne { s with clock := s.clock + 1 }
      SI rest C t ∧ t.inv ∧ t.fine (s.sagas.length - n) ∧ t.clock = s.clock + 1 ∧ s.p.log.length ≤ t.p.log.length ∧ (∀ i, n ≤ i → t.sagas[i]? = s.sagas[i]?) ∧
      (∀ (i : Nat) (g : SagaM), i < n → s.sagas[i]? = some g → ∃ g', t.sagas[i]? = some g' ∧ g'.id = g.id ∧ g'.steps = g.steps ∧ ((g.st = 3 ∨ g.st = 4) → g' = g) ∧
        ((g.st = 1 ∨ g.st = 2) → g'.left + ((60 - t.p.log.length : Nat) : Int) + 1 ≤ g.left + ((60 - s.p.log.length : Nat) : Int))) := by
    intro n
    induction n with
    | zero => intro _; exact ⟨h0, inv_clock hi _, hf, rfl, Nat.le_refl _, fun _ _ => rfl, fun i g hi => by omega⟩
    | succ n ih =>
      intro hn
      have ihn := ih (by omega)
      simp only [List.range_succ, List.foldl_append, List.foldl_cons, List.foldl_nil] at ihn ⊢
      generalize (List.range n).foldl StM.stepOne { s with clock := s.clock + 1 } = t at ihn ⊢
      obtain ⟨b1, b2, b3, b4, b5, b6, b7⟩ := ihn
      obtain ⟨c1, c2, c3, c4⟩ := si_step (k := n) hr hrl b1 hC b2 (fun g hg => by have := b3.2.2.2.2.2 g hg; have := b3.1; omega)
      obtain ⟨d1, d2, d3, _⟩ := stepOne_inv (k := n) (m := s.sagas.length - (n + 1)) b2 (by rw [show s.sagas.length - (n + 1) + 1 = s.sagas.length - n by omega]; exact b3)
      refine ⟨c1, d1, d2, d3.trans b4, by omega, fun i hi2 => (c3 i (by omega)).trans (b6 i (by omega)), fun i g hin hg => ?_⟩
      by_cases e : i = n
      · subst e
        obtain ⟨g', e1, e2, e3, e4, e5⟩ := c4 g ((b6 i (Nat.le_refl _)).trans hg)
        refine ⟨g', e1, e2, e3, e4, fun hst => ?_⟩
        have := e5 hst (by rw [b4]; exact h.due g (List.mem_of_getElem? hg))
        omega
      · obtain ⟨g', e1, e2, e3, e4, e5⟩ := b7 i g (by omega) hg
        refine ⟨g', (c3 i e).trans e1, e2, e3, e4, fun hst => ?_⟩
        have := e5 hst
        omega
  obtain ⟨k1, _, _, _, k5, _, k7⟩ := key s.sagas.length (Nat.le_refl _)
  exact ⟨k1, fun i g hg => k7 i g (List.getElem?_eq_some_iff.1 hg).1 hg, k5⟩
theorem si_ticks {rest r : List Int} {C : Int} {s : StM} (hr : rest = r ++ List.replicate 300 0) (hrl : r.length ≤ 60) (h : SI rest C s) (hC : C ≤ 200) (hi : s.inv) (t : Nat) (hf : s.fine (t * s.sagas.length)) (hck : s.clock + t < 2 ^ 40) :
    SI rest C (s.ticks t) ∧ (∀ (i : Nat) (g : SagaM), s.sagas[i]? = some g → ∃ g', (s.ticks t).sagas[i]? = some g' ∧ g'.id = g.id ∧ g'.steps = g.steps ∧ ((g'.st = 3 ∨ g'.st = 4) ∨ g'.left + ((60 - (s.ticks t).p.log.length : Nat) : Int) + t ≤ g.left + ((60 - s.p.log.length : Nat) : Int))) := by
  induction t with
  | zero => exact ⟨h, fun i g hg => ⟨g, hg, rfl, rfl, .inr (by simp [StM.ticks])⟩⟩
  | succ t ih =>
    have hf1 : s.fine (t * s.sagas.length) := by
      obtain ⟨b1, b2, b3, b4, b5, b6⟩ := hf
      have : t * s.sagas.length ≤ (t + 1) * s.sagas.length := Nat.mul_le_mul_right _ (by omega)
      exact ⟨by omega, by omega, b3, b4, by omega, b6⟩
    obtain ⟨h1, h2⟩ := ih hf1 (by omega)
    obtain ⟨i1, i2, i3, i4⟩ := ticks_inv (m := s.sagas.length) hi t (by rw [Nat.add_mul, Nat.one_mul] at hf; rw [Nat.add_comm]; exact hf)
    obtain ⟨k1, k2, k3⟩ := si_tick hr hrl h1 hC i1 (by rw [i4]; exact i2) (by rw [i3]; omega)
    refine ⟨k1, fun i g hg => ?_⟩
    obtain ⟨g1, e1, e2, e3, e4⟩ := h2 i g hg
    obtain ⟨g2, f1, f2, f3, f4, f5⟩ := k2 i g1 e1
    refine ⟨g2, f1, f2.trans e2, f3.trans e3, ?_⟩
    have hst := agree_st (h1.ag g1 (List.mem_of_getElem? e1))
    rcases e4 with e4 | e4
    · left; rw [f4 e4]; exact e4
    · rcases hst with q | q | q | q
      · right; have := f5 (.inl q); show _ + (((60 - (s.ticks t).tick.p.log.length : Nat) : Int)) + _ ≤ _; omega
      · right; have := f5 (.inr q); show _ + (((60 - (s.ticks t).tick.p.log.length : Nat) : Int)) + _ ≤ _; omega
      · left; rw [f4 (.inl q)]; exact .inl q
      · left; rw [f4 (.inr q)]; exact .inr q
theorem left_le {g : SagaM} (h : g.ok) : g.left ≤ 12 := by
  obtain ⟨_, _, hsm, _, h⟩ := h
  have := hsm.1
  have := hsm.2.1
  unfold SagaM.left
  split
  · rcases h with h | h <;> omega
  · split
    · rcases h with h | h <;> omega
    · omega
/-- A hundred and twenty ticks are enough for all. -/
theorem si_ends {rest r : List Int} {C : Int} {s : StM} (hr : rest = r ++ List.replicate 300 0) (hrl : r.length ≤ 60) (h : SI rest C s) (hC : C ≤ 200) (hi : s.inv) (hf : s.fine (120 * s.sagas.length)) (hck : s.clock + 120 < 2 ^ 40) :
    SI rest C (s.ticks 120) ∧ ∀ g ∈ (s.ticks 120).sagas, g.st = 3 ∨ g.st = 4 := by
  obtain ⟨h1, h2⟩ := si_ticks hr hrl h hC hi 120 hf hck
  obtain ⟨i1, _, _, i4⟩ := ticks_inv (m := 0) hi 120 (by simpa using hf)
  refine ⟨h1, fun g hg => ?_⟩
  obtain ⟨i, hgi⟩ := List.getElem?_of_mem hg
  have hil := (List.getElem?_eq_some_iff.1 hgi).1
  rw [i4] at hil
  have hg0 : s.sagas[i]? = some s.sagas[i] := List.getElem?_eq_getElem hil
  obtain ⟨g', e1, _, _, e4⟩ := h2 i _ hg0
  rw [hgi] at e1
  cases e1
  rcases e4 with e4 | e4
  · exact e4
  · have hl := left_le (hi.ok _ (List.mem_of_getElem? hg0))
    have := (i1.ok g hg).left_nonneg
    omega
end Go.Proofs.YtkafmfdipmhleaaGreatDoor

namespace Go.Proofs.YtkafmfdipmhleaaGreatDoor
open Go.RowKit Go.Maps

/-- A turn asks for no more room than was kept for it. -/
theorem step_room {s : StM} {k : Nat} (h : s.inv) : ((s.stepOne k).j.en : Int) + leftSum (s.stepOne k).sagas ≤ (s.j.en : Int) + leftSum s.sagas ∧ (s.stepOne k).d.blocks.length = s.d.blocks.length := by
  have hlen : (settleD s.j s.d).blocks.length = s.d.blocks.length := settle_len _ _ h.pend
  cases hg : s.sagas[k]? with
  | none => simp only [StM.stepOne, hg]; exact ⟨Int.le_refl _, trivial⟩
  | some g =>
    by_cases hw : g.waits s.clock = false
    · simp only [StM.stepOne, hg, hw, if_true]; exact ⟨Int.le_refl _, trivial⟩
    · have hmem : g ∈ s.sagas := List.mem_of_getElem? hg
      have hok := h.ok g hmem
      have hst : g.st = 1 ∨ g.st = 2 := by
        simp [SagaM.waits] at hw
        obtain ⟨_, _, _, _, h | h⟩ := hok
        · exact h.1
        · omega
      by_cases hm : g.moves (g.reply s.p) = false
      · have e : s.stepOne k = { s with sagas := s.sagas.set k (g.paused s.clock s.pause), j := { s.j with fresh := false }, d := settleD s.j s.d, p := s.p.ask g.call } := by
          simp [StM.stepOne, hg, hw, hm]
        rw [e]
        refine ⟨?_, hlen⟩
        simp only
        rw [leftSum_set _ _ g _ hg]
        have e2 : (g.paused s.clock s.pause).left = g.left := rfl
        rw [e2]; omega
      · have e : s.stepOne k = { s with sagas := s.sagas.set k (g.moved (g.reply s.p)), j := ⟨s.j.epoch, s.j.en + 1, false⟩, d := (settleD s.j s.d).append s.j.epoch s.j.en [⟨4, 0, 0, g.id.toNat, (g.reply s.p).toNat, []⟩], p := s.p.ask g.call } := by
          simp [StM.stepOne, hg, hw, hm]
        obtain ⟨hmo, hml⟩ := hok.moved hst (g.reply s.p)
        rw [e]
        refine ⟨?_, by simp only; rw [append_len, hlen]⟩
        simp only
        rw [leftSum_set _ _ g _ hg]
        omega
theorem fold_room {m : Nat} (l : List Nat) (s : StM) (h : s.inv) (hf : s.fine (m + l.length)) :
    ((l.foldl StM.stepOne s).j.en : Int) + leftSum (l.foldl StM.stepOne s).sagas ≤ (s.j.en : Int) + leftSum s.sagas ∧ (l.foldl StM.stepOne s).d.blocks.length = s.d.blocks.length := by
  induction l generalizing s with
  | nil => exact ⟨Int.le_refl _, rfl⟩
  | cons a l ih =>
    obtain ⟨h1, h2, _, _⟩ := stepOne_inv (k := a) (m := m + l.length) h (by simpa [Nat.add_assoc] using hf)
    obtain ⟨e1, e2⟩ := ih (s.stepOne a) h1 h2
    obtain ⟨e3, e4⟩ := step_room (k := a) h
    exact ⟨by rw [List.foldl_cons]; omega, e2.trans e4⟩
theorem tick_room {s : StM} {m : Nat} (h : s.inv) (hf : s.fine (m + s.sagas.length)) : (s.tick.j.en : Int) + leftSum s.tick.sagas ≤ (s.j.en : Int) + leftSum s.sagas ∧ s.tick.d.blocks.length = s.d.blocks.length :=
  fold_room (m := m) (List.range s.sagas.length) { s with clock := s.clock + 1 } (inv_clock h _) (by rw [List.length_range]; exact hf)
theorem tick_ids (s : StM) : s.tick.sagas.map (·.id) = s.sagas.map (·.id) := fold_ids _ { s with clock := s.clock + 1 }
theorem ticks_ids (s : StM) (t : Nat) : (s.ticks t).sagas.map (·.id) = s.sagas.map (·.id) := by
  induction t with
  | zero => rfl
  | succ t ih => rw [StM.ticks, tick_ids, ih]
theorem ticks_lo (s : StM) (t : Nat) : (s.ticks t).p.lo = s.p.lo := by
  induction t with
  | zero => rfl
  | succ t ih => rw [StM.ticks, tick_lo, ih]

/-- How many steps the saga of number i has. -/
def spN (c : Int) (i : Nat) : Nat := (manyM c (i : Nat)).toNat
theorem spN_range (c : Int) (i : Nat) : 1 ≤ spN c i ∧ spN c i ≤ 6 ∧ (spN c i : Int) = manyM c i := by
  have := manyM_range c i
  unfold spN; omega
def spNeed (c : Int) : Nat → Int
  | 0 => 4
  | j + 1 => spNeed c j + 2 * manyM c ((j + 1 : Nat) : Int) + 2
theorem spNeed_range (c : Int) (j : Nat) : 4 + 4 * (j : Int) ≤ spNeed c j ∧ spNeed c j ≤ 4 + 14 * (j : Int) := by
  induction j with
  | zero => simp [spNeed]
  | succ j ih =>
    have := manyM_range c ((j + 1 : Nat) : Int)
    simp only [spNeed]
    omega
theorem spNeed_mono (c : Int) (j k : Nat) (h : j ≤ k) : spNeed c j ≤ spNeed c k := by
  induction k with
  | zero => obtain rfl : j = 0 := by omega
            exact Int.le_refl _
  | succ k ih =>
    have := manyM_range c ((k + 1 : Nat) : Int)
    by_cases e : j = k + 1
    · subst e; exact Int.le_refl _
    · have := ih (by omega)
      simp only [spNeed]; omega
def rest300 (r : List Int) : List Int := r ++ List.replicate 300 0
def spSub (c : Int) (s : StM) (i : Nat) : StM := s.submit i (kSteps i (spN c i))
/-- Behind so many sagas. -/
def spM (c : Int) (s0 : StM) : Nat → StM
  | 0 => s0
  | j + 1 => (spSub c (spM c s0 j) (j + 1)).tick
/-- What holds there. -/
structure SpI (c : Int) (R : List Int) (lo B j : Nat) (s : StM) : Prop where
  inv : s.inv
  fine : s.fine (100000 - 100 * j)
  ids : s.sagas.map (·.id) = (List.range j).map (fun i => ((i + 1 : Nat) : Int))
  room : (s.j.en : Int) + leftSum s.sagas ≤ 1 + (spNeed c j - 4)
  blocks : s.d.blocks.length = B
  si : SI R (11 * (j : Int)) s
  clock : s.clock = j
  lo : s.p.lo = lo
theorem spI_len {c : Int} {R : List Int} {lo B j : Nat} {s : StM} (h : SpI c R lo B j s) : s.sagas.length = j := by
  have := congrArg List.length h.ids
  simpa using this
theorem spI_new {c : Int} {R : List Int} {lo B j : Nat} {s : StM} (h : SpI c R lo B j s) : ∀ x ∈ s.sagas, x.id ≠ ((j + 1 : Nat) : Int) := by
  intro x hx e
  have : x.id ∈ s.sagas.map (·.id) := List.mem_map.2 ⟨x, hx, rfl⟩
  rw [h.ids, List.mem_map] at this
  obtain ⟨i, hi, e2⟩ := this
  rw [List.mem_range] at hi
  omega
theorem sp_ins (l : List SagaM) (g : SagaM) (h : ∀ x ∈ l, x.id < g.id) : insSaga g l = l ++ [g] := by
  induction l with
  | nil => rfl
  | cons x r ih =>
    have := h x (by simp)
    unfold insSaga
    rw [if_neg (by omega), ih (fun y hy => h y (by simp [hy]))]; rfl
theorem spI_room {c : Int} {R : List Int} {lo B j : Nat} {s : StM} (h : SpI c R lo B j s) (hB : spNeed c (j + 1) ≤ B) :
    (s.j.en : Int) + (2 + (2 * (kSteps ((j + 1 : Nat) : Int) (spN c (j + 1))).length - 1) + leftSum s.sagas) ≤ s.d.blocks.length := by
  have h1 := h.room
  have h2 := spN_range c (j + 1)
  rw [h.blocks, kSteps_len]
  simp only [spNeed] at hB
  omega
theorem told_count (d : DiskM) (hq : d.quiet) (h : d.told = 0) : d.count.told = 0 := by
  have hb := hq.bad
  simp [DiskM.count, hb, h]
theorem fresh_told (n : Nat) : (DiskM.fresh n).count.count.told = 0 := by
  have h1 := new_quiet n
  refine told_count _ (fresh_quiet n).count (told_count _ (fresh_quiet n) ?_)
  exact told_flush _ (h1.count.flush.put 0 _) (told_put _ h1.count.flush (told_flush _ h1.count (told_count _ h1 rfl)) _ _)
theorem spI_zero (c : Int) (r : List Int) (lo B : Nat) (hr : r.length ≤ 60) (hB : 1 ≤ B ∧ B ≤ 1000) : SpI c (rest300 r) lo B 0 (StM.fresh B 1 ⟨[], [], rest300 r, 0, lo⟩) where
  inv := fresh_inv B 1 _ hB (by omega)
  fine := ⟨by simp [StM.fresh], by simp [StM.fresh], by show (rest300 r).length < 2 ^ 30; rw [rest300, List.length_append, List.length_replicate]; omega, by simp [StM.fresh], by simp [StM.fresh], fun g hg => by simp [StM.fresh] at hg⟩
  ids := rfl
  room := by simp [StM.fresh, leftSum, spNeed]
  blocks := fresh_len B
  si := ⟨fun g hg => by simp [StM.fresh] at hg, fun id _ => rfl, rfl, rfl, by simp [StM.fresh, leftSum], fun g hg => by simp [StM.fresh] at hg, by simp [StM.fresh], rfl, fresh_told B⟩
  clock := rfl
  lo := rfl
theorem spI_sub {c : Int} {R : List Int} {lo B j : Nat} {s : StM} (h : SpI c R lo B j s) (hj : j < 12) (hB : spNeed c (j + 1) ≤ B) :
    (spSub c s (j + 1)).inv ∧ (spSub c s (j + 1)).fine (100000 - 100 * j) ∧ (spSub c s (j + 1)).sagas.map (·.id) = (List.range (j + 1)).map (fun i => ((i + 1 : Nat) : Int)) ∧
    ((spSub c s (j + 1)).j.en : Int) + leftSum (spSub c s (j + 1)).sagas ≤ 1 + (spNeed c (j + 1) - 4) ∧ (spSub c s (j + 1)).d.blocks.length = B ∧ SI R (11 * ((j + 1 : Nat) : Int)) (spSub c s (j + 1)) := by
  have hN := spN_range c (j + 1)
  have hw : wholeB ((j + 1 : Nat) : Int) (kSteps ((j + 1 : Nat) : Int) (spN c (j + 1))) = true := kSteps_whole _ _ (by omega) (by omega)
  obtain ⟨i1, i2⟩ := submit_inv (id := ((j + 1 : Nat) : Int)) (l := kSteps ((j + 1 : Nat) : Int) (spN c (j + 1))) h.inv h.fine hw (spI_new h) (spI_room h hB)
  have hlt : ∀ x ∈ s.sagas, x.id < ((j + 1 : Nat) : Int) := by
    intro x hx
    have : x.id ∈ s.sagas.map (·.id) := List.mem_map.2 ⟨x, hx, rfl⟩
    rw [h.ids, List.mem_map] at this
    obtain ⟨i, hi, e2⟩ := this
    rw [List.mem_range] at hi
    omega
  have hins : (spSub c s (j + 1)).sagas = s.sagas ++ [SagaM.new ((j + 1 : Nat) : Int) (kSteps ((j + 1 : Nat) : Int) (spN c (j + 1)))] := sp_ins _ _ hlt
  have hsum : leftSum (spSub c s (j + 1)).sagas = (2 * (spN c (j + 1) : Int) - 1) + leftSum s.sagas := by
    show leftSum (insSaga _ _) = _
    rw [insSaga_sum, new_left, kSteps_len]
  have hen : ((spSub c s (j + 1)).j.en : Int) = s.j.en + 2 := by show ((s.j.en + 2 : Nat) : Int) = _; omega
  refine ⟨i1, i2, ?_, ?_, ?_, ?_⟩
  · rw [hins, List.map_append, h.ids, List.range_succ, List.map_append]; rfl
  · rw [hsum, hen]
    have := h.room
    simp only [spNeed]; omega
  · show ((settleD s.j s.d).append _ _ _).blocks.length = B
    rw [append_len, settle_len _ _ h.inv.pend, h.blocks]
  · have hs := h.si
    have hp : (spSub c s (j + 1)).p = s.p := rfl
    refine ⟨?_, ?_, by rw [hp]; exact hs.pl, by rw [hp]; exact hs.at_, ?_, ?_, hs.clk, hs.pz, ?_⟩
    · intro g hg
      rw [hins, List.mem_append, List.mem_singleton] at hg
      rw [hp]
      rcases hg with hg | rfl
      · exact hs.ag g hg
      · have hf : mineOf s.p.effs (SagaM.new ((j + 1 : Nat) : Int) (kSteps ((j + 1 : Nat) : Int) (spN c (j + 1)))).id = [] := hs.fresh ((j + 1 : Nat) : Int) (fun g hg e => by have := hlt g hg; omega)
        rw [hf]
        exact .inl ⟨rfl, 0, rfl, by show 0 < (kSteps _ _).length; rw [kSteps_len]; omega, .inl rfl⟩
    · intro id hid
      rw [hp]
      exact hs.fresh id (fun g hg => hid g (by rw [hins]; simp [hg]))
    · rw [hsum, hp]
      have := hs.sum
      omega
    · intro g hg
      rw [hins, List.mem_append, List.mem_singleton] at hg
      rcases hg with hg | rfl
      · exact hs.due g hg
      · have := hs.clk; show (0 : Int) ≤ s.clock + 1; omega
    · exact told_append _ _ _ _ (settle_quiet _ _ h.inv.quiet) (told_settle _ _ h.inv.quiet hs.told)
theorem spI_step {c : Int} {r : List Int} {lo B j : Nat} {s : StM} (hr : r.length ≤ 60) (h : SpI c (rest300 r) lo B j s) (hj : j < 12) (hB : spNeed c (j + 1) ≤ B) : SpI c (rest300 r) lo B (j + 1) (spSub c s (j + 1)).tick := by
  obtain ⟨i1, i2, i3, i4, i5, i6⟩ := spI_sub h hj hB
  have hlen : (spSub c s (j + 1)).sagas.length = j + 1 := by have := congrArg List.length i3; simpa using this
  have hck : (spSub c s (j + 1)).clock = (j : Int) := h.clock
  have hfm : ∀ m, m ≤ 100000 - 100 * j → (spSub c s (j + 1)).fine m := by
    intro m hm
    obtain ⟨b1, b2, b3, b4, b5, b6⟩ := i2
    exact ⟨by omega, by omega, b3, b4, by omega, b6⟩
  obtain ⟨t1, t2, t3, t4⟩ := tick_inv (m := 100000 - 100 * (j + 1)) i1 (hfm _ (by rw [hlen]; omega))
  obtain ⟨r1, r2⟩ := tick_room (m := 100000 - 100 * (j + 1)) i1 (hfm _ (by rw [hlen]; omega))
  have hsi := (si_tick (r := r) rfl hr i6 (by omega) i1 (hfm _ (by rw [hlen]; omega)) (by rw [hck]; omega)).1
  refine ⟨t1, t2, (tick_ids _).trans i3, by omega, r2.trans i5, hsi, by rw [t3, hck]; omega, (tick_lo _).trans h.lo⟩
theorem spI_all {c : Int} {r : List Int} {lo B : Nat} (hr : r.length ≤ 60) (hB0 : 1 ≤ B ∧ B ≤ 1000) (j : Nat) (hj : j ≤ 12) (hB : spNeed c j ≤ B) : SpI c (rest300 r) lo B j (spM c (StM.fresh B 1 ⟨[], [], rest300 r, 0, lo⟩) j) := by
  induction j with
  | zero => exact spI_zero c r lo B hr hB0
  | succ j ih =>
    have := spNeed_mono c j (j + 1) (by omega)
    exact spI_step hr (ih (by omega) (by omega)) (by omega) hB
/-- A hundred and twenty ticks later all have ended. -/
theorem spI_end {c : Int} {r : List Int} {lo B k : Nat} {s : StM} (hr : r.length ≤ 60) (h : SpI c (rest300 r) lo B k s) (hk : k ≤ 12) :
    SI (rest300 r) (11 * (k : Int)) (s.ticks 120) ∧ (∀ g ∈ (s.ticks 120).sagas, g.st = 3 ∨ g.st = 4) ∧ (s.ticks 120).inv ∧ (s.ticks 120).fine 10 ∧ (s.ticks 120).sagas.length = k ∧ (s.ticks 120).d.told = 0 := by
  have hlen := spI_len h
  have hfm : ∀ m, m ≤ 100000 - 100 * k → s.fine m := by
    intro m hm
    obtain ⟨b1, b2, b3, b4, b5, b6⟩ := h.fine
    exact ⟨by omega, by omega, b3, b4, by omega, b6⟩
  have hb : 120 * s.sagas.length ≤ 1440 := by rw [hlen]; omega
  obtain ⟨e1, e2⟩ := si_ends (r := r) rfl hr h.si (by omega) h.inv (hfm _ (by omega)) (by rw [h.clock]; omega)
  obtain ⟨t1, t2, _, t4⟩ := ticks_inv (m := 10) h.inv 120 (hfm _ (by omega))
  exact ⟨e1, e2, t1, t2, t4.trans hlen, e1.told⟩
end Go.Proofs.YtkafmfdipmhleaaGreatDoor

namespace Go.Proofs.YtkafmfdipmhleaaGreatDoor
open Go.RowKit Go.Maps Go.Shelf

attribute [local go_sem] Oper.semAt_some

/-- What a round of a loop over All keeps. -/
def KpA (n₀ : Nat) (W W' : World) : Prop := Below n₀ W W' ∧ FrK [0, 66, 39] W W'
theorem KpA.refl (n₀ : Nat) (W : World) : KpA n₀ W W := ⟨Below.refl _ _, FrK.refl _ _⟩
theorem KpA.trans {n₀ : Nat} {A B C : World} (h : KpA n₀ A B) (k : KpA n₀ B C) : KpA n₀ A C := ⟨h.1.trans k.1, h.2.trans k.2⟩
theorem grown_below {w w' : World} (h : Below w.heap.size w w') : w.grownBy w' none := ⟨h.os, h.tape, h.output, h.size, fun k hk _ => h.block k hk⟩
theorem abides_below {β : Type} {B : Nat} {J : β → World → Prop} (hJ : AbidesFrom B J) {x : β} {w w' : World} (h : J x w) (hb : Below w.heap.size w w') : J x w' :=
  hJ x w w' none h (grown_below hb) (fun r e => by cases e)
set_option maxHeartbeats 1000000 in
/-- x.All(): the receiver is boxed. -/
theorem all59 (n : Nat) (xb : Nat) (w : World) :
    CallsIn Fence.wide n Tryz.prog 59 #[.pointer (some ⟨xb, 0, none⟩)] w fun e w' => e = .returned (.func (.func 84) #[] #[.pointer (some ⟨w.heap.size, 0, none⟩)]) ∧ w' = w.alloc (.cells #[.pointer (some ⟨xb, 0, none⟩)] 28) := by
  refine callsIn_of_wp Tryz.func59 rfl trivial ?_ rfl
  simp only [Tryz.ntmps59, List.size_toArray, List.length_cons, List.length_nil, Nat.reduceAdd, Nat.reduceSub, Array.replicate_succ, Array.replicate_zero, List.push_toArray, List.append_toArray, List.nil_append, List.cons_append]
  gi_wp2
  go_ret
  exact ⟨rfl, rfl⟩
set_option maxRecDepth 100000 in
set_option maxHeartbeats 4000000 in
/-- The iterator: it goes through the sagas in the order of their numbers. -/
theorem all84 (n : Nat) (hn : 1 ≤ n) {w0 : World} {q : Pl} {bl : List Nat} {s : StM} (hs : StAt w0 q bl s) (ho : s.sagas.Pairwise (fun a b => a.id < b.id)) (hok : ∀ g ∈ s.sagas, 1 ≤ g.id ∧ g.id ≤ 1000) (hl : s.sagas.length ≤ 1000)
    (l Bn : Nat) (J Jx : List SagaM → World → Prop) (W : World) (hJ : AbidesFrom W.heap.size J)
    (hY : ∀ pre x W1, J pre W1 → pre.length < s.sagas.length → YieldAt Fence.wide (n - 1) Tryz.prog l #[.agg x.status] W1 fun e W' =>
      (e = .returned (.bool true) ∧ J (pre ++ [x]) W' ∧ KpA w0.heap.size W1 W') ∨ (e = .returned (.bool false) ∧ Jx (pre ++ [x]) W'))
    (hBn : W.heap[Bn]? = some (.cells #[.pointer (some ⟨q.xb, 0, none⟩)] 28 (0, 0))) (hB : Below w0.heap.size w0 W) (h0 : J [] W) :
    CallsIn Fence.wide n Tryz.prog 84 #[.func (.yield l) #[] #[], .pointer (some ⟨Bn, 0, none⟩)] W fun e W' => (∃ v, e = .returned v) ∧
      ((∃ ys, ys = s.sagas ∧ J ys W') ∨ (∃ pre, pre <+: s.sagas ∧ Jx pre W')) := by
  have Hs := Lib.hid hs
  have Ho := Lib.hid ho
  have Hok := Lib.hid hok
  have hs1 := hs.keepK (below_toK hB (Nat.le_refl _) []) (by simp)
  have hx := hs1.eng
  simp only [egCells] at hx
  have hz : Maps.size (dataOf (ilOf s.sagas bl)) = s.sagas.length := by
    rw [size_dataOf, ilOf, List.length_zip, List.length_map, hs.len]; omega
  have HK := Lib.hid (fun m => (callsIn_wide (n := m)).2 (Keys_calls (some q.mb) W))
  have HS := Lib.hid (fun m => (callsIn_wide (n := m)).2 (Sorted_calls q.mb s.sagas.length (dataOf (ilOf s.sagas bl)) ptrR W hs1.mp (by rw [hz]; unfold maxLen; omega) (by rw [hz]; omega)))
  have Hl := Lib.hid hl
  have HB := Lib.hid hB
  have HY := Lib.hid hY
  have HJ := Lib.hid hJ
  have H0 := Lib.hid h0
  have a1 : W.cell? ⟨Bn, 0, none⟩ = some (.pointer (some ⟨q.xb, 0, none⟩)) := by rw [cellv, hBn]; rfl
  have Hbn : Hid (W.heap[Bn]? = some (.cells #[.pointer (some ⟨q.xb, 0, none⟩)] 28 (0, 0))) := hBn
  clear hs ho hok hl hs1 hz hJ hY hB h0 hBn
  have hcv := cellv W
  refine callsIn_of_wp Tryz.func84 rfl trivial ?_ rfl
  simp only [Tryz.ntmps84, List.size_toArray, List.length_cons, List.length_nil, Nat.reduceAdd, Nat.reduceSub, Array.replicate_succ, Array.replicate_zero, List.push_toArray, List.append_toArray, List.nil_append, List.cons_append]
  gi_wp2_with (first
    | (gi_at_call 48; refine (HK.out _).mono ?_; rintro e w2 ⟨rfl, rfl⟩)
    | (refine ⟨trivial, ?_⟩; gi_at_call 48; refine (HK.out _).mono ?_; rintro e w2 ⟨rfl, rfl⟩)
    | (refine ⟨trivial, ?_⟩; refine (HK.out _).mono ?_; rintro e w2 ⟨rfl, rfl⟩)
    | (refine ⟨trivial, ?_⟩; refine (HS.out _).mono ?_; rintro e w3 ⟨v, ss, rfl, hperm, hown, hnil, hbel⟩; obtain ⟨va, vc, rfl, hva⟩ := ids_shape hown)
    | fail)
  have hb1 : Below W.heap.size W w3 := ((Below.refl _ W).alloc (Nat.le_refl _) (.cells #[.map (some q.mb)] 76)).trans (hbel.mono (by simp))
  have hb3 : Below w0.heap.size w0 w3 := HB.out.trans (hb1.mono HB.out.size)
  have hids := keys_sorted Hs.out.len Ho.out hperm
  rw [hids] at hown
  have hlen : ss.length = s.sagas.length := by
    have := congrArg List.length hids
    simpa using this
  rw [hlen] at hown hva ⊢
  have hbn3 := (hb1.block Bn (lt_of_hp Hbn.out)).trans Hbn.out
  have HJ3 := Lib.hid (abides_below HJ.out H0.out hb1)
  have HB3 := Lib.hid hb3
  have Hbn3 := Lib.hid hbn3
  have Hva := Lib.hid hva
  have Hown := Lib.hid hown
  clear hcv hx a1 hnil hbel hb1 hb3 hids hperm hva hlen hown hbn3 Hbn HJ H0 HK HS
  gi_loopw [12] (fun i wr => ∃ k : Nat, k ≤ s.sagas.length ∧ i = .int .i64 (k : Nat) ∧ J (s.sagas.take k) wr ∧ Below w0.heap.size w0 wr ∧ FrK [0, 66, 39] w3 wr) (fun i _ => s.sagas.length - (intOf i).toNat)
  case atStart => exact ⟨0, Nat.zero_le _, rfl, HJ3.out, HB3.out, FrK.refl _ _⟩
  case round =>
    obtain ⟨k, hk, rfl, hJk, hbl, hfk⟩ := hrel
    have Hbl := Lib.hid hbl
    have Hfk := Lib.hid hfk
    have HJk := Lib.hid hJk
    have hbn := hfk.block _ _ Hbn3.out (by simp [kindOf])
    clear hbl hfk hJk
    by_cases hkn : k < s.sagas.length
    · obtain ⟨g, hg⟩ : ∃ g, s.sagas[k]? = some g := ⟨s.sagas[k], List.getElem?_eq_getElem hkn⟩
      obtain ⟨b, hb, hbo⟩ := blk_of s.sagas bl Hs.out.len Ho.out k g hg
      have hokg := Hok.out g (List.mem_of_getElem? hg)
      have hsr := Hs.out.keepK (below_toK Hbl.out (Nat.le_refl _) []) (by simp)
      have hlk := look_some hsr.mp g.id (by omega) hbo
      have hsg := hsr.sg k g b hg hb
      have hx := hsr.eng
      obtain ⟨sv, hsb, _⟩ := hsg
      simp only [egCells] at hx
      simp only [sgCells] at hsb
      obtain ⟨ib, rfl⟩ : ∃ ib, va = some ⟨ib, 0, none⟩ := by
        rcases Hva.out with h | h
        · omega
        · exact h
      have hgid : (s.sagas.map (·.id))[k]? = some g.id := by rw [List.getElem?_map, hg]; rfl
      have hcell := ints_at (own_keepK Hown.out Hfk.out (by decide)) k g.id hgid
      have htk : s.sagas.take k ++ [g] = s.sagas.take (k + 1) := by
        rw [List.take_succ_eq_append_getElem hkn]
        congr 2
        rw [List.getElem?_eq_getElem hkn] at hg; exact (Option.some.inj hg).symm
      obtain ⟨fn, tmps, assign, body, hy, hR⟩ := HY.out (s.sagas.take k) g wr HJk.out (by rw [List.length_take]; omega)
      rw [htk] at hR
      have HR := Lib.hid hR
      have hkI : (k : Int) < s.sagas.length := by omega
      have Hkn := Lib.hid hkn
      simp only [SagaM.status] at hy
      have hl30 := Hl.out
      clear hb hbo hsr hgid htk hR hg hkn hokg
      have hcv := cellv wr
      have a1 : wr.cell? ⟨Bn, 0, none⟩ = some (.pointer (some ⟨q.xb, 0, none⟩)) := by rw [cellv, hbn]; rfl
      gi_wp2
      refine HR.out.mono ?_
      rintro e W3 (⟨rfl, hJ3, hk3⟩ | ⟨rfl, hJx3⟩)
      · gi_wp2
        go_roundw
        case rel => exact ⟨k + 1, Hkn.out, by go_num, hJ3, Hbl.out.trans hk3.1, Hfk.out.trans hk3.2⟩
        case measure => have := Hkn.out; simp [intOf]; omega
      · gi_wp2
        refine bodyPost_ret (results_none rfl _ _ _) rfl ?_
        exact ⟨⟨_, rfl⟩, .inr ⟨s.sagas.take (k + 1), List.take_prefix _ _, hJx3⟩⟩
    · obtain rfl : k = s.sagas.length := by omega
      have hnk : ¬ ((s.sagas.length : Int) < s.sagas.length) := by omega
      gi_wp2
      go_end0
      exact ⟨⟨_, rfl⟩, .inl (by have := HJk.out; rw [List.take_length] at this; exact this)⟩
end Go.Proofs.YtkafmfdipmhleaaGreatDoor

namespace Go.Proofs.YtkafmfdipmhleaaGreatDoor
open Go.RowKit Go.Maps Go.Shelf

attribute [local go_sem] Oper.semAt_some

theorem FrK.keepsFrom {K : List Nat} {W W' : World} (h : FrK K W W') (hK : 0 ∉ K) (B : Nat) : KeepsFrom B W W' :=
  ⟨h.size, fun k o _ hk ho => h.block k o hk (by cases o <;> first | exact hK | cases ho)⟩
theorem KpA.of {n₀ : Nat} {K : List Nat} {W W' : World} (h : FrK K W W') (hK : ∀ k ∈ K, k ∈ [0, 66, 39]) (hb : Below n₀ W W') : KpA n₀ W W' := ⟨hb, h.mono hK⟩
theorem KpA.put {n₀ : Nat} {w : World} (hn : n₀ ≤ w.heap.size) (W : World) (l : Nat) (o o' : Obj) (hl : w.heap.size ≤ l) (h : W.heap[l]? = some o) (hc : o.isCells = false) (hw : o.isWalk = false) : KpA n₀ W (W.putObj l o') :=
  ⟨belowK_b hn W l o o' hl h hc hw, rfl, rfl, rfl, by simp, fun k x hx hk => by
    have hg := grownBy_putObj' W l o'
    refine (hg.block k (lt_of_hp hx) (fun e => ?_)).trans hx
    cases e
    rw [h] at hx; cases hx
    exact hk (by cases o <;> simp_all [kindOf, Obj.isCells])⟩
theorem Tryz.info38z : (Tryz.prog.info? 38).map (fun i => (i.zero, i.size, i.bytes)) = some (some (.agg #[.int .i64 0, .int .i64 0, .int .i64 0, .int .i64 0, .int .i64 0, .int .i64 0]), 6, 48) := by kernel_rfl
def stCells (l : List SagaM) : List Value := l.flatMap (fun g => g.status.toList)
theorem stCells_len (l : List SagaM) : (stCells l).length = l.length * 6 := by
  induction l with
  | nil => rfl
  | cons a l ih => simp [stCells, SagaM.status] at ih ⊢; omega
theorem stCells_snoc (l : List SagaM) (g : SagaM) : stCells (l ++ [g]) = stCells l ++ g.status.toList := by simp [stCells]
theorem all_stops (n : Nat) (hn : 1 ≤ n) {w0 w : World} {q : Pl} {bl : List Nat} {s : StM} (hs : StAt w0 q bl s) (ho : s.sagas.Pairwise (fun a b => a.id < b.id)) (hok : ∀ g ∈ s.sagas, 1 ≤ g.id ∧ g.id ≤ 1000) (hl : s.sagas.length ≤ 1000)
    (Bn : Nat) (hBn : w.heap[Bn]? = some (.cells #[.pointer (some ⟨q.xb, 0, none⟩)] 28 (0, 0))) (hB : Below w0.heap.size w0 w) :
    SeqStopsK Fence.wide n Tryz.prog 84 #[.pointer (some ⟨Bn, 0, none⟩)] (fun g : SagaM => #[Value.agg g.status]) (KpA w0.heap.size) (fun ys => ys = s.sagas) (fun pre => pre <+: s.sagas) s.sagas.length w :=
  fun l J Jx W hW hJ _ hY h0 => all84 n hn hs ho hok hl l Bn J Jx W hJ hY ((hW.block Bn (lt_of_hp hBn)).trans hBn) (hB.trans (hW.mono hB.size)) h0
set_option maxRecDepth 100000 in
set_option maxHeartbeats 4000000 in
theorem All_calls {w : World} {q : Pl} {bl : List Nat} {s : StM} (hs : StAt w q bl s) (ho : s.sagas.Pairwise (fun a b => a.id < b.id)) (hok : ∀ g ∈ s.sagas, 1 ≤ g.id ∧ g.id ≤ 1000) (hl : s.sagas.length ≤ 100) :
    Calls Tryz.prog 32 #[.pointer (some ⟨q.xb, 0, none⟩), .int .i64 100] w fun e w' => ∃ v, e = .returned v ∧ w'.ownsRow w.heap.size 38 6 v s.sagas.length (stCells s.sagas) ∧ Below w.heap.size w w' := by
  refine (callsIn_wide (n := 10)).1 ?_
  obtain ⟨i0, hi, hz0, hz1, hz2⟩ := info_parts Tryz.info38z
  refine callsIn_of_wp_marks Tryz.func32 rfl trivial ?_ rfl
  simp only [Tryz.ntmps32, List.size_toArray, List.length_cons, List.length_nil, Nat.reduceAdd, Nat.reduceSub, Array.replicate_succ, Array.replicate_zero, List.push_toArray, List.append_toArray, List.nil_append, List.cons_append]
  have Hs := Lib.hid hs
  have Ho := Lib.hid ho
  have Hok := Lib.hid hok
  have Hl := Lib.hid hl
  clear hs ho hok hl
  gi_wp2_with (first
    | (refine ⟨trivial, ?_⟩; refine (all59 9 q.xb _).mono ?_; rintro e w' ⟨rfl, rfl⟩)
    | fail)
  have bM := ((Boxed.new w 3 (.int .i64 100)).alloc (.cells #[.slice none 0 0] 65)).alloc (.cells #[.pointer (some ⟨q.xb, 0, none⟩)] 28)
  have bO := (Boxed.new (w.alloc (.cells #[.int .i64 100] 3)) 65 (.slice none 0 0)).alloc (.cells #[.pointer (some ⟨q.xb, 0, none⟩)] 28)
  have bA := Boxed.new ((w.alloc (.cells #[.int .i64 100] 3)).alloc (.cells #[.slice none 0 0] 65)) 28 (.pointer (some ⟨q.xb, 0, none⟩))
  simp only [World.size_alloc] at bO bA
  have hB0 : Below w.heap.size w (((w.alloc (.cells #[.int .i64 100] 3)).alloc (.cells #[.slice none 0 0] 65)).alloc (.cells #[.pointer (some ⟨q.xb, 0, none⟩)] 28)) := (((Below.refl _ w).alloc (Nat.le_refl _) _).alloc (by simp) _).alloc (by simp; omega) _
  have hsz : (((w.alloc (.cells #[.int .i64 100] 3)).alloc (.cells #[.slice none 0 0] 65)).alloc (.cells #[.pointer (some ⟨q.xb, 0, none⟩)] 28)).heap.size = w.heap.size + 3 := by simp
  obtain ⟨W0, hW0⟩ : ∃ W0, ((w.alloc (.cells #[.int .i64 100] 3)).alloc (.cells #[.slice none 0 0] 65)).alloc (.cells #[.pointer (some ⟨q.xb, 0, none⟩)] 28) = W0 := ⟨_, rfl⟩
  rw [hW0] at bM bO bA hB0 hsz
  simp only [World.size_alloc, hW0]
  refine wpIn_rangeFunc_ownH rfl (by omega) (gf := 84) (lb := #[.pointer (some ⟨w.heap.size + 1 + 1, 0, none⟩)]) rfl trivial (enters_of Tryz.func84 (by kernel_rfl) rfl)
    (all_stops 9 (by omega) Hs.out Ho.out Hok.out (by have := Hl.out; omega) (w.heap.size + 1 + 1) bA hB0) KpA.trans (KpA.put (by omega)) (Below.refl _ _) (fun _ => rfl)
    (fun pre W => ((∃ v, Boxed W (w.heap.size + 1) 65 v ∧ W.ownsRow w.heap.size 38 6 v pre.length (stCells pre) ∧ (v = .slice none 0 0 ↔ pre = [])) ∧ Boxed W w.heap.size 3 (.int .i64 100)) ∧ Below w.heap.size w W)
    (fun _ _ _ => False)
    (OwnFrom.and (OwnFrom.and (Own.from (holdsRow_own w.heap.size (w.heap.size + 1) 65 38 6 (fun pre => pre.length) (fun pre => stCells pre) (fun pre v => v = .slice none 0 0 ↔ pre = [])) _) (Own.from (boxed_own _ _ _) _)) (ownFrom_below (Nat.le_refl _) (by omega)))
    (fun _ _ _ _ _ hs _ _ => hs)
    ⟨⟨⟨_, bO, World.ownsRow_nil _ _ _ _, by simp⟩, bM⟩, hB0⟩
    (fun x a' W => ∃ Bx, w.heap.size + 1 < Bx ∧ W.heap[Bx]? = some (.cells x.status 38 (0, 0)) ∧ a' = { tmps := #[.pointer (some ⟨q.xb, 0, none⟩), .int .i64 100, undef, .pointer (some ⟨w.heap.size, 0, none⟩), .slice none 0 0, .pointer (some ⟨w.heap.size + 1, 0, none⟩), .pointer (some ⟨Bx, 0, none⟩), .int .i64 100, .bool false, .pointer (some ⟨q.xb, 0, none⟩), .func (.func 84) #[] #[.pointer (some ⟨w.heap.size + 1 + 1, 0, none⟩)], .agg x.status, undef, undef, undef, undef, undef, undef, undef, undef, undef], defers := [] })
    (fun x a' _ X Y row hs hg hr => by
      obtain ⟨Bx, h1, h2, h3⟩ := hs
      refine ⟨Bx, h1, (hg.block Bx (lt_of_hp h2) (fun e => ?_)).trans h2, h3⟩
      obtain ⟨_, o, ho, hc⟩ := hr Bx e.symm
      rw [h2] at ho; cases ho; cases hc)
    ?assign ?body ?done ?stop
  case assign =>
    rintro l pre x W K ⟨⟨⟨v, hv, hrow, hnil⟩, bM1⟩, hB1⟩ hK
    have hst : Hid (#[Value.int .i64 x.id, Value.int .i64 x.st, Value.int .i64 x.step, Value.int .i64 x.steps.length, Value.int .i64 x.tries, Value.int .i64 x.due] = x.status) := rfl
    simp only [SagaM.status]
    gi_wp2
    rw [hst.out]
    exact hK _ _ (FrK.keepsFrom (K := []) (((Fr.refl (fun _ => False) W).alloc _).toK (fun _ _ f _ => f.elim)) (by simp) _)
      ⟨(Below.refl _ W).alloc hB1.size _, ((Fr.refl (fun _ => False) W).alloc _).toK (fun _ _ f _ => f.elim)⟩
      ⟨⟨⟨v, hv.alloc _, hrow.alloc _, hnil⟩, bM1.alloc _⟩, hB1.alloc hB1.size _⟩ ⟨W.heap.size, hv.lt, World.alloc_heap_new W _, rfl⟩
  case body =>
    rintro l pre x a' W hl ⟨r, hr⟩ ⟨⟨⟨v, hv, hrow, hnil⟩, bM1⟩, hB1⟩ ⟨Bx, hBx, bX, rfl⟩ hlt
    have hc := hv.cell
    have hm := bM1.cell
    have hne : ¬ ((pre.length : Int) = 100) := by have := Hl.out; omega
    obtain ⟨va, vc, rfl⟩ : ∃ va vc, v = .slice va pre.length vc := by
      rcases hrow.2 with ⟨h1, h2⟩ | ⟨g, cap, cur, h1, _⟩
      · exact ⟨none, 0, by rw [h1, h2]⟩
      · exact ⟨_, _, h1⟩
    have hst : Hid (#[Value.int .i64 x.id, Value.int .i64 x.st, Value.int .i64 x.step, Value.int .i64 x.steps.length, Value.int .i64 x.tries, Value.int .i64 x.due] = x.status) := rfl
    have Hrow := Lib.hid hrow
    have Hv := Lib.hid hv
    have HM1 := Lib.hid bM1
    have HB1 := Lib.hid hB1
    have Hnil := Lib.hid hnil
    simp only [SagaM.status] at bX ⊢
    have hoA := Lib.hid (hrow.alloc (.cells #[Value.int .i64 x.id, Value.int .i64 x.st, Value.int .i64 x.step, Value.int .i64 x.steps.length, Value.int .i64 x.tries, Value.int .i64 x.due] 38))
    have hnews : ∀ (j : Nat) (u : Value), [Value.int .i64 x.id, Value.int .i64 x.st, Value.int .i64 x.step, Value.int .i64 x.steps.length, Value.int .i64 x.tries, Value.int .i64 x.due][j]? = some u → (W.alloc (.cells #[Value.int .i64 x.id, Value.int .i64 x.st, Value.int .i64 x.step, Value.int .i64 x.steps.length, Value.int .i64 x.tries, Value.int .i64 x.due] 38)).cell? ((⟨W.heap.size, 0, none⟩ : Addr).add j) = some u := World.news_of_block (heap_alloc_new W _)
    have Hnews := Lib.hid hnews
    have hlt' := Lib.hid hlt
    clear hrow hv bM1 hB1 hnil hnews hlt hr
    have hcv := cellv W
    gi_wp2_with (first
      | (gi_at_builtin; refine wpListIn_append_own _ rfl _ _ 65 rfl w.heap.size 38 i0 (.agg #[.int .i64 0, .int .i64 0, .int .i64 0, .int .i64 0, .int .i64 0, .int .i64 0]) 6 48 Tryz.underlying65 hi hz0 hz1 hz2 rfl (by decide) _ _ _ rfl hoA.out ⟨W.heap.size, 0, none⟩ 1 1 [Value.int .i64 x.id, Value.int .i64 x.st, Value.int .i64 x.step, Value.int .i64 x.steps.length, Value.int .i64 x.tries, Value.int .i64 x.due] rfl rfl Hnews.out (by intro u hu; simp at hu; rcases hu with rfl | rfl | rfl | rfl | rfl | rfl <;> rfl) (by unfold maxLen; have := hlt'.out; have := Hl.out; omega) (by have := hlt'.out; have := Hl.out; omega) (by have := HB1.out.size; simp; omega) ?_; intro v' w1 hown' hgrow _; obtain ⟨g', cap', rfl⟩ := ownsRow_succ hown'; obtain ⟨hv1, hv2, hr2, hk2, hb2⟩ := Hv.out.appended (by decide) Hrow.out HB1.out.size (by omega) hown' hgrow; have hc1 := hv1.cell; have hf1 := hv1.frozen)
      | fail)
    have hg1 : (W.alloc (.cells #[Value.int .i64 x.id, Value.int .i64 x.st, Value.int .i64 x.step, Value.int .i64 x.steps.length, Value.int .i64 x.tries, Value.int .i64 x.due] 38)).grownBy w1 (Value.slice va pre.length vc).ownBlock := hgrow
    have hF : FrK [66, 39] W (w1.setCell ⟨w.heap.size + 1, 0, none⟩ (.slice (some ⟨g', 0, none⟩) (pre.length + 1) cap')) := by
      refine FrK.trans (b := W.alloc (.cells #[Value.int .i64 x.id, Value.int .i64 x.st, Value.int .i64 x.step, Value.int .i64 x.steps.length, Value.int .i64 x.tries, Value.int .i64 x.due] 38)) (((Fr.refl (fun _ => False) W).alloc _).toK (fun _ _ f _ => f.elim)) (FrK.trans (b := w1) ((Fr.ofGrown hg1).toK ?_) ((Fr.one (w.heap.size + 1) w1 0 _).toK ?_))
      · intro k o hk ho
        obtain ⟨o', ho', hk'⟩ := own_kind hoA.out hk
        rw [ho] at ho'; cases ho'
        simp [hk']
      · rintro k o rfl ho
        rw [show w1.heap[w.heap.size + 1]? = _ from hv1] at ho; cases ho
        simp [kindOf]
    refine ⟨hF.keepsFrom (by simp) _, KpA.of hF (by simp) hb2, ⟨⟨_, hv2, ?_, by simp⟩, hF.block _ _ HM1.out (by simp [kindOf])⟩, HB1.out.trans hb2⟩
    rw [stCells_snoc, List.length_append, List.length_singleton]
    exact hr2
  case done =>
    rintro D ys W hD rfl ⟨⟨⟨v, hv, hrow, hnil⟩, bM1⟩, hB1⟩ hK
    have hc := hv.cell
    obtain ⟨va, vc, rfl⟩ : ∃ va vc, v = .slice va s.sagas.length vc := by
      rcases hrow.2 with ⟨h1, h2⟩ | ⟨g, cap, cur, h1, _⟩
      · exact ⟨none, 0, by rw [h1, h2]⟩
      · exact ⟨_, _, h1⟩
    gi_wp2
    refine ⟨by simp, .inl ⟨_, _, rfl, run_takeDeferred hK, ?_⟩⟩
    exact ⟨_, results_tmp rfl _ _ _, _, rfl, ownsRow_putObj hrow _ hK rfl, hB1.trans (belowK_b (w := w) (Nat.le_refl _) W D _ _ (by omega) hK rfl rfl)⟩
  case stop =>
    rintro D c pre W _ _ h _
    exact h.elim
end Go.Proofs.YtkafmfdipmhleaaGreatDoor

namespace Go.Proofs.YtkafmfdipmhleaaGreatDoor
open Go.RowKit Go.Maps

/-- What the list of a saga's effects reads as. -/
theorem shape_at {F : List CallM} {K M : Nat} (h : F.map (fun c => (c.step, c.back)) = fw K ++ bw K M) : F.length = K + M ∧ (∀ k (hk : k < F.length), k < K → F[k].step = (k : Int) + 1 ∧ F[k].back = false) ∧ (∀ k (hk : k < F.length), K ≤ k → F[k].step = (K : Int) - ((k : Int) - K) ∧ F[k].back = true) := by
  have hlen : F.length = K + M := by
    have := congrArg List.length h
    simpa [fw, bw] using this
  have key : ∀ k (hk : k < F.length), (fw K ++ bw K M)[k]? = some (F[k].step, F[k].back) := by
    intro k hk
    rw [← h, List.getElem?_map, List.getElem?_eq_getElem hk]; rfl
  refine ⟨hlen, fun k hk hK => ?_, fun k hk hK => ?_⟩
  · have := key k hk
    rw [List.getElem?_append_left (by simp [fw]; exact hK)] at this
    simp only [fw, List.getElem?_map, List.getElem?_range hK, Option.map_some, Option.some.injEq, Prod.mk.injEq] at this
    exact ⟨this.1.symm, this.2.symm⟩
  · have := key k hk
    rw [List.getElem?_append_right (by simp [fw]; exact hK)] at this
    have hl : (fw K).length = K := by simp [fw]
    rw [hl] at this
    simp only [bw, List.getElem?_map, List.getElem?_range (show k - K < M by omega), Option.map_some, Option.some.injEq, Prod.mk.injEq] at this
    exact ⟨by rw [← this.1]; omega, this.2.symm⟩
/-- How an own slice of calls reads. -/
theorem calls_read {w : World} {B : Nat} {v : Value} {F : List CallM} (h : w.ownsRow B 46 4 v F.length (effCells F)) : ∃ va vc, v = .slice va F.length vc ∧
    ∀ k (hk : k < F.length), ∃ g, va = some ⟨g, 0, none⟩ ∧ (∃ o, w.heap[g]? = some o) ∧ ∀ w' : World, w'.heap[g]? = w.heap[g]? → cellOf w'.heap[g]? (k * 4) = some (.int .i64 F[k].saga) ∧ cellOf w'.heap[g]? (k * 4 + 1) = some (.int .i64 F[k].step) ∧
      cellOf w'.heap[g]? (k * 4 + 2) = some (.bool F[k].back) ∧ cellOf w'.heap[g]? (k * 4 + 3) = some (.string F[k].data) := by
  obtain ⟨o1, ⟨rfl, h0⟩ | ⟨g, cap, cur, rfl, hg, hh, _, _, _, htk⟩⟩ := h
  · exact ⟨none, 0, by rw [h0], fun k hk => by omega⟩
  · refine ⟨_, cap, rfl, fun k hk => ⟨g, rfl, ⟨_, hh⟩, fun w' hf => ?_⟩⟩
    have key : ∀ q, q < 4 → cellOf w'.heap[g]? (k * 4 + q) = F[k].cells[q]? := by
      intro q hq
      have := effCells_get F k hk q hq
      rw [hf, hh, cellOf_cells]
      rw [← htk, List.getElem?_take_of_lt (by omega)] at this
      simpa using this
    exact ⟨key 0 (by omega), key 1 (by omega), key 2 (by omega), key 3 (by omega)⟩
theorem Tryz.info46s' : (Tryz.prog.info? 46).map (·.size) = some 4 := by kernel_rfl
set_option maxRecDepth 100000 in
set_option maxHeartbeats 4000000 in
theorem straight_calls {w : World} {pb : Nat} {p : PartM} (h : PAt w pb p) (hl : p.effs.length < 2 ^ 30) (id : Int) (n K M : Nat) (hm : mineOf p.effs id = fw K ++ bw K M) (hK : K ≤ n) (hM : M ≤ K) (hKM : M = 0 ∨ K < n) (hn : n < 2 ^ 30) :
    Calls Tryz.prog 22 #[.pointer (some ⟨pb, 0, none⟩), .int .i64 id, .int .i64 n] w fun e w' => e = .returned (.bool true) ∧ New w w' := by
  obtain ⟨lv, va, vc, iv, h1, hrow⟩ := effs_read h
  generalize p.effs = effs at *
  obtain ⟨i0, hi, hz0, hz1, hz2⟩ := info_parts Tryz.info46
  have Hsh := Lib.hid (shape_at (F := effs.filter fun c => c.saga == id) hm)
  have Hrow := Lib.hid hrow
  have Hl := Lib.hid hl
  have H1 := Lib.hid h1
  have HK := Lib.hid hK
  have HM := Lib.hid hM
  have HKM := Lib.hid hKM
  have Hn := Lib.hid hn
  clear h h1 hrow hl hm hK hM hKM hn
  go_enter Tryz.func22, Tryz.ntmps22
  go_wp2_with fail
  go_loopw [7, 8] (fun sv i wr => ∃ k : Nat, k ≤ effs.length ∧ i = .int .i64 k ∧ wr.ownsRow w.heap.size 46 4 sv ((effs.take k).filter fun c => c.saga == id).length (effCells ((effs.take k).filter fun c => c.saga == id)) ∧ New w wr) (fun _ i _ => effs.length - (intOf i).toNat)
  case atStart => exact ⟨0, Nat.zero_le _, rfl, World.ownsRow_nil w w.heap.size 46 4, Fr.refl _ _⟩
  case round =>
    obtain ⟨k, hk, rfl, hown, hf⟩ := hrel
    have Hown := Lib.hid hown
    have Hf := Lib.hid hf
    have hcP := hf.get H1.out (fun f => f)
    have hl30 : effs.length < 1073741824 := Hl.out
    clear hown hf
    by_cases hlt : k < effs.length
    · obtain ⟨g, rfl, ⟨o, ho⟩, hcc⟩ := Hrow.out k hlt
      have hgr : wr.heap[g]? = w.heap[g]? := by rw [ho]; exact Hf.out.get ho (fun f => f)
      obtain ⟨x0, x1, x2, x3⟩ := hcc wr hgr
      have htk : effs.take (k + 1) = effs.take k ++ [effs[k]] := List.take_succ_eq_append_getElem hlt
      have Htk := Lib.hid htk
      generalize effs[k] = e at x0 x1 x2 x3 Htk
      obtain ⟨es, et, eb, ed⟩ := e
      rw [cellv] at x0 x1 x2 x3
      have hkI : (k : Int) < effs.length := by omega
      have hk0 : (0 : Int) ≤ k := by omega
      have hkl := Lib.hid hlt
      have hfl : Hid (((effs.take k).filter fun c => c.saga == id).length ≤ k) := Nat.le_trans (List.length_filter_le _ _) (by rw [List.length_take]; omega)
      clear hcc ho hgr htk hlt
      have hcv := cellv wr
      by_cases q1 : es = id
      · subst q1
        have q1' : (es == es) = true := by simp
        have hfe : Hid ((effs.take (k + 1)).filter (fun c => c.saga == es) = (effs.take k).filter (fun c => c.saga == es) ++ [⟨es, et, eb, ed⟩]) := by
          show _ = _
          rw [Htk.out, List.filter_append]; simp
        have hoA := Lib.hid (Hown.out.alloc (.cells #[.int .i64 es, .int .i64 et, .bool eb, .string ed] 46))
        have hnews : ∀ (j : Nat) (u : Value), (CallM.cells ⟨es, et, eb, ed⟩)[j]? = some u → (wr.alloc (.cells #[.int .i64 es, .int .i64 et, .bool eb, .string ed] 46)).cell? ((⟨wr.heap.size, 0, none⟩ : Addr).add j) = some u := World.news_of_block (heap_alloc_new wr _)
        have Hnews := Lib.hid hnews
        clear hnews
        go_wp2_with (first
          | (at_builtin; refine wpList_append_own _ rfl _ _ 42 rfl w.heap.size 46 i0 (.agg #[.int .i64 0, .int .i64 0, .bool false, .string ⟨#[]⟩]) 4 40 Tryz.underlying42 hi hz0 hz1 hz2 rfl (by decide) _ _ _ rfl hoA.out ⟨wr.heap.size, 0, none⟩ 1 1 (CallM.cells ⟨es, et, eb, ed⟩) rfl rfl Hnews.out (call_one ⟨es, et, eb, ed⟩) (by have := hfl.out; unfold maxLen; omega) (by have := hfl.out; omega) (by have := Hf.out.size; simp; omega) ?_; intro sv' w1 hown1 hg1 _; go_frame)
          | fail)
        go_roundw
        case rel =>
          refine ⟨k + 1, hkl.out, by go_num, ?_, ?_⟩
          · rw [hfe.out, List.length_append, show effCells ((effs.take k).filter (fun c => c.saga == es) ++ [⟨es, et, eb, ed⟩]) = effCells ((effs.take k).filter (fun c => c.saga == es)) ++ CallM.cells ⟨es, et, eb, ed⟩ by simp [effCells]]
            exact hown1
          · refine (Hf.out.alloc _).trans' (Fr.ofGrown hg1) (fun i hi e => ?_)
            have := (Hown.out.lt i e).1
            omega
        case measure => have := hkl.out; simp [intOf]; omega
      · have q1' : (es == id) = false := by simpa using q1
        have hfe : Hid ((effs.take (k + 1)).filter (fun c => c.saga == id) = (effs.take k).filter (fun c => c.saga == id)) := by
          show _ = _
          rw [Htk.out, List.filter_append]; simp [q1']
        go_wp2_with fail
        go_roundw
        case rel => exact ⟨k + 1, hkl.out, by go_num, by rw [hfe.out]; exact Hown.out, Hf.out⟩
        case measure => have := hkl.out; simp [intOf]; omega
    · obtain rfl : k = effs.length := by omega
      have hnk : ¬ ((effs.length : Int) < effs.length) := by omega
      have Hown := Hown
      rw [List.take_length] at Hown
      obtain ⟨ma, mc, rfl, hmr⟩ := calls_read Hown.out
      have Hmr := Lib.hid hmr
      have hFl : Hid ((effs.filter fun c => c.saga == id).length < 1073741824) := Nat.lt_of_le_of_lt (List.length_filter_le _ _) hl30
      clear hk hlt hmr
      generalize (effs.filter fun c => c.saga == id) = F at Hsh Hown Hmr hFl ⊢
      have hcv := cellv wr
      go_upto_region 8 with fail
      obtain ⟨wO, rfl⟩ : ∃ x, x = wr := ⟨wr, rfl⟩
      go_loopw [9] (fun i w2 => ∃ k : Nat, k ≤ K ∧ i = .int .i64 k ∧ New wO w2) (fun i _ => K - (intOf i).toNat)
      case atStart => exact ⟨0, Nat.zero_le _, rfl, Fr.refl _ _⟩
      case round =>
        obtain ⟨k, hk, rfl, hf2⟩ := hrel
        have Hf2 := Lib.hid hf2
        clear hf2
        have hlenF := Hsh.out.1
        have hl31 : F.length < 1073741824 := hFl.out
        have hn30 : n < 1073741824 := Hn.out
        have hKn := HK.out
        by_cases hkK : k < K
        · have hkF : k < F.length := by omega
          obtain ⟨g, rfl, ⟨o, ho⟩, hcc⟩ := Hmr.out k hkF
          have hgr : wr.heap[g]? = wO.heap[g]? := by rw [ho]; exact Hf2.out.get ho (fun f => f)
          obtain ⟨x0, x1, x2, x3⟩ := hcc wr hgr
          obtain ⟨s1, s2⟩ := Hsh.out.2.1 k hkF hkK
          rw [s1] at x1
          rw [s2] at x2
          have hkI : (k : Int) < F.length := by omega
          have hk0 : (0 : Int) ≤ k := by omega
          have hnI : ¬ ((n : Int) ≤ k) := by omega
          have hkl := Lib.hid hkK
          have hw1 : wrap64 ((k : Int) + 1) = (k : Int) + 1 := wrap_in _ (by omega)
          clear hcc ho hgr x0 x3 s1 s2 hlenF hkK
          have hcv := cellv wr
          go_wp2_with fail
          go_roundw
          case rel => exact ⟨k + 1, hkl.out, by go_num, Hf2.out⟩
          case measure => have := hkl.out; simp [intOf]; omega
        · obtain rfl : k = K := by omega
          by_cases hM0 : M = 0
          · have hFe : F.length = k := by omega
            have hnk2 : ¬ ((k : Int) < F.length) := by omega
            clear hFe hM0 hk hkK hlenF
            have hcv := cellv wr
            go_upto_region 15 with fail
            obtain ⟨wP, rfl⟩ : ∃ x, x = wr := ⟨wr, rfl⟩
            go_loopw [10] (fun i w3 => ∃ m : Nat, k ≤ m ∧ m ≤ F.length ∧ i = .int .i64 m ∧ New wP w3) (fun i _ => F.length - (intOf i).toNat)
            case atStart => exact ⟨k, Nat.le_refl _, by have := Hsh.out.1; omega, rfl, Fr.refl _ _⟩
            case round =>
              obtain ⟨m, hm1, hm2, rfl, hf3⟩ := hrel
              have Hf3 := Lib.hid hf3
              clear hf3 hcv
              by_cases hmF : m < F.length
              · obtain ⟨g', hg', ⟨o', ho'⟩, hcc'⟩ := Hmr.out m hmF
                have hgr' : wr.heap[g']? = wO.heap[g']? := by rw [ho']; exact (Hf2.out.trans Hf3.out).get ho' (fun f => f)
                obtain ⟨x0', x1', x2', x3'⟩ := hcc' wr hgr'
                obtain ⟨s1', s2'⟩ := Hsh.out.2.2 m hmF hm1
                rw [s1'] at x1'
                rw [s2'] at x2'
                first | subst hg' | (obtain rfl : g = g' := by simpa using hg')
                have hmI : (m : Int) < F.length := by omega
                have hm0 : (0 : Int) ≤ m := by omega
                have hml := Lib.hid hmF
                have hw3 : wrap64 ((m : Int) - k) = (m : Int) - k := wrap_in _ (by omega)
                have hw4 : wrap64 ((k : Int) - ((m : Int) - k)) = (k : Int) - ((m : Int) - k) := wrap_in _ (by omega)
                have hm1' := Lib.hid hm1
                clear hcc' ho' hgr' x0' x3' s1' s2' hm1 hm2 hmF
                have hcv := cellv wr
                go_wp2_with fail
                go_roundw
                case rel => exact ⟨m + 1, by have := hm1'.out; omega, hml.out, by go_num, Hf3.out⟩
                case measure => have := hml.out; simp [intOf]; omega
              · have hmI : ¬ ((m : Int) < F.length) := by omega
                have hw2 : wrap64 (2 * (k : Int)) = 2 * (k : Int) := wrap_in _ (by omega)
                have hle : (F.length : Int) ≤ 2 * (k : Int) := by have := Hsh.out.1; have := HM.out; omega
                have HFin := Lib.hid ((Hf.out.trans Hf2.out).trans Hf3.out)
                clear hmF hm1 hm2
                go_wp2_with fail
                go_ret
                exact ⟨rfl, by first | exact HFin.out | exact HFin.out.drewN _⟩
          · have hkF : k < F.length := by omega
            obtain ⟨g, rfl, ⟨o, ho⟩, hcc⟩ := Hmr.out k hkF
            have hgr : wr.heap[g]? = wO.heap[g]? := by rw [ho]; exact Hf2.out.get ho (fun f => f)
            obtain ⟨x0, x1, x2, x3⟩ := hcc wr hgr
            obtain ⟨s1, s2⟩ := Hsh.out.2.2 k hkF (Nat.le_refl _)
            rw [s2] at x2
            have hkI : (k : Int) < F.length := by omega
            have hk0 : (0 : Int) ≤ k := by omega
            have hnI : ((k : Int) == n) = false := by have := HKM.out; simp; omega
            clear hcc ho hgr x0 x1 x3 s1 s2 hM0 hkF
            have hcv := cellv wr
            go_upto_region 15 with fail
            obtain ⟨wP, rfl⟩ : ∃ x, x = wr := ⟨wr, rfl⟩
            go_loopw [10] (fun i w3 => ∃ m : Nat, k ≤ m ∧ m ≤ F.length ∧ i = .int .i64 m ∧ New wP w3) (fun i _ => F.length - (intOf i).toNat)
            case atStart => exact ⟨k, Nat.le_refl _, by have := Hsh.out.1; omega, rfl, Fr.refl _ _⟩
            case round =>
              obtain ⟨m, hm1, hm2, rfl, hf3⟩ := hrel
              have Hf3 := Lib.hid hf3
              clear hf3 hcv
              by_cases hmF : m < F.length
              · obtain ⟨g', hg', ⟨o', ho'⟩, hcc'⟩ := Hmr.out m hmF
                have hgr' : wr.heap[g']? = wO.heap[g']? := by rw [ho']; exact (Hf2.out.trans Hf3.out).get ho' (fun f => f)
                obtain ⟨x0', x1', x2', x3'⟩ := hcc' wr hgr'
                obtain ⟨s1', s2'⟩ := Hsh.out.2.2 m hmF hm1
                rw [s1'] at x1'
                rw [s2'] at x2'
                first | subst hg' | (obtain rfl : g = g' := by simpa using hg')
                have hmI : (m : Int) < F.length := by omega
                have hm0 : (0 : Int) ≤ m := by omega
                have hml := Lib.hid hmF
                have hw3 : wrap64 ((m : Int) - k) = (m : Int) - k := wrap_in _ (by omega)
                have hw4 : wrap64 ((k : Int) - ((m : Int) - k)) = (k : Int) - ((m : Int) - k) := wrap_in _ (by omega)
                have hm1' := Lib.hid hm1
                clear hcc' ho' hgr' x0' x3' s1' s2' hm1 hm2 hmF
                have hcv := cellv wr
                go_wp2_with fail
                go_roundw
                case rel => exact ⟨m + 1, by have := hm1'.out; omega, hml.out, by go_num, Hf3.out⟩
                case measure => have := hml.out; simp [intOf]; omega
              · have hmI : ¬ ((m : Int) < F.length) := by omega
                have hw2 : wrap64 (2 * (k : Int)) = 2 * (k : Int) := wrap_in _ (by omega)
                have hle : (F.length : Int) ≤ 2 * (k : Int) := by have := Hsh.out.1; have := HM.out; omega
                have HFin := Lib.hid ((Hf.out.trans Hf2.out).trans Hf3.out)
                clear hmF hm1 hm2
                go_wp2_with fail
                go_ret
                exact ⟨rfl, by first | exact HFin.out | exact HFin.out.drewN _⟩
end Go.Proofs.YtkafmfdipmhleaaGreatDoor

namespace Go.Proofs.YtkafmfdipmhleaaGreatDoor
open Go.RowKit Go.Maps

theorem PAt.low {w w' : World} {pb : Nat} {p : PartM} (h : PAt w pb p) (hl : Low w.heap.size w w') (hs : w.heap.size ≤ w'.heap.size) : PAt w' pb p :=
  h.keep hs (fun k _ ho _ => (hl.block k (lt_of_hp ho)).trans ho)
theorem fits_of (d : DiskM) (h : 8 ≤ d.blocks.length ∧ d.blocks.length ≤ 400) : d.fits = true := by simp [DiskM.fits]; omega
/-- Format of a new disk. -/
theorem fmt_new {w : World} {db bb n : Nat} (h : DiskAt w db bb (DiskM.new n)) (hn : 8 ≤ n ∧ n ≤ 400) :
    Calls Tryz.prog 39 #[.pointer (some ⟨db, 0, none⟩)] w fun e w' => e = .returned .nilIface ∧ Fr (fun k => k = db ∨ k = bb) w w' ∧ DiskAt w' db bb (DiskM.fresh n) := by
  obtain ⟨r, hr⟩ := parse_zer
  have hl : (DiskM.new n).blocks.length = n := by simp [DiskM.new]
  refine Calls.mono (pFormat_calls h (new_quiet n) rfl r false (by rw [new_look0 n (by omega)]; exact hr)) ?_
  intro e w' he
  unfold sFmtPost at he
  rw [fits_of _ (by rw [hl]; exact hn)] at he
  have he : FmtPost w db bb (DiskM.new n) (nextEpoch r false) e w' := by simpa using he
  have : nextEpoch r false = 1 := by simp [nextEpoch]
  rw [this] at he
  exact he
/-- Open of a fresh disk. -/
theorem open_fresh {w : World} {db bb pb n : Nat} {p : PartM} (h : DiskAt w db bb (DiskM.fresh n)) (hp : PAt w pb p) (hlo : p.lo ≤ db ∧ p.lo ≤ bb) (hn : 8 ≤ n ∧ n ≤ 400) (pause : Int) (hpz : 1 ≤ pause ∧ pause ≤ 64) :
    Calls Tryz.prog 30 #[.pointer (some ⟨db, 0, none⟩), .int .i64 pause, .pointer (some ⟨pb, 0, none⟩)] w fun e w' => ∃ xb jb mb, e = .returned (.tuple #[.pointer (some ⟨xb, 0, none⟩), .nilIface]) ∧
      StAt w' ⟨xb, jb, mb, db, bb, pb⟩ [] (StM.fresh n pause p) ∧ Fr (· = db) w w' := by
  obtain ⟨r0, hr0, hk, he⟩ := parse_hdr
  obtain ⟨r1, hr1⟩ := parse_zer
  refine Calls.mono (pOpen0_calls h hp hlo (fresh_quiet n) r0 r1 false (by rw [fresh_look0 n (by omega)]; exact hr0) hk (by rw [fresh_look1 n (by omega)]; exact hr1) (by simp [atOk]) (fits_of _ (by rw [fresh_len]; exact hn)) pause hpz) ?_
  rintro e w' ⟨xb, jb, mb, rfl, _, hs, hf⟩
  rw [he] at hs
  exact ⟨xb, jb, mb, rfl, hs, hf⟩
theorem begun1_inv (lo : Nat) : (begun1 lo).inv ∧ (begun1 lo).fine (0 + (begun1 lo).sagas.length) := by
  have h0 := fresh_inv 20 1 ⟨[], [], [], 0, lo⟩ (by omega) (by omega)
  have hf : (StM.fresh 20 1 ⟨[], [], [], 0, lo⟩).fine 1 := ⟨by simp [StM.fresh], by simp [StM.fresh], by simp [StM.fresh], by simp [StM.fresh], by simp [StM.fresh], fun g hg => by simp [StM.fresh] at hg⟩
  have := submit_inv (id := 5) (l := kSteps 5 1) h0 hf (kSteps_whole 5 1 (by omega) (by omega)) (fun x hx => by simp [StM.fresh] at hx) (by
    have : (StM.fresh 20 1 ⟨[], [], [], 0, lo⟩).d.blocks.length = 20 := fresh_len 20
    rw [this]
    simp [StM.fresh, leftSum, kSteps_len])
  exact ⟨this.1, this.2⟩
theorem begun_sub {w : World} {q : Pl} {lo : Nat} {v : Value} (hs : StAt w q [] (StM.fresh 20 1 ⟨[], [], [], 0, lo⟩)) (hv : StepsAt w v (kSteps 5 1)) :
    Calls Tryz.prog 18 #[.pointer (some ⟨q.xb, 0, none⟩), .int .i64 5, v] w fun e w' => e = .returned .nilIface ∧ (∃ bl', StAt w' q bl' (begun1 lo)) ∧ FrK [0, 103, 104, 133, 80] w w' ∧ Low lo w w' :=
  Submit_calls (id := 5) (l := kSteps 5 1) hs (fresh_inv 20 1 ⟨[], [], [], 0, lo⟩ (by omega) (by omega)) hv (kSteps_whole 5 1 (by omega) (by omega)) (fun x hx => by simp [StM.fresh] at hx) (by
    have : (StM.fresh 20 1 ⟨[], [], [], 0, lo⟩).d.blocks.length = 20 := fresh_len 20
    rw [this]
    simp [StM.fresh, leftSum, kSteps_len])
theorem begun_tick {w : World} {q : Pl} {lo : Nat} {bl : List Nat} (hs : StAt w q bl (begun1 lo)) :
    Calls Tryz.prog 20 #[.pointer (some ⟨q.xb, 0, none⟩)] w fun e w' => e = .returned .nilIface ∧ StAt w' q bl (begun1 lo).tick ∧ FrK KT w w' ∧ Low lo w w' :=
  Tick_calls hs (begun1_inv lo).1 (begun1_inv lo).2 (show -9223372036854775808 ≤ (0 : Int) + 1 ∧ (0 : Int) + 1 ≤ 9223372036854775807 by omega)
theorem begun_status {w : World} {q : Pl} {lo : Nat} {bl : List Nat} (hs : StAt w q bl (begun1 lo).tick) :
    ∃ g : SagaM, g.st = 3 ∧ Calls Tryz.prog 21 #[.pointer (some ⟨q.xb, 0, none⟩), .int .i64 5] w fun e w' => e = .returned (.tuple #[.agg g.status, .nilIface]) ∧ New w w' := by
  obtain ⟨g, h1, h2, h3, _⟩ := begun1_tick lo
  refine ⟨g, h2, ?_⟩
  have ho := (tick_inv (m := 0) (begun1_inv lo).1 (begun1_inv lo).2).1.ord
  have := Status_calls (i := 0) (g := g) hs ho (by rw [h1]; rfl) (by omega)
  rw [h3] at this
  exact this
theorem begun_effs {w : World} {q : Pl} {lo : Nat} {bl : List Nat} (hs : StAt w q bl (begun1 lo).tick) : ∃ lv va vc iv at_, w.heap[q.pb]? = some (.cells #[lv, .slice va 1 vc, iv, at_] 44 (0, 0)) := by
  obtain ⟨lv, va, vc, iv, h, _⟩ := effs_read hs.pt
  obtain ⟨_, _, _, _, h4⟩ := begun1_tick lo
  rw [h4] at h
  exact ⟨lv, va, vc, iv, _, h⟩
set_option maxRecDepth 100000 in
set_option maxHeartbeats 4000000 in
theorem begun_calls {w : World} {pb n : Nat} {l : List Int} {lo : Nat} {pause : Int} (hp : PAt w pb ⟨[], [], l, 0, lo⟩) (hn : 8 ≤ n ∧ n ≤ 400) (hpz : 1 ≤ pause ∧ pause ≤ 64) :
    Calls Tryz.prog 17 #[.int .i64 n, .pointer (some ⟨pb, 0, none⟩), .int .i64 pause] w fun e w' => ∃ q : Pl, q.pb = pb ∧ e = .returned (.tuple #[.pointer (some ⟨q.db, 0, none⟩), .pointer (some ⟨q.xb, 0, none⟩)]) ∧
      StAt w' q [] (StM.fresh n pause ⟨[], [], l, 0, lo⟩) ∧ Low lo w w' ∧ w.heap.size ≤ w'.heap.size := by
  have Hp := Lib.hid hp
  have Hn := Lib.hid hn
  have Hpz := Lib.hid hpz
  clear hp hn hpz
  go_enter Tryz.func17, Tryz.ntmps17
  go_upto_region 3 with (first
    | (go_at_call 38; refine Calls.mono (NewDisk_calls w 20 (by omega)) ?_; rintro e w1 ⟨hf1, db, bb, hdb, hbb, rfl, hd1⟩)
    | (go_at_call 15; refine Calls.mono (NewPartner_calls (l := []) (.inl ⟨rfl, none, 0, rfl⟩) (by simp) w.heap.size hf1.size) ?_; rintro e w2 ⟨pq, rfl, hpq, hq2, hf2⟩)
    | fail)
  have HF3 := Lib.hid (fmt_new (hd1.new hf2) (by omega))
  have Hq2 := Lib.hid hq2
  have Hd1 := Lib.hid hd1
  have HL2 : Hid (Low w.heap.size w w2 ∧ w.heap.size ≤ w2.heap.size) := ⟨(hf1.low (Nat.le_refl _) (fun _ f => f.elim)).trans (hf2.low hf1.size (fun _ f => f.elim)), Nat.le_trans hf1.size hf2.size⟩
  have Hdb : Hid (w.heap.size ≤ db ∧ w.heap.size ≤ bb) := ⟨hdb, hbb⟩
  have Hf2 := Lib.hid hf2
  clear hdb hbb hf1 hd1 hpq hq2 hf2
  go_upto_region 4 with (first
    | (go_at_call 39; refine Calls.mono HF3.out ?_; rintro e w3 ⟨rfl, hf3, hd3⟩)
    | fail)
  have hdk : ∀ k, (k = db ∨ k = bb) → ∃ o, w2.heap[k]? = some o ∧ (kindOf o = 103 ∨ kindOf o = 104) := by
    obtain ⟨_, _, _, _, e1, e2, _⟩ := Hd1.out.new Hf2.out
    rintro k (rfl | rfl)
    · exact ⟨_, e1, .inl rfl⟩
    · exact ⟨_, e2, .inr rfl⟩
  have hk3 : FrK [103, 104] w2 w3 := hf3.toK (by
    intro k o hk ho
    obtain ⟨o', ho', h⟩ := hdk k hk
    rw [ho'] at ho; cases ho
    rcases h with h | h <;> simp [h])
  have HO4 := Lib.hid (open_fresh hd3 (Hq2.out.keepK hk3 (by decide) (by decide) (by decide) (by decide)) Hdb.out (by omega) 1 (by omega))
  have HL3 : Hid (Low w.heap.size w w3 ∧ w.heap.size ≤ w3.heap.size) := ⟨HL2.out.1.trans (hf3.low HL2.out.2 (by rintro k (rfl | rfl); exact Hdb.out.1; exact Hdb.out.2)), Nat.le_trans HL2.out.2 hf3.size⟩
  clear hf3 hd3 hdk hk3
  go_upto_region 7 with (first
    | (go_at_call 30; refine Calls.mono HO4.out ?_; rintro e w4 ⟨xb, jb, mb, rfl, hs4, hf4⟩)
    | fail)
  have Hs4 := Lib.hid hs4
  have HL4 : Hid (Low w.heap.size w w4 ∧ w.heap.size ≤ w4.heap.size) := ⟨HL3.out.1.trans (hf4.low HL3.out.2 (by rintro k rfl; exact Hdb.out.1)), Nat.le_trans HL3.out.2 hf4.size⟩
  have HSt := Lib.hid (steps_calls w4 5 1 (by omega) (by omega))
  have hi4 := fresh_inv 20 1 ⟨[], [], [], 0, w.heap.size⟩ (by omega) (by omega)
  have Hi4 := Lib.hid hi4
  clear hs4 hf4 hi4
  have HSub := Lib.hid (fun (w5 : World) (v : Value) (hf5 : New w4 w5) (hv : StepsAt w5 v (kSteps 5 1)) => begun_sub (Hs4.out.keepK (hf5.toK (K := []) (fun _ _ f _ => f.elim)) (by simp)) hv)
  go_upto_region 8 with (first
    | (go_at_call 19; refine Calls.mono HSt.out ?_; rintro e w5 ⟨sv, rfl, hsv, hf5⟩; obtain ⟨sa, sn, sc, rfl⟩ := own_slice hsv)
    | (go_at_call 18; refine Calls.mono (HSub.out _ _ hf5 (hsv.at (by rw [kSteps_len]; omega))) ?_; rintro e w6 ⟨rfl, ⟨bl, hs6⟩, hk6, hl6⟩)
    | fail)
  have HL6 : Hid (Low w.heap.size w w6 ∧ w.heap.size ≤ w6.heap.size) := ⟨(HL4.out.1.trans (hf5.low HL4.out.2 (fun _ f => f.elim))).trans hl6, Nat.le_trans HL4.out.2 (Nat.le_trans hf5.size hk6.size)⟩
  have HT := Lib.hid (begun_tick hs6)
  clear hsv hf5 hs6 hk6 hl6
  go_upto_region 9 with (first
    | (go_at_call 20; refine Calls.mono HT.out ?_; rintro e w7 ⟨rfl, hs7, hk7, hl7⟩)
    | fail)
  have HL7 : Hid (Low w.heap.size w w7 ∧ w.heap.size ≤ w7.heap.size) := ⟨HL6.out.1.trans hl7, Nat.le_trans HL6.out.2 hk7.size⟩
  obtain ⟨g, hg3, hst⟩ := begun_status hs7
  obtain ⟨lv, va, vc, iv, at_, hpb⟩ := begun_effs hs7
  have Hpb := Lib.hid hpb
  have HST := Lib.hid hst
  have Hg3 := Lib.hid hg3
  clear hs7 hk7 hl7 hpb hst hg3
  go_upto_region 10 with (first
    | (go_at_call 21; refine Calls.mono HST.out ?_; rintro e w8 ⟨rfl, hf8⟩; simp only [SagaM.status])
    | fail)
  have hc9 := heap_alloc_new w8 (.cells #[.int .i64 g.id, .int .i64 g.st, .int .i64 g.step, .int .i64 g.steps.length, .int .i64 g.tries, .int .i64 g.due] 38)
  have hq9 := heap_alloc_keep (.cells #[.int .i64 g.id, .int .i64 g.st, .int .i64 g.step, .int .i64 g.steps.length, .int .i64 g.tries, .int .i64 g.due] 38) (hf8.get Hpb.out (fun f => f))
  have hlt9 := lt_of_hp (hf8.get Hpb.out (fun f => f))
  have HL9 : Hid (Low w.heap.size w (w8.alloc (.cells #[.int .i64 g.id, .int .i64 g.st, .int .i64 g.step, .int .i64 g.steps.length, .int .i64 g.tries, .int .i64 g.due] 38)) ∧ w.heap.size ≤ (w8.alloc (.cells #[.int .i64 g.id, .int .i64 g.st, .int .i64 g.step, .int .i64 g.steps.length, .int .i64 g.tries, .int .i64 g.due] 38)).heap.size) := ⟨HL7.out.1.trans ((hf8.alloc (.cells #[.int .i64 g.id, .int .i64 g.st, .int .i64 g.step, .int .i64 g.steps.length, .int .i64 g.tries, .int .i64 g.due] 38)).low HL7.out.2 (fun _ f => f.elim)), Nat.le_trans HL7.out.2 (hf8.alloc (.cells #[.int .i64 g.id, .int .i64 g.st, .int .i64 g.step, .int .i64 g.steps.length, .int .i64 g.tries, .int .i64 g.due] 38)).size⟩
  clear hf8
  generalize w8.alloc (.cells #[.int .i64 g.id, .int .i64 g.st, .int .i64 g.step, .int .i64 g.steps.length, .int .i64 g.tries, .int .i64 g.due] 38) = W9 at hc9 hq9 HL9 ⊢
  generalize w8.heap.size = N9 at hc9 hlt9 ⊢
  rw [Hg3.out] at hc9
  have hq9' : W9.heap[pq]? = some (.cells #[lv, .slice va 1 vc, iv, at_] 44 (0, 0)) := hq9
  have a1 : W9.cell? ⟨N9, 1, none⟩ = some (.int .i64 3) := by rw [cellv, hc9]; rfl
  have a2 : W9.cell? ⟨pq, 1, none⟩ = some (.slice va 1 vc) := by rw [cellv, hq9']; rfl
  clear hc9 hq9 hq9'
  go_upto_region 13 with (first
    | (go_at_call 38; refine Calls.mono (NewDisk_calls W9 n (by have := Hn.out; omega)) ?_; rintro e w10 ⟨hf10, db', bb', hdb', hbb', rfl, hd10⟩)
    | fail)
  have HF10 := Lib.hid (fmt_new hd10 Hn.out)
  have HL10 : Hid (Low w.heap.size w w10 ∧ w.heap.size ≤ w10.heap.size) := ⟨HL9.out.1.trans (hf10.low HL9.out.2 (fun _ f => f.elim)), Nat.le_trans HL9.out.2 hf10.size⟩
  have Hdb' : Hid (w.heap.size ≤ db' ∧ w.heap.size ≤ bb') := ⟨Nat.le_trans HL9.out.2 hdb', Nat.le_trans HL9.out.2 hbb'⟩
  clear a1 a2 hlt9 hf10 hdb' hbb' hd10
  go_upto_region 14 with (first
    | (go_at_call 39; refine Calls.mono HF10.out ?_; rintro e w11 ⟨rfl, hf11, hd11⟩)
    | fail)
  have HL11 : Hid (Low w.heap.size w w11 ∧ w.heap.size ≤ w11.heap.size) := ⟨HL10.out.1.trans (hf11.low HL10.out.2 (by rintro k (rfl | rfl); exact Hdb'.out.1; exact Hdb'.out.2)), Nat.le_trans HL10.out.2 hf11.size⟩
  have hlo : lo ≤ w.heap.size := by
    obtain ⟨⟨_, _, _, _, _, _, _, _, hb, _⟩⟩ := Hp.out
    have := hb.1; have := hb.2.1; simp only at this; omega
  have Hlo := Lib.hid hlo
  have HO12 := Lib.hid (open_fresh hd11 (Hp.out.low HL11.out.1 HL11.out.2) ⟨Nat.le_trans hlo Hdb'.out.1, Nat.le_trans hlo Hdb'.out.2⟩ Hn.out pause Hpz.out)
  clear hf11 hd11 hlo
  go_wp2_with (first
    | (go_at_call 30; refine Calls.mono HO12.out ?_; rintro e w12 ⟨xb', jb', mb', rfl, hs12, hf12⟩)
    | fail)
  go_ret2
  refine ⟨⟨xb', jb', mb', db', bb', pb⟩, rfl, rfl, hs12, (HL11.out.1.trans (hf12.low HL11.out.2 (by rintro k rfl; exact Hdb'.out.1))).le Hlo.out, Nat.le_trans HL11.out.2 hf12.size⟩
end Go.Proofs.YtkafmfdipmhleaaGreatDoor
