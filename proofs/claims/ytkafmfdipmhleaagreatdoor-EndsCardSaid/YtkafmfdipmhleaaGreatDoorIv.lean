/-
  What is proved: a saga's turn keeps the engine's state in order. (No program in sight.)
-/
import Derived.Test.YtkafmfdipmhleaaGreatDoorTr
namespace Go.Proofs.YtkafmfdipmhleaaGreatDoor
open Go.RowKit Go.Maps

theorem SagaM.ok.left_nonneg {g : SagaM} (h : g.ok) : 0 ≤ g.left := by
  obtain ⟨_, _, _, _, h⟩ := h
  unfold SagaM.left
  split
  · rcases h with h | h <;> omega
  · split
    · rcases h with h | h <;> omega
    · omega
theorem SagaM.ok.left_pos {g : SagaM} (h : g.ok) (hs : g.st = 1 ∨ g.st = 2) : 1 ≤ g.left := by
  obtain ⟨_, _, hsm, _, h⟩ := h
  have := hsm.1
  unfold SagaM.left
  rcases hs with e | e
  · rw [if_pos e]
    rcases h with h | h <;> omega
  · rw [if_neg (by omega), if_pos e]
    rcases h with h | h <;> omega
theorem SagaM.ok.moved {g : SagaM} (h : g.ok) (hs : g.st = 1 ∨ g.st = 2) (rp : Int) : (g.moved rp).ok ∧ (g.moved rp).left + 1 ≤ g.left := by
  obtain ⟨h1, h2, hsm, h4, h⟩ := h
  have hn := hsm.1
  obtain ⟨id, st, step, tries, due, steps⟩ := g
  simp only at *
  have hstep : 1 ≤ step ∧ step ≤ steps.length := by
    rcases h with h | h
    · exact h.2
    · omega
  rcases hs with rfl | rfl
  · by_cases hr : rp = 0
    · by_cases hl : (steps.length : Int) < step + 1
      · have e : SagaM.moved ⟨id, 1, step, tries, due, steps⟩ rp = ⟨id, 3, 0, 0, 0, steps⟩ := by simp [SagaM.moved, SagaM.forward, hr, hl]
        rw [e]
        exact ⟨⟨h1, h2, hsm, by simp, .inr ⟨.inl rfl, rfl⟩⟩, by simp [SagaM.left] <;> omega⟩
      · have e : SagaM.moved ⟨id, 1, step, tries, due, steps⟩ rp = ⟨id, 1, step + 1, 0, 0, steps⟩ := by simp [SagaM.moved, SagaM.forward, hr, hl]
        rw [e]
        exact ⟨⟨h1, h2, hsm, by simp, .inl ⟨.inl rfl, by simp only; omega, by simp only; omega⟩⟩, by simp [SagaM.left] <;> omega⟩
    · by_cases hz : step - 1 = 0
      · have e : SagaM.moved ⟨id, 1, step, tries, due, steps⟩ rp = ⟨id, 4, step - 1, 0, 0, steps⟩ := by simp [SagaM.moved, SagaM.forward, SagaM.backward, hr, hz]
        rw [e]
        exact ⟨⟨h1, h2, hsm, by simp, .inr ⟨.inr rfl, hz⟩⟩, by simp [SagaM.left] <;> omega⟩
      · have e : SagaM.moved ⟨id, 1, step, tries, due, steps⟩ rp = ⟨id, 2, step - 1, 0, 0, steps⟩ := by simp [SagaM.moved, SagaM.forward, SagaM.backward, hr, hz]
        rw [e]
        exact ⟨⟨h1, h2, hsm, by simp, .inl ⟨.inr rfl, by simp only; omega, by simp only; omega⟩⟩, by simp [SagaM.left] <;> omega⟩
  · by_cases hz : step - 1 = 0
    · have e : SagaM.moved ⟨id, 2, step, tries, due, steps⟩ rp = ⟨id, 4, step - 1, 0, 0, steps⟩ := by simp [SagaM.moved, SagaM.backward, hz]
      rw [e]
      exact ⟨⟨h1, h2, hsm, by simp, .inr ⟨.inr rfl, hz⟩⟩, by simp [SagaM.left] <;> omega⟩
    · have e : SagaM.moved ⟨id, 2, step, tries, due, steps⟩ rp = ⟨id, 2, step - 1, 0, 0, steps⟩ := by simp [SagaM.moved, SagaM.backward, hz]
      rw [e]
      exact ⟨⟨h1, h2, hsm, by simp, .inl ⟨.inr rfl, by simp only; omega, by simp only; omega⟩⟩, by simp [SagaM.left] <;> omega⟩
theorem leftSum_set (l : List SagaM) (k : Nat) (g g' : SagaM) (hg : l[k]? = some g) : leftSum (l.set k g') = leftSum l - g.left + g'.left := by
  induction l generalizing k with
  | nil => simp at hg
  | cons a l ih =>
    cases k with
    | zero =>
      simp at hg
      subst hg
      simp [leftSum]; omega
    | succ k =>
      have := ih k (by simpa using hg)
      simp [leftSum] at this ⊢
      omega
theorem leftSum_nonneg (l : List SagaM) (h : ∀ g ∈ l, g.ok) : 0 ≤ leftSum l := by
  induction l with
  | nil => simp [leftSum]
  | cons a l ih =>
    have h1 := (h a (by simp)).left_nonneg
    have h2 := ih (fun g hg => h g (by simp [hg]))
    simp [leftSum] at h2 ⊢
    omega
theorem leftSum_mem (l : List SagaM) (h : ∀ g ∈ l, g.ok) (g : SagaM) (hg : g ∈ l) : g.left ≤ leftSum l := by
  induction l with
  | nil => simp at hg
  | cons a l ih =>
    have h1 := (h a (by simp)).left_nonneg
    have h2 := leftSum_nonneg l (fun g hg => h g (by simp [hg]))
    simp only [List.mem_cons] at hg
    rcases hg with rfl | hg
    · simp [leftSum] at h2 ⊢; omega
    · have := ih (fun g hg => h g (by simp [hg])) hg
      simp [leftSum] at this ⊢; omega
/-- There is room in the numbers for m more questions. -/
def StM.fine (s : StM) (m : Nat) : Prop := s.p.log.length + m < 2 ^ 30 ∧ s.p.effs.length + m < 2 ^ 30 ∧ s.p.l.length < 2 ^ 30 ∧ 0 ≤ s.p.at_ ∧ s.p.at_ + m < 2 ^ 30 ∧ ∀ g ∈ s.sagas, g.tries ≤ s.p.log.length
theorem StM.fine.small {s : StM} {m : Nat} (h : s.fine m) : s.p.small := by
  obtain ⟨h1, h2, h3, h4, h5, _⟩ := h
  exact ⟨by omega, by omega, h3, h4, by omega⟩
theorem ask_fine {p : PartM} {c : CallM} {m : Nat} (h1 : p.log.length + (m + 1) < 2 ^ 30) (h2 : p.effs.length + (m + 1) < 2 ^ 30) (h4 : 0 ≤ p.at_) (h5 : p.at_ + (m + 1 : Nat) < 2 ^ 30) :
    (p.ask c).log.length + m < 2 ^ 30 ∧ (p.ask c).effs.length + m < 2 ^ 30 ∧ (p.ask c).l = p.l ∧ 0 ≤ (p.ask c).at_ ∧ (p.ask c).at_ + m < 2 ^ 30 ∧ (p.ask c).log.length = p.log.length + 1 := by
  refine ⟨by simp [PartM.ask]; omega, ?_, rfl, ?_, ?_, by simp [PartM.ask]⟩
  · simp only [PartM.ask]; split
    · omega
    · simp; omega
  · simp only [PartM.ask, PartM.next]; split <;> omega
  · simp only [PartM.ask, PartM.next]; split <;> omega
theorem mem_set_cases {l : List SagaM} {k : Nat} {g' g : SagaM} (h : g ∈ l.set k g') : g = g' ∨ g ∈ l := by
  rcases List.mem_or_eq_of_mem_set h with h | h
  · exact .inr h
  · exact .inl h
theorem ord_set {l : List SagaM} {k : Nat} {g g' : SagaM} (h : l.Pairwise (fun a b => a.id < b.id)) (hg : l[k]? = some g) (hid : g'.id = g.id) : (l.set k g').Pairwise (fun a b => a.id < b.id) := by
  have e : (l.set k g').map (·.id) = l.map (·.id) := by
    rw [List.map_set]
    apply List.ext_getElem?
    intro i
    by_cases e : i = k
    · subst e
      have hl := (List.getElem?_eq_some_iff.1 hg).1
      rw [List.getElem?_set_self (by simpa using hl)]
      simp [hg, hid]
    · rw [List.getElem?_set_ne (fun h => e h.symm)]
  have h1 : (l.map (·.id)).Pairwise (· < ·) := List.pairwise_map.2 h
  rw [← e] at h1
  exact List.pairwise_map.1 h1
theorem stepOne_inv {s : StM} {k m : Nat} (h : s.inv) (hf : s.fine (m + 1)) : (s.stepOne k).inv ∧ (s.stepOne k).fine m ∧ (s.stepOne k).clock = s.clock ∧ (s.stepOne k).sagas.length = s.sagas.length := by
  have hf0 : s.fine m := by
    obtain ⟨h1, h2, h3, h4, h5, h6⟩ := hf
    exact ⟨by omega, by omega, h3, h4, by omega, h6⟩
  cases hg : s.sagas[k]? with
  | none => simp only [StM.stepOne, hg]; exact ⟨h, hf0, trivial, trivial⟩
  | some g =>
    by_cases hw : g.waits s.clock = false
    · simp only [StM.stepOne, hg, hw, if_true]; exact ⟨h, hf0, trivial, trivial⟩
    · have hmem : g ∈ s.sagas := List.mem_of_getElem? hg
      have hok := h.ok g hmem
      have hst : g.st = 1 ∨ g.st = 2 := by
        simp [SagaM.waits] at hw
        obtain ⟨_, _, _, _, h | h⟩ := hok
        · exact h.1
        · omega
      obtain ⟨f1, f2, f3, f4, f5, f6⟩ := hf
      obtain ⟨a1, a2, a3, a4, a5, a6⟩ := ask_fine (c := g.call) f1 f2 f4 f5
      have hlen : (settleD s.j s.d).blocks.length = s.d.blocks.length := settle_len _ _ h.pend
      by_cases hm : g.moves (g.reply s.p) = false
      · have e : s.stepOne k = { s with sagas := s.sagas.set k (g.paused s.clock s.pause), j := { s.j with fresh := false }, d := settleD s.j s.d, p := s.p.ask g.call } := by
          simp [StM.stepOne, hg, hw, hm]
        have ht := f6 g hmem
        have htr : (g.paused s.clock s.pause).tries = g.tries + 1 := by
          show wrap64 (g.tries + 1) = _
          have := hok.2.2.2.1
          exact wrap_in _ (by omega)
        have hpok : (g.paused s.clock s.pause).ok := by
          obtain ⟨b1, b2, b3, b4, b5⟩ := hok
          exact ⟨b1, b2, b3, by rw [htr]; omega, b5⟩
        rw [e]
        refine ⟨⟨settle_quiet _ _ h.quiet, settle_pend _ _ h.pend, h.epoch, ?_, ord_set h.ord hg rfl, ?_, by simp only; rw [hlen]; exact h.size, h.pause⟩, ⟨a1, a2, by simp only; rw [a3]; exact f3, a4, a5, ?_⟩, rfl, by simp⟩
        · intro x hx
          rcases mem_set_cases hx with rfl | hx
          · exact hpok
          · exact h.ok x hx
        · simp only
          rw [leftSum_set _ _ g _ hg, hlen]
          have e2 : (g.paused s.clock s.pause).left = g.left := rfl
          rw [e2]
          have := h.room
          omega
        · intro x hx
          simp only
          rw [a6]
          rcases mem_set_cases hx with rfl | hx
          · rw [htr]; omega
          · have := f6 x hx; omega
      · have e : s.stepOne k = { s with sagas := s.sagas.set k (g.moved (g.reply s.p)), j := ⟨s.j.epoch, s.j.en + 1, false⟩, d := (settleD s.j s.d).append s.j.epoch s.j.en [⟨4, 0, 0, g.id.toNat, (g.reply s.p).toNat, []⟩], p := s.p.ask g.call } := by
          simp [StM.stepOne, hg, hw, hm]
        obtain ⟨hmo, hml⟩ := hok.moved hst (g.reply s.p)
        rw [e]
        refine ⟨⟨(settle_quiet _ _ h.quiet).append _ _ _, append_pend _ _ _ _ (settle_pend _ _ h.pend), h.epoch, ?_, ord_set h.ord hg (moved_id g _), ?_, by simp only; rw [append_len, hlen]; exact h.size, h.pause⟩, ⟨a1, a2, by simp only; rw [a3]; exact f3, a4, a5, ?_⟩, rfl, by simp⟩
        · intro x hx
          rcases mem_set_cases hx with rfl | hx
          · exact hmo
          · exact h.ok x hx
        · simp only
          rw [leftSum_set _ _ g _ hg, append_len, hlen]
          have := h.room
          omega
        · intro x hx
          simp only
          rw [a6]
          rcases mem_set_cases hx with rfl | hx
          · have : (g.moved (g.reply s.p)).tries = 0 := by
              by_cases h1 : g.st = 1 <;> by_cases h2 : g.reply s.p = 0 <;> by_cases h3 : (g.steps.length : Int) < g.step + 1 <;> simp [SagaM.moved, SagaM.forward, SagaM.backward, h1, h2, h3]
            rw [this]; omega
          · have := f6 x hx; omega
/-- A saga whose turn it is has room for its record. -/
theorem inv_room {s : StM} (h : s.inv) {k : Nat} {g : SagaM} (hg : s.sagas[k]? = some g) (hw : g.waits s.clock = true) : s.j.en + 1 ≤ s.d.blocks.length ∧ (g.st = 1 ∨ g.st = 2) := by
  have hmem : g ∈ s.sagas := List.mem_of_getElem? hg
  have hok := h.ok g hmem
  have hst : g.st = 1 ∨ g.st = 2 := by
    simp [SagaM.waits] at hw
    obtain ⟨_, _, _, _, h | h⟩ := hok
    · exact h.1
    · omega
  have h1 := hok.left_pos hst
  have h2 := leftSum_mem s.sagas h.ok g hmem
  have := h.room
  exact ⟨by omega, hst⟩
end Go.Proofs.YtkafmfdipmhleaaGreatDoor
