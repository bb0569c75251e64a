/-
  What is proved: one saga ends, as often as it is ticked. (No program in sight.)
-/
import Derived.Test.YtkafmfdipmhleaaGreatDoorAgr
import Derived.Test.YtkafmfdipmhleaaGreatDoorIv
namespace Go.Proofs.YtkafmfdipmhleaaGreatDoor
open Go.RowKit Go.Maps

def StM.tick (s : StM) : StM := (List.range s.sagas.length).foldl StM.stepOne { s with clock := s.clock + 1 }
def StM.ticks (s : StM) : Nat → StM
  | 0 => s
  | n + 1 => (s.ticks n).tick
theorem fold_inv {m : Nat} (l : List Nat) (s : StM) (h : s.inv) (hf : s.fine (m + l.length)) :
    (l.foldl StM.stepOne s).inv ∧ (l.foldl StM.stepOne s).fine m ∧ (l.foldl StM.stepOne s).clock = s.clock ∧ (l.foldl StM.stepOne s).sagas.length = s.sagas.length := by
  induction l generalizing s with
  | nil => exact ⟨h, hf, rfl, rfl⟩
  | cons a l ih =>
    obtain ⟨h1, h2, h3, h4⟩ := stepOne_inv (k := a) (m := m + l.length) h (by simpa [Nat.add_assoc] using hf)
    obtain ⟨e1, e2, e3, e4⟩ := ih (s.stepOne a) h1 h2
    exact ⟨e1, e2, e3.trans h3, e4.trans h4⟩
theorem inv_clock {s : StM} (h : s.inv) (c : Int) : ({ s with clock := c } : StM).inv := ⟨h.quiet, h.pend, h.epoch, h.ok, h.ord, h.room, h.size, h.pause⟩
theorem tick_inv {s : StM} {m : Nat} (h : s.inv) (hf : s.fine (m + s.sagas.length)) : s.tick.inv ∧ s.tick.fine m ∧ s.tick.clock = s.clock + 1 ∧ s.tick.sagas.length = s.sagas.length := by
  have := fold_inv (m := m) (List.range s.sagas.length) { s with clock := s.clock + 1 } (inv_clock h _) (by rw [List.length_range]; exact hf)
  exact this
theorem ticks_inv {s : StM} {m : Nat} (h : s.inv) (t : Nat) (hf : s.fine (m + t * s.sagas.length)) : (s.ticks t).inv ∧ (s.ticks t).fine m ∧ (s.ticks t).clock = s.clock + t ∧ (s.ticks t).sagas.length = s.sagas.length := by
  induction t generalizing m with
  | zero => exact ⟨h, by simpa [StM.ticks] using hf, by simp [StM.ticks], rfl⟩
  | succ t ih =>
    obtain ⟨h1, h2, h3, h4⟩ := ih (m := m + s.sagas.length) (by rw [Nat.add_mul, Nat.one_mul] at hf; rw [show m + s.sagas.length + t * s.sagas.length = m + (t * s.sagas.length + s.sagas.length) by omega]; exact hf)
    have := tick_inv (s := s.ticks t) (m := m) h1 (by rw [h4]; exact h2)
    exact ⟨this.1, this.2.1, by rw [StM.ticks, this.2.2.1, h3]; omega, this.2.2.2.trans h4⟩

structure EI (rest : List Int) (n : Nat) (s : StM) (g : SagaM) : Prop where
  sg : s.sagas = [g]
  st : g.steps.length = n
  ag : Agree n g.st g.step (mineOf s.p.effs g.id)
  nv1 : g.st = 1 ∨ g.st = 3 → ∀ x ∈ s.p.log, x.2 ≠ 2
  nv2 : g.st = 2 ∨ g.st = 4 → ∃ x ∈ s.p.log, x.2 = 2
  pl : s.p.l = rest
  at_ : s.p.at_ = s.p.log.length
  sum : (s.p.log.length : Int) + g.left ≤ 2 * n + min s.p.log.length 20
  due : g.due ≤ s.clock + s.pause
  ok : g.ok
  clk : 0 ≤ s.clock ∧ s.clock < 2 ^ 40
  tries : g.tries < 2 ^ 40
def psi (s : StM) (g : SagaM) : Int := (((20 - s.p.log.length : Nat) : Int) + g.left) * (s.pause + 1) + max 0 (g.due - s.clock)
theorem agree_st {n : Nat} {st step : Int} {m : List (Int × Bool)} (h : Agree n st step m) : st = 1 ∨ st = 2 ∨ st = 3 ∨ st = 4 := by
  rcases h with ⟨h, _⟩ | ⟨h, _⟩ | ⟨h, _⟩ | ⟨h, _⟩ <;> simp [h]
theorem moved_st (g : SagaM) (rp : Int) (hst : g.st = 1 ∨ g.st = 2) (hok : g.ok) (hr : rp = 0 ∨ rp = 2) (h2 : rp = 2 → g.st = 1) :
    ((g.moved rp).st = 1 ∨ (g.moved rp).st = 3 → g.st = 1 ∧ rp = 0) ∧ ((g.moved rp).st = 2 ∨ (g.moved rp).st = 4 → g.st = 2 ∨ rp = 2) ∧ (g.moved rp).due = 0 ∧ (g.moved rp).tries = 0 := by
  obtain ⟨id, st, step, tries, due, steps⟩ := g
  simp only at *
  rcases hst with rfl | rfl
  · rcases hr with rfl | rfl
    · by_cases hl : (steps.length : Int) < step + 1 <;> simp [SagaM.moved, SagaM.forward, hl]
    · by_cases hl : step - 1 = 0 <;> simp [SagaM.moved, SagaM.forward, SagaM.backward, hl]
  · rcases hr with rfl | rfl
    · by_cases hl : step - 1 = 0 <;> simp [SagaM.moved, SagaM.backward, hl]
    · exact absurd (h2 rfl) (by decide)
theorem app_ne {r : List Int} (Z : Nat) (hZ : 1 ≤ Z) : r ++ List.replicate Z 0 ≠ [] := by
  intro h
  have := (List.append_eq_nil_iff.1 h).2
  rw [List.replicate_eq_nil_iff] at this
  omega
theorem k_zero' {rest r : List Int} {A Z : Nat} (hr : rest = r ++ List.replicate Z 0) (hrl : r.length ≤ A) (hZ : 1 ≤ Z) (p : PartM) (hl : p.l = rest) (h1 : (A : Int) ≤ p.at_) (h2 : p.at_ < Z) : p.k = 0 := by
  have hlen : rest.length = r.length + Z := by rw [hr, List.length_append, List.length_replicate]
  have hne : rest ≠ [] := by rw [hr]; exact app_ne Z hZ
  have he : (rest.getD (p.at_.toNat % rest.length) 0) = 0 := by
    rw [Nat.mod_eq_of_lt (by omega), hr, List.getD_eq_getElem?_getD, List.getElem?_append_right (by omega), List.getElem?_replicate]
    split <;> rfl
  simp only [PartM.k, hl]
  rw [if_neg hne, he]
  rfl
theorem k_zero {rest r : List Int} (hr : rest = r ++ List.replicate 200 0) (hrl : r.length ≤ 20) (p : PartM) (hl : p.l = rest) (h1 : 20 ≤ p.at_) (h2 : p.at_ < 200) : p.k = 0 :=
  k_zero' hr hrl (by omega) p hl h1 h2
theorem at_next {p : PartM} {c : CallM} (h : p.l ≠ []) : (p.ask c).at_ = p.at_ + 1 := by simp [PartM.ask, PartM.next, h]
/-- One tick. -/
theorem ei_tick {rest r : List Int} {n : Nat} {s : StM} {g : SagaM} (hr : rest = r ++ List.replicate 200 0) (hrl : r.length ≤ 20) (h : EI rest n s g) (hn : n ≤ 6) (hi : s.inv) (hck : s.clock + 1 < 2 ^ 40) (htr : g.tries + 1 < 2 ^ 40) :
    s.tick.pause = s.pause ∧ ∃ g', EI rest n s.tick g' ∧ g'.steps = g.steps ∧ g'.id = g.id ∧ g'.tries ≤ g.tries + 1 ∧ ((g.st = 1 ∨ g.st = 2) → (g'.st = 3 ∨ g'.st = 4) ∨ psi s.tick g' + 1 ≤ psi s g) ∧ ((g.st = 3 ∨ g.st = 4) → g'.st = g.st) := by
  have hne : s.p.l ≠ [] := by rw [h.pl, hr]; exact app_ne 200 (by omega)
  have ht : s.tick = ({ s with clock := s.clock + 1 } : StM).stepOne 0 := by
    unfold StM.tick; rw [h.sg]; rfl
  have hg0 : ({ s with clock := s.clock + 1 } : StM).sagas[0]? = some g := by show s.sagas[0]? = _; rw [h.sg]; rfl
  have hleft := h.ok.left_nonneg
  have hsum := h.sum
  have hdue := h.due
  have hp := hi.pause
  have hset : ∀ g', s.sagas.set 0 g' = [g'] := fun g' => by rw [h.sg]; rfl
  cases hw : g.waits (s.clock + 1)
  · have e : s.tick = { s with clock := s.clock + 1 } := by
      rw [ht]; simp only [StM.stepOne, hg0, hw, if_true]
    rw [e]
    refine ⟨rfl, g, ⟨h.sg, h.st, h.ag, h.nv1, h.nv2, h.pl, h.at_, hsum, by simp only; omega, h.ok, ⟨by have := h.clk; simp only; omega, hck⟩, h.tries⟩, rfl, rfl, by omega, fun hst => .inr ?_, fun _ => rfl⟩
    simp only [SagaM.waits, Bool.and_eq_false_iff, decide_eq_false_iff_not] at hw
    have hd : s.clock + 1 < g.due := by omega
    simp only [psi]
    generalize (((20 - s.p.log.length : Nat) : Int) + g.left) * (s.pause + 1) = X
    omega
  · have hst : g.st = 1 ∨ g.st = 2 := by
      simp [SagaM.waits] at hw
      obtain ⟨_, _, _, _, h | h⟩ := h.ok
      · exact h.1
      · omega
    have hdc : g.due ≤ s.clock + 1 := by simp [SagaM.waits] at hw; exact hw.2
    obtain ⟨a1, a2, a3, a4⟩ := agree_ask g s.p (by rw [h.st]; exact h.ag) hst
    have hpos := h.ok.left_pos hst
    have hat : (s.p.ask g.call).at_ = s.p.at_ + 1 := at_next hne
    have hlog : (s.p.ask g.call).log = s.p.log ++ [(g.call, g.reply s.p)] := rfl
    have hll : (s.p.ask g.call).log.length = s.p.log.length + 1 := by rw [hlog]; simp
    have hb : s.p.log.length < 200 := by omega
    cases hm : g.moves (g.reply s.p)
    · have hr1 : g.reply s.p = 1 := by
        rcases a4 with e | e | e
        · rw [e] at hm; simp [SagaM.moves] at hm
        · exact e
        · have := a3 e; rw [e] at hm; simp [SagaM.moves, this] at hm
      have hlt : s.p.log.length < 20 := by
        refine Nat.lt_of_not_le (fun hge => ?_)
        have hk := k_zero hr hrl s.p h.pl (by rw [h.at_]; omega) (by rw [h.at_]; omega)
        have : g.reply s.p = 0 := by
          simp only [SagaM.reply, replyM, hk]
          cases s.p.knows g.call <;> simp
        omega
      have hwr : wrap64 (g.tries + 1) = g.tries + 1 := wrap_in _ (by have := h.ok.2.2.2.1; omega)
      have hmn : 1 ≤ min ((2 : Int) ^ (min g.tries 20).toNat) s.pause ∧ min ((2 : Int) ^ (min g.tries 20).toNat) s.pause ≤ s.pause := by
        have : (1 : Int) ≤ 2 ^ (min g.tries 20).toNat := by
          have h2 : 1 ≤ (2 : Nat) ^ (min g.tries 20).toNat := Nat.one_le_two_pow
          have h3 : (((2 : Nat) ^ (min g.tries 20).toNat : Nat) : Int) = (2 : Int) ^ (min g.tries 20).toNat := by simp
          omega
        omega
      have hdw : wrap64 (s.clock + 1 + min ((2 : Int) ^ (min g.tries 20).toNat) s.pause) = s.clock + 1 + min ((2 : Int) ^ (min g.tries 20).toNat) s.pause := wrap_in _ (by have := h.clk; omega)
      have e : s.tick = { s with clock := s.clock + 1, sagas := [g.paused (s.clock + 1) s.pause], j := { s.j with fresh := false }, d := settleD s.j s.d, p := s.p.ask g.call } := by
        rw [ht]; simp only [StM.stepOne, hg0, hw, hm, if_true, hset]; rfl
      have hpd : (g.paused (s.clock + 1) s.pause).due = s.clock + 1 + min ((2 : Int) ^ (min g.tries 20).toNat) s.pause := hdw
      have hpt : (g.paused (s.clock + 1) s.pause).tries = g.tries + 1 := hwr
      have hpl : (g.paused (s.clock + 1) s.pause).left = g.left := rfl
      rw [e]
      refine ⟨rfl, g.paused (s.clock + 1) s.pause, ⟨rfl, h.st, ?_, ?_, ?_, h.pl, ?_, ?_, ?_, ?_, ⟨by have := h.clk; simp only; omega, hck⟩, ?_⟩, rfl, rfl, by rw [hpt]; omega, fun _ => .inr ?_, fun h3 => by omega⟩
      · have := a1; rw [h.st] at this; exact this
      · intro hs x hx
        simp only [hlog, List.mem_append, List.mem_singleton] at hx
        rcases hx with hx | rfl
        · exact h.nv1 hs x hx
        · simp only; omega
      · intro hs
        obtain ⟨x, hx, h2⟩ := h.nv2 hs
        exact ⟨x, by simp [hlog, hx], h2⟩
      · simp only [hat, hll, h.at_]; omega
      · simp only [hll, hpl]; omega
      · simp only [hpd]; omega
      · obtain ⟨b1, b2, b3, b4, b5⟩ := h.ok
        exact ⟨b1, b2, b3, by rw [hpt]; omega, b5⟩
      · rw [hpt]; omega
      · simp only [psi, hll, hpl, hpd]
        have e1 : ((20 - s.p.log.length : Nat) : Int) = ((20 - (s.p.log.length + 1) : Nat) : Int) + 1 := by omega
        rw [e1]
        generalize ((20 - (s.p.log.length + 1) : Nat) : Int) = Y
        have : (Y + 1 + g.left) * (s.pause + 1) = (Y + g.left) * (s.pause + 1) + (s.pause + 1) := by
          rw [show Y + 1 + g.left = (Y + g.left) + 1 by omega, Int.add_mul, Int.one_mul]
        rw [this]
        generalize (Y + g.left) * (s.pause + 1) = X
        omega
    · have hr02 : g.reply s.p = 0 ∨ g.reply s.p = 2 := by
        simp [SagaM.moves] at hm
        exact hm.imp id (fun h => h.1)
      obtain ⟨hmo, hml⟩ := h.ok.moved hst (g.reply s.p)
      obtain ⟨m1, m2, m3, m4⟩ := moved_st g (g.reply s.p) hst h.ok hr02 a3
      have e : s.tick = { s with clock := s.clock + 1, sagas := [g.moved (g.reply s.p)], j := ⟨s.j.epoch, s.j.en + 1, false⟩, d := (settleD s.j s.d).append s.j.epoch s.j.en [⟨4, 0, 0, g.id.toNat, (g.reply s.p).toNat, []⟩], p := s.p.ask g.call } := by
        rw [ht]; simp [StM.stepOne, hg0, hw, hm, hset]
      have hsteps : (g.moved (g.reply s.p)).steps = g.steps := by
        by_cases h1 : g.st = 1 <;> by_cases h2 : g.reply s.p = 0 <;> by_cases h3 : (g.steps.length : Int) < g.step + 1 <;> simp [SagaM.moved, SagaM.forward, SagaM.backward, h1, h2, h3]
      have hid := moved_id g (g.reply s.p)
      have hlg := hmo.left_nonneg
      rw [e]
      refine ⟨rfl, g.moved (g.reply s.p), ⟨rfl, by rw [hsteps]; exact h.st, ?_, ?_, ?_, h.pl, ?_, ?_, ?_, hmo, ⟨by have := h.clk; simp only; omega, hck⟩, by rw [m4]; omega⟩, hsteps, hid, by rw [m4]; have := h.ok.2.2.2.1; omega, fun _ => .inr ?_, fun h3 => by omega⟩
      · have := a2 hm; rw [h.st] at this; rw [hid]; exact this
      · intro hs x hx
        obtain ⟨q1, q2⟩ := m1 hs
        simp only [hlog, List.mem_append, List.mem_singleton] at hx
        rcases hx with hx | rfl
        · exact h.nv1 (.inl q1) x hx
        · simp only; omega
      · intro hs
        rcases m2 hs with q | q
        · obtain ⟨x, hx, h2⟩ := h.nv2 (.inl q)
          exact ⟨x, by simp [hlog, hx], h2⟩
        · exact ⟨(g.call, g.reply s.p), by simp [hlog], q⟩
      · simp only [hat, hll, h.at_]; omega
      · simp only [hll]; omega
      · simp only [m3]; have := h.clk; omega
      · simp only [psi, hll, m3]
        have hnn : 0 ≤ ((20 - s.p.log.length : Nat) : Int) := by omega
        have hle : ((20 - (s.p.log.length + 1) : Nat) : Int) + (g.moved (g.reply s.p)).left + 1 ≤ ((20 - s.p.log.length : Nat) : Int) + g.left := by omega
        have hmul := Int.mul_le_mul_of_nonneg_right hle (show 0 ≤ s.pause + 1 by omega)
        rw [Int.add_mul, Int.one_mul] at hmul
        generalize (((20 - (s.p.log.length + 1) : Nat) : Int) + (g.moved (g.reply s.p)).left) * (s.pause + 1) = X at *
        generalize (((20 - s.p.log.length : Nat) : Int) + g.left) * (s.pause + 1) = Y at *
        have := h.clk
        omega
theorem ei_ticks {rest r : List Int} {n : Nat} {s : StM} {g : SagaM} (hr : rest = r ++ List.replicate 200 0) (hrl : r.length ≤ 20) (h : EI rest n s g) (hn : n ≤ 6) (hi : s.inv) (t : Nat) (hf : s.fine t) (hck : s.clock + t < 2 ^ 40) (htr : g.tries + t < 2 ^ 40) :
    (s.ticks t).pause = s.pause ∧ ∃ g', EI rest n (s.ticks t) g' ∧ g'.steps = g.steps ∧ g'.id = g.id ∧ g'.tries ≤ g.tries + t ∧ ((g'.st = 3 ∨ g'.st = 4) ∨ psi (s.ticks t) g' + t ≤ psi s g) := by
  induction t with
  | zero => exact ⟨rfl, g, h, rfl, rfl, by omega, .inr (by simp [StM.ticks])⟩
  | succ t ih =>
    have hl1 : s.sagas.length = 1 := by rw [h.sg]; rfl
    have hf1 : s.fine t := by
      obtain ⟨b1, b2, b3, b4, b5, b6⟩ := hf
      exact ⟨by omega, by omega, b3, b4, by omega, b6⟩
    obtain ⟨e0, g1, h1, h2, h3, h4, h5⟩ := ih hf1 (by omega) (by omega)
    obtain ⟨i1, _, i3, _⟩ := ticks_inv (m := 0) hi t (by rw [hl1]; simpa using hf1)
    obtain ⟨f0, g2, k1, k2, k3, k4, k5, k6⟩ := ei_tick hr hrl h1 hn i1 (by rw [i3]; omega) (by omega)
    refine ⟨f0.trans e0, g2, k1, k2.trans h2, k3.trans h3, by omega, ?_⟩
    rcases h5 with h5 | h5
    · left; rw [k6 h5]; exact h5
    · have := agree_st h1.ag
      rcases this with q | q | q | q
      · rcases k5 (.inl q) with z | z
        · exact .inl z
        · right; show psi (s.ticks t).tick g2 + _ ≤ _; omega
      · rcases k5 (.inr q) with z | z
        · exact .inl z
        · right; show psi (s.ticks t).tick g2 + _ ≤ _; omega
      · left; rw [k6 (.inl q)]; exact .inl q
      · left; rw [k6 (.inr q)]; exact .inr q
/-- So many ticks are enough. -/
theorem ei_ends {rest r : List Int} {n : Nat} {s : StM} {g : SagaM} (hr : rest = r ++ List.replicate 200 0) (hrl : r.length ≤ 20) (h : EI rest n s g) (hn : n ≤ 6) (hi : s.inv) (hl0 : s.p.log = []) (hd0 : g.due = 0) (ht0 : g.tries = 0) (hc0 : s.clock = 0) (hleft : g.left ≤ 2 * n)
    (t : Nat) (ht : (t : Int) = (20 + 2 * n + 2) * (s.pause + 1)) (hf : s.fine t) : ∃ g', EI rest n (s.ticks t) g' ∧ g'.steps = g.steps ∧ g'.id = g.id ∧ (g'.st = 3 ∨ g'.st = 4) := by
  have hp := hi.pause
  have htb : (t : Int) ≤ 34 * 65 := by
    rw [ht]
    exact Int.mul_le_mul (by omega) (by omega) (by omega) (by omega)
  obtain ⟨e0, g', h1, h2, h3, _, h5⟩ := ei_ticks hr hrl h hn hi t hf (by omega) (by omega)
  refine ⟨g', h1, h2, h3, ?_⟩
  rcases h5 with h5 | h5
  · exact h5
  · rcases agree_st h1.ag with q | q | q | q
    · exfalso
      have hpos := h1.ok.left_nonneg
      have : 0 ≤ psi (s.ticks t) g' := by
        unfold psi
        have := Int.mul_nonneg (show 0 ≤ (((20 - (s.ticks t).p.log.length : Nat) : Int) + g'.left) by omega) (show 0 ≤ (s.ticks t).pause + 1 by omega)
        omega
      have hs : psi s g ≤ (20 + 2 * n) * (s.pause + 1) := by
        unfold psi
        rw [hl0, hd0, hc0]
        have := Int.mul_le_mul_of_nonneg_right (show (((20 - ([] : List (CallM × Int)).length : Nat) : Int) + g.left) ≤ 20 + 2 * n by simp; omega) (show 0 ≤ s.pause + 1 by omega)
        omega
      rw [show (20 + 2 * (n : Int) + 2) = (20 + 2 * n) + 2 by omega, Int.add_mul] at ht
      omega
    · exfalso
      have hpos := h1.ok.left_nonneg
      have : 0 ≤ psi (s.ticks t) g' := by
        unfold psi
        have := Int.mul_nonneg (show 0 ≤ (((20 - (s.ticks t).p.log.length : Nat) : Int) + g'.left) by omega) (show 0 ≤ (s.ticks t).pause + 1 by omega)
        omega
      have hs : psi s g ≤ (20 + 2 * n) * (s.pause + 1) := by
        unfold psi
        rw [hl0, hd0, hc0]
        have := Int.mul_le_mul_of_nonneg_right (show (((20 - ([] : List (CallM × Int)).length : Nat) : Int) + g.left) ≤ 20 + 2 * n by simp; omega) (show 0 ≤ s.pause + 1 by omega)
        omega
      rw [show (20 + 2 * (n : Int) + 2) = (20 + 2 * n) + 2 by omega, Int.add_mul] at ht
      omega
    · exact .inl q
    · exact .inr q
end Go.Proofs.YtkafmfdipmhleaaGreatDoor
