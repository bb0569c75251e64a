/-
  What is proved: a Tick turns each saga as it was, the partner as the turns before left it. (No program in sight.) what a Tick makes of a disk that runs. the reference's Waits, Moves, Next, of a saga. the reference's Next, of a saga. the reference's Vain, of a saga: it is due later, as the engine's Pause has it. the reference's saga behind a reply: replied, where the device told no error. the reference's sagas as they were found, which is sure: settled. a call that is asked for, against the one that was asked: they are the same. the reference's Asks, of a saga. regions of ticked.
-/
import Derived.Test.YtkafmfdipmhleaaGreatDoorRy14
import Derived.StillTailTactics

namespace Go.Proofs.YtkafmfdipmhleaaGreatDoor
open Go.RowKit Go.Maps
/-- A saga's turn. -/
def turnG (a : AskM) (clock pause : Int) (p : PartM) (g : SagaM) : SagaM × PartM :=
  if g.waits clock = false then (g, p)
  else if g.moves (a.rep p g.call) = false then (g.paused clock pause, a.nxt p g.call)
  else (g.moved (a.rep p g.call), a.nxt p g.call)
/-- The partner, when the first k had their turn. -/
def partK (a : AskM) (clock pause : Int) (p : PartM) (l : List SagaM) : Nat → PartM
  | 0 => p
  | k + 1 => match l[k]? with
    | none => partK a clock pause p l k
    | some g => (turnG a clock pause (partK a clock pause p l k) g).2
/-- The sagas, when the first k had their turn. -/
def sagK (a : AskM) (clock pause : Int) (p : PartM) (l : List SagaM) : Nat → List SagaM
  | 0 => l
  | k + 1 => match l[k]? with
    | none => sagK a clock pause p l k
    | some g => (sagK a clock pause p l k).set k (turnG a clock pause (partK a clock pause p l k) g).1
theorem sagK_len (a : AskM) (clock pause : Int) (p : PartM) (l : List SagaM) (k : Nat) : (sagK a clock pause p l k).length = l.length := by
  induction k with
  | zero => rfl
  | succ k ih =>
    unfold sagK
    cases h : l[k]? with
    | none => exact ih
    | some g => simp only [List.length_set]; exact ih
theorem sagK_get (a : AskM) (clock pause : Int) (p : PartM) (l : List SagaM) (k j : Nat) (h : k ≤ j) : (sagK a clock pause p l k)[j]? = l[j]? := by
  induction k with
  | zero => rfl
  | succ k ih =>
    unfold sagK
    cases hk : l[k]? with
    | none => exact ih (by omega)
    | some g =>
      simp only
      rw [List.getElem?_set_ne (by omega)]
      exact ih (by omega)
theorem set_same {α : Type} {l : List α} {k : Nat} {g : α} (h : l[k]? = some g) : l.set k g = l := by
  apply List.ext_getElem?
  intro i
  by_cases e : i = k
  · subst e
    rw [List.getElem?_set_self (List.getElem?_eq_some_iff.1 h).1, h]
  · rw [List.getElem?_set_ne (fun h => e h.symm)]
theorem stepA_len (a : AskM) (s : StM) (k : Nat) : (s.stepA a k).j.epoch = s.j.epoch ∧ (s.stepA a k).d.blocks.length = s.d.blocks.length ∧ Grew 3 s.d (s.stepA a k).d ∧ (s.stepA a k).pause = s.pause ∧ (s.stepA a k).clock = s.clock := by
  cases hg : s.sagas[k]? with
  | none =>
    have e : s.stepA a k = s := by simp only [StM.stepA, hg]
    rw [e]; exact ⟨rfl, rfl, (Grew.refl _).mono (by omega), rfl, rfl⟩
  | some g =>
    by_cases hw : g.waits s.clock = false
    · have e : s.stepA a k = s := by simp only [StM.stepA, hg, hw, if_true]
      rw [e]; exact ⟨rfl, rfl, (Grew.refl _).mono (by omega), rfl, rfl⟩
    · by_cases hm : g.moves (a.rep s.p g.call) = false
      · have e : s.stepA a k = { s with sagas := s.sagas.set k (g.paused s.clock s.pause), j := { s.j with fresh := false }, d := settleD s.j s.d, p := a.nxt s.p g.call } := by
          simp [StM.stepA, hg, hw, hm]
        rw [e]
        exact ⟨rfl, settle_len' _ _, (Grew.settle _ _).mono (by omega), rfl, rfl⟩
      · have e : s.stepA a k = { s with sagas := s.sagas.set k (g.moved (a.rep s.p g.call)), j := ⟨s.j.epoch, s.j.en + 1, false⟩, d := (settleD s.j s.d).append s.j.epoch s.j.en [⟨4, 0, 0, g.id.toNat, (a.rep s.p g.call).toNat, []⟩], p := a.nxt s.p g.call } := by
          simp [StM.stepA, hg, hw, hm]
        rw [e]
        refine ⟨rfl, ?_, ?_, rfl, rfl⟩
        · show ((settleD s.j s.d).append _ _ _).blocks.length = _
          rw [append_len, settle_len']
        · exact ((Grew.settle s.j s.d).trans ((Grew.put _ _ _).trans (Grew.flush _))).mono (by omega)
theorem foldA_len (a : AskM) (l : List Nat) (s : StM) : (l.foldl (StM.stepA a) s).j.epoch = s.j.epoch ∧ (l.foldl (StM.stepA a) s).d.blocks.length = s.d.blocks.length ∧ Grew (3 * l.length) s.d (l.foldl (StM.stepA a) s).d ∧ (l.foldl (StM.stepA a) s).pause = s.pause ∧ (l.foldl (StM.stepA a) s).clock = s.clock := by
  induction l generalizing s with
  | nil => exact ⟨rfl, rfl, Grew.refl _, rfl, rfl⟩
  | cons x l ih =>
    obtain ⟨h1, h2, h3, h4, h5⟩ := stepA_len a s x
    obtain ⟨i1, i2, i3, i4, i5⟩ := ih (s.stepA a x)
    rw [List.foldl_cons]
    exact ⟨i1.trans h1, i2.trans h2, (h3.trans i3).mono (by rw [List.length_cons]; omega), i4.trans h4, i5.trans h5⟩
theorem fold_turns (a : AskM) (s : StM) (k : Nat) : ((List.range k).foldl (StM.stepA a) s).sagas = sagK a s.clock s.pause s.p s.sagas k ∧ ((List.range k).foldl (StM.stepA a) s).p = partK a s.clock s.pause s.p s.sagas k := by
  induction k with
  | zero => exact ⟨rfl, rfl⟩
  | succ k ih =>
    rw [List.range_succ, List.foldl_append, List.foldl_cons, List.foldl_nil]
    obtain ⟨h1, h2⟩ := ih
    obtain ⟨_, _, _, h3, h4⟩ := foldA_len a (List.range k) s
    generalize (List.range k).foldl (StM.stepA a) s = t at h1 h2 h3 h4 ⊢
    have hget : t.sagas[k]? = s.sagas[k]? := by rw [h1]; exact sagK_get _ _ _ _ _ _ _ (Nat.le_refl k)
    cases hg : s.sagas[k]? with
    | none =>
      simp only [StM.stepA, sagK, partK, hget, hg]
      exact ⟨h1, h2⟩
    | some g =>
      rw [hg] at hget
      simp only [sagK, partK, hg, turnG]
      by_cases hw : g.waits s.clock = false
      · simp only [StM.stepA, hget, h4, hw, if_true]
        refine ⟨?_, h2⟩
        rw [h1, set_same]
        rw [← h1]; exact hget
      · by_cases hm : g.moves (a.rep t.p g.call) = false
        · have hm' : g.moves (a.rep (partK a s.clock s.pause s.p s.sagas k) g.call) = false := by rw [← h2]; exact hm
          simp only [StM.stepA, hget, h4, h3, hw, hm, hm', if_true, if_false]
          exact ⟨by simp [h1], by simp [h2]⟩
        · have hm' : ¬ g.moves (a.rep (partK a s.clock s.pause s.p s.sagas k) g.call) = false := by rw [← h2]; exact hm
          simp only [StM.stepA, hget, h4, h3, hw, hm, hm', if_true, if_false]
          exact ⟨by simp [h1, h2], by simp [h2]⟩
theorem tickA_turns (a : AskM) (s : StM) : (s.tickA a).sagas = sagK a (s.clock + 1) s.pause s.p s.sagas s.sagas.length ∧ (s.tickA a).p = partK a (s.clock + 1) s.pause s.p s.sagas s.sagas.length :=
  fold_turns a { s with clock := s.clock + 1 } s.sagas.length
/-- How many of the first k wait. -/
def waitN (clock : Int) (l : List SagaM) : Nat → Nat
  | 0 => 0
  | k + 1 => match l[k]? with
    | none => waitN clock l k
    | some g => if g.waits clock = true then waitN clock l k + 1 else waitN clock l k
theorem waitN_yes {clock : Int} {l : List SagaM} {k : Nat} {g : SagaM} (hg : l[k]? = some g) (hw : g.waits clock = true) : waitN clock l (k + 1) = waitN clock l k + 1 := by
  simp only [waitN, hg, hw, if_true]
theorem waitN_no {clock : Int} {l : List SagaM} {k : Nat} {g : SagaM} (hg : l[k]? = some g) (hw : g.waits clock = false) : waitN clock l (k + 1) = waitN clock l k := by
  simp only [waitN, hg, hw]; simp
theorem waitN_mono (clock : Int) (l : List SagaM) {k n : Nat} (h : k ≤ n) : waitN clock l k ≤ waitN clock l n := by
  induction n with
  | zero => obtain rfl : k = 0 := by omega
            exact Nat.le_refl _
  | succ n ih =>
    by_cases e : k = n + 1
    · subst e; exact Nat.le_refl _
    · have h1 := ih (by omega)
      cases hg : l[n]? with
      | none => simp only [waitN, hg]; exact h1
      | some g =>
        simp only [waitN, hg]
        split <;> omega
theorem waitN_lt {clock : Int} {l : List SagaM} {k n : Nat} {g : SagaM} (hg : l[k]? = some g) (hw : g.waits clock = true) (h : k < n) : waitN clock l k < waitN clock l n := by
  have h1 := waitN_yes hg hw
  have h2 := waitN_mono clock l (show k + 1 ≤ n from h)
  omega
theorem part_no {a : AskM} {clock pause : Int} {p : PartM} {l : List SagaM} {k : Nat} {g : SagaM} (hg : l[k]? = some g) (hw : g.waits clock = false) : partK a clock pause p l (k + 1) = partK a clock pause p l k := by
  simp only [partK, hg, turnG, hw, if_true]
theorem part_yes {a : AskM} {clock pause : Int} {p : PartM} {l : List SagaM} {k : Nat} {g : SagaM} (hg : l[k]? = some g) (hw : g.waits clock = true) : partK a clock pause p l (k + 1) = a.nxt (partK a clock pause p l k) g.call := by
  simp only [partK, hg, turnG, hw]
  split
  · rename_i h; cases h
  · split <;> rfl
theorem log_yes {clock pause : Int} {p : PartM} {l : List SagaM} {k : Nat} {g : SagaM} (hg : l[k]? = some g) (hw : g.waits clock = true) : (partK askP clock pause p l (k + 1)).log = (partK askP clock pause p l k).log ++ [(g.call, askP.rep (partK askP clock pause p l k) g.call)] := by
  rw [part_yes hg hw]; rfl
theorem log_len (clock pause : Int) (p : PartM) (l : List SagaM) (k : Nat) : (partK askP clock pause p l k).log.length = p.log.length + waitN clock l k := by
  induction k with
  | zero => rfl
  | succ k ih =>
    cases hg : l[k]? with
    | none => simp only [partK, waitN, hg]; exact ih
    | some g =>
      cases hw : g.waits clock
      · rw [part_no hg hw, waitN_no hg hw]; exact ih
      · rw [log_yes hg hw, waitN_yes hg hw, List.length_append, ih]; simp; omega
theorem log_pre (clock pause : Int) (p : PartM) (l : List SagaM) {k n : Nat} (h : k ≤ n) : ∃ e, (partK askP clock pause p l n).log = (partK askP clock pause p l k).log ++ e := by
  induction n with
  | zero => obtain rfl : k = 0 := by omega
            exact ⟨[], by simp⟩
  | succ n ih =>
    by_cases e : k = n + 1
    · subst e; exact ⟨[], by simp⟩
    · obtain ⟨x, hx⟩ := ih (by omega)
      cases hg : l[n]? with
      | none => simp only [partK, hg]; exact ⟨x, hx⟩
      | some g =>
        cases hw : g.waits clock
        · rw [part_no hg hw]; exact ⟨x, hx⟩
        · rw [log_yes hg hw, hx]; exact ⟨_, List.append_assoc _ _ _⟩
theorem log_at {clock pause : Int} {p : PartM} {l : List SagaM} {k n : Nat} {g : SagaM} (hg : l[k]? = some g) (hw : g.waits clock = true) (h : k < n) : (partK askP clock pause p l n).log[p.log.length + waitN clock l k]? = some (g.call, askP.rep (partK askP clock pause p l k) g.call) := by
  obtain ⟨x, hx⟩ := log_pre clock pause p l (show k + 1 ≤ n from h)
  have h1 := log_len clock pause p l k
  rw [hx, log_yes hg hw, List.append_assoc, ← h1, List.getElem?_append_right (Nat.le_refl _), Nat.sub_self]
  rfl
theorem part_f (clock pause : Int) (p : PartM) (l : List SagaM) (k : Nat) : partK askF clock pause p l k = p := by
  induction k with
  | zero => rfl
  | succ k ih =>
    cases hg : l[k]? with
    | none => simp only [partK, hg]; exact ih
    | some g =>
      cases hw : g.waits clock
      · rw [part_no hg hw]; exact ih
      · rw [part_yes hg hw]; exact ih
theorem turn_f {clock pause : Int} {p : PartM} {g : SagaM} (hw : g.waits clock = true) : (turnG askF clock pause p g).1 = g.paused clock pause := by
  have hm : g.moves 1 = false := by unfold SagaM.moves; simp
  have hm' : g.moves (askF.rep p g.call) = false := hm
  unfold turnG
  rw [if_neg (by rw [hw]; simp), if_pos hm']
theorem turn_p {a : AskM} {clock pause : Int} {p : PartM} {g : SagaM} (hw : g.waits clock = true) : (turnG a clock pause p g).1 = if g.moves (a.rep p g.call) = false then g.paused clock pause else g.moved (a.rep p g.call) := by
  unfold turnG
  rw [if_neg (by rw [hw]; simp)]
  split <;> rfl
theorem sagK_no {a : AskM} {clock pause : Int} {p : PartM} {l : List SagaM} {k : Nat} {g : SagaM} (hg : l[k]? = some g) (hw : g.waits clock = false) : sagK a clock pause p l (k + 1) = sagK a clock pause p l k := by
  simp only [sagK, hg, turnG, hw, if_true]
  exact set_same (by rw [sagK_get _ _ _ _ _ _ _ (Nat.le_refl k)]; exact hg)
theorem sagK_yes {a : AskM} {clock pause : Int} {p : PartM} {l : List SagaM} {k : Nat} {g : SagaM} (hg : l[k]? = some g) : sagK a clock pause p l (k + 1) = (sagK a clock pause p l k).set k (turnG a clock pause (partK a clock pause p l k) g).1 := by
  simp only [sagK, hg]
end Go.Proofs.YtkafmfdipmhleaaGreatDoor

namespace Go.Proofs.YtkafmfdipmhleaaGreatDoor
open Go.RowKit Go.Maps
def RD.tick (o : RD) (e : EngR) (evs' : List Ev) (R' : List RefM) (lv' pl' pe' : Value) : RD :=
  { o with d := ((o.st e).tickA e.a).d, p := ((o.st e).tickA e.a).p, evs := evs', R := R', ck := o.ck + 1, lv := lv', pl := pl', pe := pe', x := some { e with fresh := ((o.st e).tickA e.a).j.fresh } }
theorem ask_l {a : AskM} (h : a = askP ∨ a = askF) (p : PartM) (c : CallM) : (a.nxt p c).l = p.l := by
  rcases h with rfl | rfl <;> rfl
theorem part_l {a : AskM} (h : a = askP ∨ a = askF) (clock pause : Int) (p : PartM) (l : List SagaM) (k : Nat) : (partK a clock pause p l k).l = p.l := by
  induction k with
  | zero => rfl
  | succ k ih =>
    cases hg : l[k]? with
    | none => simp only [partK, hg]; exact ih
    | some g =>
      cases hw : g.waits clock
      · rw [part_no hg hw]; exact ih
      · rw [part_yes hg hw, ask_l h]; exact ih
theorem good_of {a : AskM} (h : a = askP ∨ a = askF) : a.good := by
  rcases h with rfl | rfl
  · exact good_p
  · exact good_f
theorem plain_of {a : AskM} (h : a = askP ∨ a = askF) : a.plain := by
  rcases h with rfl | rfl
  · exact plain_p
  · exact plain_f
theorem RDok.fineV {m : Nat} {o : RD} {e : EngR} (hk : RDok (m + 1) o) : (o.st e).fineV (2000 * m + (o.st e).sagas.length) := by
  have h1 := hk.lenR
  have h2 : (o.st e).sagas.length = o.R.length := by show (sagasOf o.R).length = _; simp [sagasOf]
  refine ⟨hk.fine.less (by omega), fun g hg => ?_⟩
  have := hk.tries g hg
  omega
theorem RDok.tick {m : Nat} {o : RD} {e : EngR} (hk : RDok (m + 1) o) (hx : o.x = some e) : ∃ evs', EngJ ((o.st e).tickA e.a) evs' ∧ ∀ (R' : List RefM) (lv' pl' pe' : Value), sagasOf R' = ((o.st e).tickA e.a).sagas → RDok m (o.tick e evs' R' lv' pl' pe') := by
  obtain ⟨_, ha⟩ := hk.eng e hx
  have hi := hk.inv hx
  have hf := hk.fineV (e := e)
  have hlen : (o.st e).sagas.length ≤ 1000 := by
    have h1 := hk.lenR
    show (sagasOf o.R).length ≤ _
    simpa [sagasOf] using h1
  obtain ⟨evs', hJ⟩ := tickA_J (plain_of ha) (good_of ha) (hk.engJ hx) hi hf
  refine ⟨evs', hJ, fun R' lv' pl' pe' hR => ?_⟩
  obtain ⟨i1, i2, i3, i4⟩ := foldA_inv (good_of ha) (List.range (o.st e).sagas.length) { o.st e with clock := (o.st e).clock + 1 } (m := 2000 * m) (inv_clock hi _) (by rw [List.length_range]; exact hf)
  obtain ⟨l1, l2, l3, l4, l5⟩ := foldA_len e.a (List.range (o.st e).sagas.length) { o.st e with clock := (o.st e).clock + 1 }
  change ((o.st e).tickA e.a).inv at i1
  change ((o.st e).tickA e.a).fineV _ at i2
  change ((o.st e).tickA e.a).j.epoch = o.ep at l1
  change ((o.st e).tickA e.a).d.blocks.length = o.d.blocks.length at l2
  change Grew _ o.d ((o.st e).tickA e.a).d at l3
  rw [List.length_range] at l3
  have hen := hJ.en
  have hep := hk.epx hx
  obtain ⟨c1, c2⟩ := hk.cal
  obtain ⟨g1, g2⟩ := l3.1 c1 (by omega)
  have hsg : sagasOf (o.tick e evs' R' lv' pl' pe').R = ((o.st e).tickA e.a).sagas := hR
  refine ⟨i1.quiet, i1.pend, l2.trans hk.len, hk.nl, ⟨g1, by show ((o.st e).tickA e.a).d.calls + _ ≤ _; omega⟩, fun _ => ?_, by show o.ep + m ≤ _; have := hk.ep; omega, ?_, ?_, ?_, ?_, fun _ => ?_, hk.fits, fun h => absurd h hep, i2.1, ?_, ⟨by show 0 ≤ o.ck + 1; have := hk.clock.1; omega, by show o.ck + 1 + m ≤ _; have := hk.clock.2; omega⟩, fun e' he' => ?_⟩
  · have := hJ.je
    rw [l1] at this
    exact this
  · rw [hsg]; exact hJ.sg
  · rw [hsg]; exact hJ.cap
  · rw [hsg]; exact i1.ok
  · rw [hsg]; exact i1.ord
  · rw [hsg]
    have := i1.room
    rw [hen, l2, hk.len] at this
    exact this
  · rw [hsg]; exact i2.2
  · simp only [RD.tick, Option.some.injEq] at he'
    subst he'
    exact hk.eng e hx
theorem own_lv {o : RD} {k : Nat} (h : o.lv.ownBlock = some k) : o.own k := .inr (.inr (.inr (.inr (.inl h))))
theorem own_x {o : RD} {e : EngR} (hx : o.x = some e) {k : Nat} (h : k = e.xb ∨ k = e.jb ∨ k = e.mb ∨ k ∈ e.bl) : o.own k := .inr (.inr (.inr (.inr (.inr (.inr (.inr (.inr ⟨e, hx, h⟩)))))))
/-- What Tick turned, and what it left. -/
theorem TickV.part {w w1 w2 : World} {B : Nat} {o : RD} {e : EngR} (h : RunAt w1 B o) (hx : o.x = some e) (hsz : w.heap.size ≤ w1.heap.size) {s' : StM} (hV : StV e.cv w2 (o.pl_ e) e.bl s') (hT : TkF (o.pl_ e) e.bl w1 w2) :
    ∃ pl' pe', w2.heap[o.pb]? = some (.cells #[pl', pe', o.pi, .int .i64 s'.p.at_] 44 (0, 0)) ∧ (∀ k, pl'.ownBlock = some k → o.own k ∨ w.heap.size ≤ k) ∧ (∀ k, pe'.ownBlock = some k → o.own k ∨ w.heap.size ≤ k) ∧ Fr (fun k => o.own k ∨ w.heap.size ≤ k) w1 w2 ∧ w2.ownsRow s'.p.lo 48 5 pl' s'.p.log.length (logCells s'.p.log) := by
  have hPG : PG w1 o.pb (fun k => o.own k ∨ w.heap.size ≤ k) o.pi := by
    refine ⟨.inl (.inr (.inr (.inr (.inl rfl)))), _, _, _, h.ps, fun k hk => .inl (.inr (.inr (.inr (.inr (.inr (.inl hk)))))), fun k hk => .inl (.inr (.inr (.inr (.inr (.inr (.inr (.inl hk))))))), fun a n c ha => .inl (.inr (.inr (.inr (.inr (.inr (.inr (.inr (.inl ⟨a, n, c, ha, rfl⟩))))))))⟩
  obtain ⟨⟨_, lv, ev, av, h1, h2, h3, _⟩, hF⟩ := hT _ _ (fun k hk => .inr (Nat.le_trans hsz hk)) (fun k hk => .inl (engB_kind h hx hk).1) (fun b hb => .inl (own_x hx (.inr (.inr (.inr hb))))) hPG
  obtain ⟨⟨lv2, ev2, iv2, C, k1, k2, _, _, ⟨_, k3, _⟩, _⟩⟩ := hV.pt
  have k0 := k1
  change w2.heap[o.pb]? = _ at k0
  rw [show (o.pl_ e).pb = o.pb from rfl] at h1
  rw [h1] at k0
  simp only [Option.some.injEq, Obj.cells.injEq, Array.mk.injEq, List.cons.injEq] at k0
  obtain ⟨⟨e1, _, _, e4, _⟩, _⟩ := k0
  rw [e4] at h1
  rw [← e1, k3] at k2
  exact ⟨lv, ev, h1, h2, h3, hF, k2⟩
theorem TurnedTo.tick {w w1 w2 w3 : World} {B m : Nat} {o : RD} {e : EngR} (h : RunAt w B o) (hk : RDok (m + 1) o) (hx : o.x = some e) (hBw : B ≤ w.heap.size) (hf1 : New w w1) (hV : StV e.cv w2 (o.pl_ e) e.bl ((o.st e).tickA e.a)) (hT : TkF (o.pl_ e) e.bl w1 w2) (hK : FrK KT w1 w2)
    (hf3 : Fr (fun k => k = o.kb ∨ o.lv.ownBlock = some k) w2 w3) {lv' : Value} {R' : List RefM} (hkb : w3.heap[o.kb]? = some (.cells #[.pointer (some ⟨o.db, 0, none⟩), .pointer (some ⟨o.pb, 0, none⟩), .int .i64 o.n, .bool (decide (o.ep = 0)), .bool false, .pointer (some ⟨e.xb, 0, none⟩), .int .i64 o.pz, .int .i64 (o.ck + 1), .bool false, lv'] 165 (0, 0)))
    (href : RefAt w3 B lv' R') (hlv : ∀ k, lv'.ownBlock = some k → o.lv.ownBlock = some k ∨ w.heap.size ≤ k) (hR : sagasOf R' = ((o.st e).tickA e.a).sagas) : TurnedTo (KeepA o) w B m o w3 := by
  have h1 := h.new hk.pend hf1
  obtain ⟨evs', hJ, hOk⟩ := hk.tick hx
  obtain ⟨pl', pe', hpb, hpl, hpe, hF, _⟩ := TickV.part h1 hx hf1.size hV hT
  have hOk := hOk R' lv' pl' pe' hR
  obtain ⟨_, ha⟩ := hk.eng e hx
  have hkb2 := hK.block o.kb _ h1.st (by simp [kindOf])
  have hS : ∀ (k : Nat) (ob : Obj), (k = o.kb ∨ o.lv.ownBlock = some k) → w2.heap[k]? = some ob → kindOf ob ∈ [166, 224] := by
    rintro k ob (rfl | hl) ho
    · rw [hkb2] at ho; cases ho; simp [kindOf]
    · obtain ⟨c, hc⟩ := own_cells h1.ref.own hl
      have := hK.block k _ hc (by simp [kindOf])
      rw [this] at ho; cases ho; simp [kindOf]
  have hfK := hf3.toK hS
  have hV3 := hV.keepK hfK (by decide)
  have hdk : DiskAt w3 o.db o.bb ((o.st e).tickA e.a).d := hV3.dk
  have hpt : PAt w3 o.pb ((o.st e).tickA e.a).p := hV3.pt
  have hpl3 : ((o.st e).tickA e.a).p.l = o.p.l := by rw [(tickA_turns e.a (o.st e)).2, part_l ha]; rfl
  have hen : ((o.st e).tickA e.a).j.en = 1 + evLen evs' := hJ.en
  have hep : ((o.st e).tickA e.a).j.epoch = o.ep := (foldA_len e.a (List.range (o.st e).sagas.length) { o.st e with clock := (o.st e).clock + 1 }).1
  have hck : ((o.st e).tickA e.a).clock = o.ck + 1 := (foldA_len e.a (List.range (o.st e).sagas.length) { o.st e with clock := (o.st e).clock + 1 }).2.2.2.2
  have hpz : ((o.st e).tickA e.a).pause = o.pz := (foldA_len e.a (List.range (o.st e).sagas.length) { o.st e with clock := (o.st e).clock + 1 }).2.2.2.1
  have hown : ∀ k, (o.tick e evs' R' lv' pl' pe').own k → o.own k ∨ w.heap.size ≤ k := by
    intro k hk'
    rcases hk' with h2 | h2 | h2 | h2 | h2 | h2 | h2 | h2 | ⟨e2, h2, h3⟩
    · exact .inl (.inl h2)
    · exact .inl (.inr (.inl h2))
    · exact .inl (.inr (.inr (.inl h2)))
    · exact .inl (.inr (.inr (.inr (.inl h2))))
    · exact (hlv k h2).imp own_lv id
    · exact hpl k h2
    · exact hpe k h2
    · exact .inl (.inr (.inr (.inr (.inr (.inr (.inr (.inr (.inl h2))))))))
    · simp only [RD.tick, Option.some.injEq] at h2
      subst h2
      exact .inl (own_x hx h3)
  have hst : ((o.tick e evs' R' lv' pl' pe').st { e with fresh := ((o.st e).tickA e.a).j.fresh }) = (o.st e).tickA e.a := by
    have key : ∀ s' : StM, s'.pause = o.pz → s'.clock = o.ck + 1 → sagasOf R' = s'.sagas → s'.j.epoch = o.ep → s'.j.en = 1 + evLen evs' → (⟨o.pz, o.ck + 1, sagasOf R', ⟨o.ep, 1 + evLen evs', s'.j.fresh⟩, s'.d, s'.p⟩ : StM) = s' := by
      rintro ⟨a1, a2, a3, ⟨b1, b2, b3⟩, a5, a6⟩ h1 h2 h3 h4 h5
      simp only at h1 h2 h3 h4 h5
      rw [h1, h2, h3, h4, h5]
    exact key _ hpz hck hR hep hen
  refine ⟨o.tick e evs' R' lv' pl' pe', ⟨?_, hdk, ?_, hpt, ?_, href, ?_, ?_⟩, hOk, ⟨rfl, rfl, rfl, rfl⟩, hown, ?_, ?_⟩
  · exact hkb
  · exact hfK.block o.pb _ hpb (by simp [kindOf])
  · intro h0
    exact h.pi (by rw [← hpl3]; exact h0)
  · intro e' he'
    simp only [RD.tick, Option.some.injEq] at he'
    subst he'
    rw [hst]
    exact ⟨hV3, (h.eng e hx).2⟩
  · intro k hk'
    rcases hown k hk' with h2 | h2
    · exact h.lo k h2
    · omega
  · refine ((hf1.mono (fun _ _ f => f.elim)).trans' hF (fun i hi h2 => h2.elim id (fun h3 => by omega))).trans' hf3 (fun i _ h2 => h2.elim (fun h3 => .inl h3) own_lv)
  · intro e' he'
    simp only [RD.tick, Option.some.injEq] at he'
    subst he'
    exact ⟨e, hx, rfl⟩
end Go.Proofs.YtkafmfdipmhleaaGreatDoor

namespace Go.Proofs.YtkafmfdipmhleaaGreatDoor
open Go.RowKit Go.Maps
set_option maxRecDepth 100000 in
set_option maxHeartbeats 2000000 in
/-- Waits. -/
theorem WaitsR_calls (w : World) (g : SagaM) (sa : Option Addr) (sn sc : Nat) (mv : Value) (clock : Int) :
    Calls Tryz.prog 144 #[.agg #[.int .i64 g.id, .slice sa sn sc, .int .i64 g.st, .int .i64 g.step, .int .i64 g.tries, .int .i64 g.due, mv], .int .i64 clock] w fun e w' => e = .returned (.bool (g.waits clock)) ∧ New w w' := by
  have hN : New w (w.alloc (.cells #[.int .i64 g.id, .slice sa sn sc, .int .i64 g.st, .int .i64 g.step, .int .i64 g.tries, .int .i64 g.due, mv] 223)) := (Fr.refl _ w).alloc _
  have hb := heap_alloc_new w (.cells #[.int .i64 g.id, .slice sa sn sc, .int .i64 g.st, .int .i64 g.step, .int .i64 g.tries, .int .i64 g.due, mv] 223)
  have HN := Lib.hid hN
  clear hN
  go_enter Tryz.func144, Tryz.ntmps144
  go_upto_region 1 with fail
  generalize w.alloc (.cells #[.int .i64 g.id, .slice sa sn sc, .int .i64 g.st, .int .i64 g.step, .int .i64 g.tries, .int .i64 g.due, mv] 223) = w1 at HN hb ⊢
  have hcv := cellv w1
  by_cases h1 : g.st ≤ 2
  · by_cases h2 : g.due ≤ clock
    · go_wp2_with fail
      go_ret
      exact ⟨by simp [SagaM.waits, h1, h2], HN.out⟩
    · go_wp2_with fail
      go_ret
      exact ⟨by simp [SagaM.waits, h1, h2], HN.out⟩
  · go_wp2_with fail
    go_ret
    exact ⟨by have h3 : ¬ g.st ≤ 2 := by omega
              simp [SagaM.waits, h3], HN.out⟩
set_option maxRecDepth 100000 in
set_option maxHeartbeats 2000000 in
/-- Moves. -/
theorem MovesR_calls (w : World) (g : SagaM) (sa : Option Addr) (sn sc : Nat) (mv : Value) (rp : Int) :
    Calls Tryz.prog 157 #[.agg #[.int .i64 g.id, .slice sa sn sc, .int .i64 g.st, .int .i64 g.step, .int .i64 g.tries, .int .i64 g.due, mv], .int .i64 rp] w fun e w' => e = .returned (.bool (g.moves rp)) ∧ New w w' := by
  have hN : New w (w.alloc (.cells #[.int .i64 g.id, .slice sa sn sc, .int .i64 g.st, .int .i64 g.step, .int .i64 g.tries, .int .i64 g.due, mv] 223)) := (Fr.refl _ w).alloc _
  have hb := heap_alloc_new w (.cells #[.int .i64 g.id, .slice sa sn sc, .int .i64 g.st, .int .i64 g.step, .int .i64 g.tries, .int .i64 g.due, mv] 223)
  have HN := Lib.hid hN
  clear hN
  go_enter Tryz.func157, Tryz.ntmps157
  go_upto_region 1 with fail
  generalize w.alloc (.cells #[.int .i64 g.id, .slice sa sn sc, .int .i64 g.st, .int .i64 g.step, .int .i64 g.tries, .int .i64 g.due, mv] 223) = w1 at HN hb ⊢
  have hcv := cellv w1
  cases h1 : (rp == 0)
  · cases h2 : (rp == 2)
    · go_wp2_with fail
      go_ret
      exact ⟨by simp [SagaM.moves, h1, h2], HN.out⟩
    · cases h3 : (g.st == 1)
      · go_wp2_with fail
        go_ret
        exact ⟨by simp [SagaM.moves, h1, h2, h3], HN.out⟩
      · go_wp2_with fail
        go_ret
        exact ⟨by simp [SagaM.moves, h1, h2, h3], HN.out⟩
  · go_wp2_with fail
    go_ret
    exact ⟨by simp [SagaM.moves, h1], HN.out⟩
end Go.Proofs.YtkafmfdipmhleaaGreatDoor

namespace Go.Proofs.YtkafmfdipmhleaaGreatDoor
open Go.RowKit Go.Maps
theorem Tryz.info220s : (Tryz.prog.info? 220).map (·.size) = some 2 := by kernel_rfl
theorem moved_end {g : SagaM} {rp : Int} (h1 : g.st = 1) (h2 : rp = 0) (h3 : g.step = g.steps.length) : (g.moved rp).st = 3 ∧ (g.moved rp).step = 0 := by
  simp only [SagaM.moved, SagaM.forward, if_pos h1, if_pos h2]
  rw [if_pos (by omega)]
  exact ⟨rfl, rfl⟩
theorem moved_on {g : SagaM} {rp : Int} (h1 : g.st = 1) (h2 : rp = 0) (h3 : g.step < g.steps.length) : (g.moved rp).st = 1 ∧ (g.moved rp).step = g.step + 1 := by
  simp only [SagaM.moved, SagaM.forward, if_pos h1, if_pos h2]
  rw [if_neg (by omega)]
  exact ⟨h1, rfl⟩
theorem moved_back {g : SagaM} {rp : Int} (h : ¬ (g.st = 1 ∧ rp = 0)) : (g.moved rp).st = (if g.step = 1 then 4 else 2) ∧ (g.moved rp).step = g.step - 1 := by
  have e : g.moved rp = ({ g with tries := 0, due := 0 } : SagaM).backward := by
    unfold SagaM.moved
    by_cases h1 : g.st = 1
    · have h2 : ¬ rp = 0 := fun e => h ⟨h1, e⟩
      simp only [if_pos h1, SagaM.forward, if_neg h2]
    · simp only [if_neg h1]
  rw [e]
  refine ⟨?_, rfl⟩
  show (if g.step - 1 = 0 then (4 : Int) else 2) = _
  by_cases h1 : g.step = 1
  · rw [if_pos (by omega), if_pos h1]
  · rw [if_neg (by omega), if_neg h1]
set_option maxRecDepth 100000 in
set_option maxHeartbeats 4000000 in
/-- Next. -/
theorem NextR_calls (w : World) (g : SagaM) (sa : Option Addr) (sc : Nat) (mv : Value) (rp : Int) (hs : 1 ≤ g.step ∧ g.step ≤ g.steps.length) (hl : g.steps.length ≤ 1000) :
    Calls Tryz.prog 158 #[.agg #[.int .i64 g.id, .slice sa g.steps.length sc, .int .i64 g.st, .int .i64 g.step, .int .i64 g.tries, .int .i64 g.due, mv], .int .i64 rp] w fun e w' => e = .returned (.agg #[.int .i64 (g.moved rp).st, .int .i64 (g.moved rp).step]) ∧ New w w' := by
  have hN : New w ((w.alloc (.cells #[.int .i64 g.id, .slice sa g.steps.length sc, .int .i64 g.st, .int .i64 g.step, .int .i64 g.tries, .int .i64 g.due, mv] 223)).alloc (.cells #[.int .i64 0, .int .i64 0] 220)) := ((Fr.refl _ w).alloc _).alloc _
  have hb := heap_alloc_keep (.cells #[.int .i64 0, .int .i64 0] 220) (heap_alloc_new w (.cells #[.int .i64 g.id, .slice sa g.steps.length sc, .int .i64 g.st, .int .i64 g.step, .int .i64 g.tries, .int .i64 g.due, mv] 223))
  have hr := heap_alloc_new (w.alloc (.cells #[.int .i64 g.id, .slice sa g.steps.length sc, .int .i64 g.st, .int .i64 g.step, .int .i64 g.tries, .int .i64 g.due, mv] 223)) (.cells #[.int .i64 0, .int .i64 0] 220)
  rw [sz_alloc] at hr
  have HN := Lib.hid hN
  have hmv : ∀ a b : Int, (g.moved rp).st = a → (g.moved rp).step = b → (Value.agg #[.int .i64 (g.moved rp).st, .int .i64 (g.moved rp).step]) = .agg #[.int .i64 a, .int .i64 b] := by
    intro a b h1 h2; rw [h1, h2]
  have Hmv := Lib.hid hmv
  have Hs := Lib.hid hs
  clear hN hmv
  go_enter Tryz.func158, Tryz.ntmps158
  go_upto_region 1 with fail
  generalize ((w.alloc (.cells #[.int .i64 g.id, .slice sa g.steps.length sc, .int .i64 g.st, .int .i64 g.step, .int .i64 g.tries, .int .i64 g.due, mv] 223)).alloc (.cells #[.int .i64 0, .int .i64 0] 220)) = w1 at HN hb hr ⊢
  have Hsz : Hid (w.heap.size = w.heap.size) := Lib.hid rfl
  generalize hX : w.heap.size = X at hb hr ⊢
  have HX := Lib.hid hX
  have Hr := Lib.hid hr
  clear hX Hsz
  have hcv := cellv w1
  have hfv := frozv w1
  have hfin : ∀ a b : Int, (g.moved rp).st = a → (g.moved rp).step = b → New w ((w1.setCell ⟨X + 1, 0, none⟩ (.int .i64 a)).setCell ⟨X + 1, 1, none⟩ (.int .i64 b)) ∧ ((w1.setCell ⟨X + 1, 0, none⟩ (.int .i64 a)).setCell ⟨X + 1, 1, none⟩ (.int .i64 b)).heap[X + 1]? = some (.cells #[.int .i64 a, .int .i64 b] 220 (0, 0)) := by
    intro a b _ _
    refine ⟨HN.out.trans' ((Fr.one (X + 1) w1 0 _).trans (Fr.one (X + 1) _ 1 _)) (fun i hi e => by have := HX.out; omega), ?_⟩
    simp only [hp_setCell, if_true, Hr.out]; rfl
  have Hfin := Lib.hid hfin
  clear hfin
  have hw1 : wrap64 (g.step + 1) = g.step + 1 := wrap_in _ (by omega)
  have hw2 : wrap64 (g.step - 1) = g.step - 1 := wrap_in _ (by omega)
  by_cases h1 : g.st = 1
  · have h1b : (g.st == 1) = true := by simp [h1]
    by_cases h2 : rp = 0
    · have h2b : (rp == 0) = true := by simp [h2]
      by_cases h3 : g.step = g.steps.length
      · have h3b : (g.step == (g.steps.length : Int)) = true := by simp [h3]
        obtain ⟨e1, e2⟩ := moved_end h1 h2 h3
        have He1 := Lib.hid e1
        have He2 := Lib.hid e2
        clear e1 e2 h1 h2 h3
        go_wp2_with fail
        refine bodyPost_ret (results_cell_row rfl _ _ (X + 1) 220 #[.int .i64 3, .int .i64 0] (0, 0) _ rfl (Hfin.out _ _ He1.out He2.out).2 Tryz.underlying220 rfl Tryz.info220s) rfl ?_
        exact ⟨by rw [Hmv.out _ _ He1.out He2.out], (Hfin.out _ _ He1.out He2.out).1⟩
      · have h3b : (g.step == (g.steps.length : Int)) = false := by simpa using h3
        obtain ⟨e1, e2⟩ := moved_on h1 h2 (by omega)
        have He1 := Lib.hid e1
        have He2 := Lib.hid e2
        clear e1 e2 h1 h2 h3
        go_wp2_with fail
        refine bodyPost_ret (results_cell_row rfl _ _ (X + 1) 220 #[.int .i64 1, .int .i64 (g.step + 1)] (0, 0) _ rfl (Hfin.out _ _ He1.out He2.out).2 Tryz.underlying220 rfl Tryz.info220s) rfl ?_
        exact ⟨by rw [Hmv.out _ _ He1.out He2.out], (Hfin.out _ _ He1.out He2.out).1⟩
    · have h2b : (rp == 0) = false := by simpa using h2
      obtain ⟨e1, e2⟩ := moved_back (g := g) (rp := rp) (fun h => h2 h.2)
      by_cases h3 : g.step = 1
      · have h3b : (g.step == 1) = true := by simp [h3]
        rw [if_pos h3] at e1
        rw [h3, show (1 : Int) - 1 = 0 by decide] at e2
        have He1 := Lib.hid e1
        have He2 := Lib.hid e2
        clear e1 e2 h1 h2 h3
        go_wp2_with fail
        refine bodyPost_ret (results_cell_row rfl _ _ (X + 1) 220 #[.int .i64 4, .int .i64 0] (0, 0) _ rfl (Hfin.out _ _ He1.out He2.out).2 Tryz.underlying220 rfl Tryz.info220s) rfl ?_
        exact ⟨by rw [Hmv.out _ _ He1.out He2.out], (Hfin.out _ _ He1.out He2.out).1⟩
      · have h3b : (g.step == 1) = false := by simpa using h3
        rw [if_neg h3] at e1
        have He1 := Lib.hid e1
        have He2 := Lib.hid e2
        clear e1 e2 h1 h2 h3
        go_wp2_with fail
        refine bodyPost_ret (results_cell_row rfl _ _ (X + 1) 220 #[.int .i64 2, .int .i64 (g.step - 1)] (0, 0) _ rfl (Hfin.out _ _ He1.out He2.out).2 Tryz.underlying220 rfl Tryz.info220s) rfl ?_
        exact ⟨by rw [Hmv.out _ _ He1.out He2.out], (Hfin.out _ _ He1.out He2.out).1⟩
  · have h1b : (g.st == 1) = false := by simpa using h1
    obtain ⟨e1, e2⟩ := moved_back (g := g) (rp := rp) (fun h => h1 h.1)
    by_cases h3 : g.step = 1
    · have h3b : (g.step == 1) = true := by simp [h3]
      rw [if_pos h3] at e1
      rw [h3, show (1 : Int) - 1 = 0 by decide] at e2
      have He1 := Lib.hid e1
      have He2 := Lib.hid e2
      clear e1 e2 h1 h3
      go_wp2_with fail
      refine bodyPost_ret (results_cell_row rfl _ _ (X + 1) 220 #[.int .i64 4, .int .i64 0] (0, 0) _ rfl (Hfin.out _ _ He1.out He2.out).2 Tryz.underlying220 rfl Tryz.info220s) rfl ?_
      exact ⟨by rw [Hmv.out _ _ He1.out He2.out], (Hfin.out _ _ He1.out He2.out).1⟩
    · have h3b : (g.step == 1) = false := by simpa using h3
      rw [if_neg h3] at e1
      have He1 := Lib.hid e1
      have He2 := Lib.hid e2
      clear e1 e2 h1 h3
      go_wp2_with fail
      refine bodyPost_ret (results_cell_row rfl _ _ (X + 1) 220 #[.int .i64 2, .int .i64 (g.step - 1)] (0, 0) _ rfl (Hfin.out _ _ He1.out He2.out).2 Tryz.underlying220 rfl Tryz.info220s) rfl ?_
      exact ⟨by rw [Hmv.out _ _ He1.out He2.out], (Hfin.out _ _ He1.out He2.out).1⟩
end Go.Proofs.YtkafmfdipmhleaaGreatDoor

namespace Go.Proofs.YtkafmfdipmhleaaGreatDoor
open Go.RowKit Go.Maps
theorem Tryz.info223s : (Tryz.prog.info? 223).map (·.size) = some 7 := by kernel_rfl
theorem pow_cast (n : Nat) : ((2 ^ n : Nat) : Int) = (2 : Int) ^ n := by
  induction n with
  | zero => rfl
  | succ n ih => rw [Nat.pow_succ, Int.pow_succ, ← ih]; rfl
theorem pow_small {j : Nat} {W : Int} (h : W = 2 ^ j) (h1 : W < 64) : j ≤ 5 := by
  rcases Nat.lt_or_ge j 6 with h2 | h2
  · omega
  · have h3 := Nat.pow_le_pow_right (show 0 < 2 by omega) h2
    rw [← pow_cast] at h
    have : (2 : Nat) ^ 6 = 64 := rfl
    omega
theorem vain_meas {t : Int} {j : Nat} (h : 1 + (j : Int) < t + 1) : (t + 1 - (1 + (j : Int) + 1)).toNat < (t + 1 - (1 + (j : Int))).toNat := by omega
theorem vain_min {j : Nat} {W tries pause : Int} (h : W = 2 ^ j) (h6 : j ≤ 6) (hj : (j : Int) ≤ tries) (hp : 1 ≤ pause ∧ pause ≤ 64) (he : ¬ (1 + (j : Int) < tries + 1) ∨ ¬ W < pause) : (if pause < W then pause else W) = min (2 ^ (min tries 20).toNat) pause := by
  rcases he with he | he
  · have e : (min tries 20).toNat = j := by omega
    rw [e, ← h]
    split <;> omega
  · have h3 := Nat.pow_le_pow_right (show 0 < 2 by omega) (show j ≤ (min tries 20).toNat by omega)
    rw [← pow_cast] at h ⊢
    generalize (2 : Nat) ^ (min tries 20).toNat = N at h3 ⊢
    generalize (2 : Nat) ^ j = M at h3 h
    split <;> omega
set_option maxRecDepth 100000 in
set_option maxHeartbeats 4000000 in
/-- Vain. -/
theorem VainR_calls (w : World) (g : SagaM) (sa ma : Option Addr) (sn sc mn mc : Nat) (clock pause : Int) (hp : 1 ≤ pause ∧ pause ≤ 64) (ht : 0 ≤ g.tries ∧ g.tries < 2 ^ 30) :
    Calls Tryz.prog 145 #[.agg #[.int .i64 g.id, .slice sa sn sc, .int .i64 g.st, .int .i64 g.step, .int .i64 g.tries, .int .i64 g.due, .slice ma mn mc], .int .i64 clock, .int .i64 pause] w fun e w' => e = .returned (.agg #[.int .i64 g.id, .slice sa sn sc, .int .i64 g.st, .int .i64 g.step, .int .i64 (g.paused clock pause).tries, .int .i64 (g.paused clock pause).due, .slice ma mn mc]) ∧ New w w' := by
  have hN : New w ((w.alloc (.cells #[.int .i64 g.id, .slice sa sn sc, .int .i64 g.st, .int .i64 g.step, .int .i64 g.tries, .int .i64 g.due, .slice ma mn mc] 223)).alloc (.cells #[.int .i64 0, .slice none 0 0, .int .i64 0, .int .i64 0, .int .i64 0, .int .i64 0, .slice none 0 0] 223)) := ((Fr.refl _ w).alloc _).alloc _
  have hb := heap_alloc_keep (.cells #[.int .i64 0, .slice none 0 0, .int .i64 0, .int .i64 0, .int .i64 0, .int .i64 0, .slice none 0 0] 223) (heap_alloc_new w (.cells #[.int .i64 g.id, .slice sa sn sc, .int .i64 g.st, .int .i64 g.step, .int .i64 g.tries, .int .i64 g.due, .slice ma mn mc] 223))
  have hr := heap_alloc_new (w.alloc (.cells #[.int .i64 g.id, .slice sa sn sc, .int .i64 g.st, .int .i64 g.step, .int .i64 g.tries, .int .i64 g.due, .slice ma mn mc] 223)) (.cells #[.int .i64 0, .slice none 0 0, .int .i64 0, .int .i64 0, .int .i64 0, .int .i64 0, .slice none 0 0] 223)
  rw [sz_alloc] at hr
  have hwt : wrap64 (g.tries + 1) = g.tries + 1 := wrap_in _ (by omega)
  have htp : (g.paused clock pause).tries = g.tries + 1 := hwt
  rw [htp]
  have HN := Lib.hid hN
  have Ht := Lib.hid ht
  have Hp := Lib.hid hp
  clear hN ht hp htp
  go_enter Tryz.func145, Tryz.ntmps145
  go_upto_region 1 with fail
  generalize ((w.alloc (.cells #[.int .i64 g.id, .slice sa sn sc, .int .i64 g.st, .int .i64 g.step, .int .i64 g.tries, .int .i64 g.due, .slice ma mn mc] 223)).alloc (.cells #[.int .i64 0, .slice none 0 0, .int .i64 0, .int .i64 0, .int .i64 0, .int .i64 0, .slice none 0 0] 223)) = w1 at HN hb hr ⊢
  have Hsz : Hid (w.heap.size = w.heap.size) := Lib.hid rfl
  generalize hX : w.heap.size = X at hb hr ⊢
  have HX := Lib.hid hX
  clear hX Hsz
  have hcv := cellv w1
  have hfv := frozv w1
  go_upto_region 2 with fail
  have hF2 : Fr (fun i => i = X ∨ i = X + 1) w1 (w1.setCell ⟨X, 4, none⟩ (.int .i64 (g.tries + 1))) := (Fr.refl _ w1).setCell (fun _ => .inl rfl) _ _
  have hb2 : (w1.setCell ⟨X, 4, none⟩ (.int .i64 (g.tries + 1))).heap[X]? = some (.cells #[.int .i64 g.id, .slice sa sn sc, .int .i64 g.st, .int .i64 g.step, .int .i64 (g.tries + 1), .int .i64 g.due, .slice ma mn mc] 223 (0, 0)) := by
    simp only [hp_setCell, if_true, hb]; rfl
  have hr2 := (Fr.one X w1 4 (.int .i64 (g.tries + 1))).get hr (show ¬ X + 1 = X by omega)
  generalize w1.setCell ⟨X, 4, none⟩ (.int .i64 (g.tries + 1)) = w2 at hF2 hb2 hr2 ⊢
  have HF2 := Lib.hid hF2
  have Hr2 := Lib.hid hr2
  have hXX : ¬ X = X + 1 := by omega
  have hXX2 : ¬ X + 1 = X := by omega
  clear hF2 hb hr hcv hfv
  have hcv := cellv w2
  have hfv := frozv w2
  go_wp2_with fail
  go_loopw [7, 8] (fun wv iv wr => ∃ (j : Nat) (W : Int), wv = .int .i64 W ∧ iv = .int .i64 (1 + (j : Int)) ∧ W = 2 ^ j ∧ j ≤ 6 ∧ (j : Int) ≤ g.tries ∧ wr = w2) (fun _ i _ => (g.tries + 1 - intOf i).toNat)
  case atStart => exact ⟨0, 1, rfl, by go_num, (Int.pow_zero 2).symm, by omega, by have := Ht.out.1; omega, by trivial⟩
  case round =>
    obtain ⟨j, W, rfl, rfl, hW, hj6, hjt, rfl⟩ := hrel
    have Hj6 := Lib.hid hj6
    have HW := Lib.hid hW
    have Hjt := Lib.hid hjt
    by_cases h1 : 1 + (j : Int) < g.tries + 1
    · by_cases h2 : W < pause
      · have hW0 : 0 ≤ W := by rw [hW]; exact Int.le_of_lt (Int.pow_pos (by omega))
        have hj5 : j ≤ 5 := pow_small hW (by have := Hp.out; omega)
        have hw2 : wrap64 (2 * W) = 2 * W := wrap_in _ (by have := Hp.out; omega)
        have hwj : wrap64 (1 + (j : Int) + 1) = 1 + (j : Int) + 1 := wrap_in _ (by omega)
        have Hj5 := Lib.hid hj5
        have H1 := Lib.hid h1
        clear hW hj6 hjt hW0 hj5
        go_wp2_with fail
        go_roundw
        case rel => exact ⟨j + 1, 2 * W, by go_num, by go_num, by rw [HW.out, Int.pow_succ, Int.mul_comm], by have := Hj5.out; omega, by have := H1.out; omega, by trivial⟩
        case measure => rw [hwj]; exact vain_meas H1.out
      · have hmin := vain_min hW hj6 hjt Hp.out (.inr h2)
        by_cases h3 : pause < W
        · rw [if_pos h3] at hmin
          have hdue : (g.paused clock pause).due = wrap64 (clock + pause) := (show (g.paused clock pause).due = wrap64 (clock + min (2 ^ (min g.tries 20).toNat) pause) from rfl).trans (by rw [← hmin])
          have Hdue := Lib.hid hdue
          have hfin : New w ((((((((wr.setCell ⟨X, 5, none⟩ (.int .i64 (wrap64 (clock + pause)))).setCell ⟨X + 1, 0, none⟩ (.int .i64 g.id)).setCell ⟨X + 1, 1, none⟩ (.slice sa sn sc)).setCell ⟨X + 1, 2, none⟩ (.int .i64 g.st)).setCell ⟨X + 1, 3, none⟩ (.int .i64 g.step)).setCell ⟨X + 1, 4, none⟩ (.int .i64 (g.tries + 1))).setCell ⟨X + 1, 5, none⟩ (.int .i64 (wrap64 (clock + pause)))).setCell ⟨X + 1, 6, none⟩ (.slice ma mn mc)) ∧ ((((((((wr.setCell ⟨X, 5, none⟩ (.int .i64 (wrap64 (clock + pause)))).setCell ⟨X + 1, 0, none⟩ (.int .i64 g.id)).setCell ⟨X + 1, 1, none⟩ (.slice sa sn sc)).setCell ⟨X + 1, 2, none⟩ (.int .i64 g.st)).setCell ⟨X + 1, 3, none⟩ (.int .i64 g.step)).setCell ⟨X + 1, 4, none⟩ (.int .i64 (g.tries + 1))).setCell ⟨X + 1, 5, none⟩ (.int .i64 (wrap64 (clock + pause)))).setCell ⟨X + 1, 6, none⟩ (.slice ma mn mc)).heap[X + 1]? = some (.cells #[.int .i64 g.id, .slice sa sn sc, .int .i64 g.st, .int .i64 g.step, .int .i64 (g.tries + 1), .int .i64 (wrap64 (clock + pause)), .slice ma mn mc] 223 (0, 0)) := by
            refine ⟨HN.out.trans' (HF2.out.trans (((((((((Fr.refl (fun i => i = X ∨ i = X + 1) wr).setCell (fun _ => .inl rfl) _ _).setCell (fun _ => .inr rfl) _ _).setCell (fun _ => .inr rfl) _ _).setCell (fun _ => .inr rfl) _ _).setCell (fun _ => .inr rfl) _ _).setCell (fun _ => .inr rfl) _ _).setCell (fun _ => .inr rfl) _ _).setCell (fun _ => .inr rfl) _ _)) (fun i hi e => by have := HX.out; omega), ?_⟩
            simp only [hp_setCell, if_true, if_neg (show ¬ X + 1 = X by omega), Hr2.out]; rfl
          have Hfin := Lib.hid hfin
          clear hfin hdue hmin hW hj6 hjt
          go_wp2_with fail
          refine bodyPost_ret (results_cell_row rfl _ _ (X + 1) 223 #[.int .i64 g.id, .slice sa sn sc, .int .i64 g.st, .int .i64 g.step, .int .i64 (g.tries + 1), .int .i64 (wrap64 (clock + pause)), .slice ma mn mc] (0, 0) _ rfl Hfin.out.2 Tryz.underlying223 rfl Tryz.info223s) rfl ?_
          exact ⟨by rw [Hdue.out], Hfin.out.1⟩
        · rw [if_neg h3] at hmin
          have hdue : (g.paused clock pause).due = wrap64 (clock + W) := (show (g.paused clock pause).due = wrap64 (clock + min (2 ^ (min g.tries 20).toNat) pause) from rfl).trans (by rw [← hmin])
          have Hdue := Lib.hid hdue
          have hfin : New w ((((((((wr.setCell ⟨X, 5, none⟩ (.int .i64 (wrap64 (clock + W)))).setCell ⟨X + 1, 0, none⟩ (.int .i64 g.id)).setCell ⟨X + 1, 1, none⟩ (.slice sa sn sc)).setCell ⟨X + 1, 2, none⟩ (.int .i64 g.st)).setCell ⟨X + 1, 3, none⟩ (.int .i64 g.step)).setCell ⟨X + 1, 4, none⟩ (.int .i64 (g.tries + 1))).setCell ⟨X + 1, 5, none⟩ (.int .i64 (wrap64 (clock + W)))).setCell ⟨X + 1, 6, none⟩ (.slice ma mn mc)) ∧ ((((((((wr.setCell ⟨X, 5, none⟩ (.int .i64 (wrap64 (clock + W)))).setCell ⟨X + 1, 0, none⟩ (.int .i64 g.id)).setCell ⟨X + 1, 1, none⟩ (.slice sa sn sc)).setCell ⟨X + 1, 2, none⟩ (.int .i64 g.st)).setCell ⟨X + 1, 3, none⟩ (.int .i64 g.step)).setCell ⟨X + 1, 4, none⟩ (.int .i64 (g.tries + 1))).setCell ⟨X + 1, 5, none⟩ (.int .i64 (wrap64 (clock + W)))).setCell ⟨X + 1, 6, none⟩ (.slice ma mn mc)).heap[X + 1]? = some (.cells #[.int .i64 g.id, .slice sa sn sc, .int .i64 g.st, .int .i64 g.step, .int .i64 (g.tries + 1), .int .i64 (wrap64 (clock + W)), .slice ma mn mc] 223 (0, 0)) := by
            refine ⟨HN.out.trans' (HF2.out.trans (((((((((Fr.refl (fun i => i = X ∨ i = X + 1) wr).setCell (fun _ => .inl rfl) _ _).setCell (fun _ => .inr rfl) _ _).setCell (fun _ => .inr rfl) _ _).setCell (fun _ => .inr rfl) _ _).setCell (fun _ => .inr rfl) _ _).setCell (fun _ => .inr rfl) _ _).setCell (fun _ => .inr rfl) _ _).setCell (fun _ => .inr rfl) _ _)) (fun i hi e => by have := HX.out; omega), ?_⟩
            simp only [hp_setCell, if_true, if_neg (show ¬ X + 1 = X by omega), Hr2.out]; rfl
          have Hfin := Lib.hid hfin
          clear hfin hdue hmin hW hj6 hjt
          go_wp2_with fail
          refine bodyPost_ret (results_cell_row rfl _ _ (X + 1) 223 #[.int .i64 g.id, .slice sa sn sc, .int .i64 g.st, .int .i64 g.step, .int .i64 (g.tries + 1), .int .i64 (wrap64 (clock + W)), .slice ma mn mc] (0, 0) _ rfl Hfin.out.2 Tryz.underlying223 rfl Tryz.info223s) rfl ?_
          exact ⟨by rw [Hdue.out], Hfin.out.1⟩
    · have hmin := vain_min hW hj6 hjt Hp.out (.inl h1)
      by_cases h3 : pause < W
      · rw [if_pos h3] at hmin
        have hdue : (g.paused clock pause).due = wrap64 (clock + pause) := (show (g.paused clock pause).due = wrap64 (clock + min (2 ^ (min g.tries 20).toNat) pause) from rfl).trans (by rw [← hmin])
        have Hdue := Lib.hid hdue
        have hfin : New w ((((((((wr.setCell ⟨X, 5, none⟩ (.int .i64 (wrap64 (clock + pause)))).setCell ⟨X + 1, 0, none⟩ (.int .i64 g.id)).setCell ⟨X + 1, 1, none⟩ (.slice sa sn sc)).setCell ⟨X + 1, 2, none⟩ (.int .i64 g.st)).setCell ⟨X + 1, 3, none⟩ (.int .i64 g.step)).setCell ⟨X + 1, 4, none⟩ (.int .i64 (g.tries + 1))).setCell ⟨X + 1, 5, none⟩ (.int .i64 (wrap64 (clock + pause)))).setCell ⟨X + 1, 6, none⟩ (.slice ma mn mc)) ∧ ((((((((wr.setCell ⟨X, 5, none⟩ (.int .i64 (wrap64 (clock + pause)))).setCell ⟨X + 1, 0, none⟩ (.int .i64 g.id)).setCell ⟨X + 1, 1, none⟩ (.slice sa sn sc)).setCell ⟨X + 1, 2, none⟩ (.int .i64 g.st)).setCell ⟨X + 1, 3, none⟩ (.int .i64 g.step)).setCell ⟨X + 1, 4, none⟩ (.int .i64 (g.tries + 1))).setCell ⟨X + 1, 5, none⟩ (.int .i64 (wrap64 (clock + pause)))).setCell ⟨X + 1, 6, none⟩ (.slice ma mn mc)).heap[X + 1]? = some (.cells #[.int .i64 g.id, .slice sa sn sc, .int .i64 g.st, .int .i64 g.step, .int .i64 (g.tries + 1), .int .i64 (wrap64 (clock + pause)), .slice ma mn mc] 223 (0, 0)) := by
          refine ⟨HN.out.trans' (HF2.out.trans (((((((((Fr.refl (fun i => i = X ∨ i = X + 1) wr).setCell (fun _ => .inl rfl) _ _).setCell (fun _ => .inr rfl) _ _).setCell (fun _ => .inr rfl) _ _).setCell (fun _ => .inr rfl) _ _).setCell (fun _ => .inr rfl) _ _).setCell (fun _ => .inr rfl) _ _).setCell (fun _ => .inr rfl) _ _).setCell (fun _ => .inr rfl) _ _)) (fun i hi e => by have := HX.out; omega), ?_⟩
          simp only [hp_setCell, if_true, if_neg (show ¬ X + 1 = X by omega), Hr2.out]; rfl
        have Hfin := Lib.hid hfin
        clear hfin hdue hmin hW hj6 hjt
        go_wp2_with fail
        refine bodyPost_ret (results_cell_row rfl _ _ (X + 1) 223 #[.int .i64 g.id, .slice sa sn sc, .int .i64 g.st, .int .i64 g.step, .int .i64 (g.tries + 1), .int .i64 (wrap64 (clock + pause)), .slice ma mn mc] (0, 0) _ rfl Hfin.out.2 Tryz.underlying223 rfl Tryz.info223s) rfl ?_
        exact ⟨by rw [Hdue.out], Hfin.out.1⟩
      · rw [if_neg h3] at hmin
        have hdue : (g.paused clock pause).due = wrap64 (clock + W) := (show (g.paused clock pause).due = wrap64 (clock + min (2 ^ (min g.tries 20).toNat) pause) from rfl).trans (by rw [← hmin])
        have Hdue := Lib.hid hdue
        have hfin : New w ((((((((wr.setCell ⟨X, 5, none⟩ (.int .i64 (wrap64 (clock + W)))).setCell ⟨X + 1, 0, none⟩ (.int .i64 g.id)).setCell ⟨X + 1, 1, none⟩ (.slice sa sn sc)).setCell ⟨X + 1, 2, none⟩ (.int .i64 g.st)).setCell ⟨X + 1, 3, none⟩ (.int .i64 g.step)).setCell ⟨X + 1, 4, none⟩ (.int .i64 (g.tries + 1))).setCell ⟨X + 1, 5, none⟩ (.int .i64 (wrap64 (clock + W)))).setCell ⟨X + 1, 6, none⟩ (.slice ma mn mc)) ∧ ((((((((wr.setCell ⟨X, 5, none⟩ (.int .i64 (wrap64 (clock + W)))).setCell ⟨X + 1, 0, none⟩ (.int .i64 g.id)).setCell ⟨X + 1, 1, none⟩ (.slice sa sn sc)).setCell ⟨X + 1, 2, none⟩ (.int .i64 g.st)).setCell ⟨X + 1, 3, none⟩ (.int .i64 g.step)).setCell ⟨X + 1, 4, none⟩ (.int .i64 (g.tries + 1))).setCell ⟨X + 1, 5, none⟩ (.int .i64 (wrap64 (clock + W)))).setCell ⟨X + 1, 6, none⟩ (.slice ma mn mc)).heap[X + 1]? = some (.cells #[.int .i64 g.id, .slice sa sn sc, .int .i64 g.st, .int .i64 g.step, .int .i64 (g.tries + 1), .int .i64 (wrap64 (clock + W)), .slice ma mn mc] 223 (0, 0)) := by
          refine ⟨HN.out.trans' (HF2.out.trans (((((((((Fr.refl (fun i => i = X ∨ i = X + 1) wr).setCell (fun _ => .inl rfl) _ _).setCell (fun _ => .inr rfl) _ _).setCell (fun _ => .inr rfl) _ _).setCell (fun _ => .inr rfl) _ _).setCell (fun _ => .inr rfl) _ _).setCell (fun _ => .inr rfl) _ _).setCell (fun _ => .inr rfl) _ _).setCell (fun _ => .inr rfl) _ _)) (fun i hi e => by have := HX.out; omega), ?_⟩
          simp only [hp_setCell, if_true, if_neg (show ¬ X + 1 = X by omega), Hr2.out]; rfl
        have Hfin := Lib.hid hfin
        clear hfin hdue hmin hW hj6 hjt
        go_wp2_with fail
        refine bodyPost_ret (results_cell_row rfl _ _ (X + 1) 223 #[.int .i64 g.id, .slice sa sn sc, .int .i64 g.st, .int .i64 g.step, .int .i64 (g.tries + 1), .int .i64 (wrap64 (clock + W)), .slice ma mn mc] (0, 0) _ rfl Hfin.out.2 Tryz.underlying223 rfl Tryz.info223s) rfl ?_
        exact ⟨by rw [Hdue.out], Hfin.out.1⟩
end Go.Proofs.YtkafmfdipmhleaaGreatDoor

namespace Go.Proofs.YtkafmfdipmhleaaGreatDoor
open Go.RowKit Go.Maps
theorem moved_due (g : SagaM) (rp : Int) : (g.moved rp).due = 0 := by
  by_cases h1 : g.st = 1 <;> by_cases h2 : rp = 0 <;> by_cases h3 : (g.steps.length : Int) < g.step + 1 <;> simp [SagaM.moved, SagaM.forward, SagaM.backward, h1, h2, h3]
/-- A saga behind a reply. -/
def SagaM.after (g : SagaM) (ck pz rp : Int) : SagaM := if g.moves rp = false then g.paused ck pz else g.moved rp
set_option maxRecDepth 100000 in
set_option maxHeartbeats 4000000 in
theorem replied_calls {w : World} {kb : Nat} {c0 c1 c2 c3 c4 c5 lv : Value} {g : SagaM} {sa : Option Addr} {sc : Nat} {mv : Value} {pz ck rp : Int}
    (hk : w.heap[kb]? = some (.cells #[c0, c1, c2, c3, c4, c5, .int .i64 pz, .int .i64 ck, .bool false, lv] 165 (0, 0))) (hp : 1 ≤ pz ∧ pz ≤ 64) (ht : 0 ≤ g.tries ∧ g.tries < 2 ^ 30) (hs : 1 ≤ g.step ∧ g.step ≤ g.steps.length) (hl : g.steps.length ≤ 1000) (hm : MayR w mv g.st g.step) :
    Calls Tryz.prog 148 #[.pointer (some ⟨kb, 0, none⟩), .agg #[.int .i64 g.id, .slice sa g.steps.length sc, .int .i64 g.st, .int .i64 g.step, .int .i64 g.tries, .int .i64 g.due, mv], .int .i64 rp, .bool false] w fun e w' => New w w' ∧ ∃ mv', e = .returned (.agg #[.int .i64 g.id, .slice sa g.steps.length sc, .int .i64 (g.after ck pz rp).st, .int .i64 (g.after ck pz rp).step, .int .i64 (g.after ck pz rp).tries, .int .i64 (g.after ck pz rp).due, mv']) ∧ MayR w' mv' (g.after ck pz rp).st (g.after ck pz rp).step := by
  obtain ⟨mb, mc, mcs, rfl, hm1, hm2, hm3⟩ := hm
  have hN : New w ((w.alloc (.cells #[.int .i64 g.id, .slice sa g.steps.length sc, .int .i64 g.st, .int .i64 g.step, .int .i64 g.tries, .int .i64 g.due, .slice (some ⟨mb, 0, none⟩) 1 mc] 223)).alloc (.cells #[.int .i64 0, .slice none 0 0, .int .i64 0, .int .i64 0, .int .i64 0, .int .i64 0, .slice none 0 0] 223)) := ((Fr.refl _ w).alloc _).alloc _
  have hb := heap_alloc_keep (.cells #[.int .i64 0, .slice none 0 0, .int .i64 0, .int .i64 0, .int .i64 0, .int .i64 0, .slice none 0 0] 223) (heap_alloc_new w (.cells #[.int .i64 g.id, .slice sa g.steps.length sc, .int .i64 g.st, .int .i64 g.step, .int .i64 g.tries, .int .i64 g.due, .slice (some ⟨mb, 0, none⟩) 1 mc] 223))
  have hr := heap_alloc_new (w.alloc (.cells #[.int .i64 g.id, .slice sa g.steps.length sc, .int .i64 g.st, .int .i64 g.step, .int .i64 g.tries, .int .i64 g.due, .slice (some ⟨mb, 0, none⟩) 1 mc] 223)) (.cells #[.int .i64 0, .slice none 0 0, .int .i64 0, .int .i64 0, .int .i64 0, .int .i64 0, .slice none 0 0] 223)
  rw [sz_alloc] at hr
  have hk1 := hN.get hk (fun f => f)
  have hm11 := hN.get hm1 (fun f => f)
  have HN := Lib.hid hN
  have Ht := Lib.hid ht
  have Hp := Lib.hid hp
  have Hs := Lib.hid hs
  have Hl := Lib.hid hl
  have Hm2 := Lib.hid hm2
  have Hm3 := Lib.hid hm3
  clear hN ht hp hk hm1 hm2 hm3 hs hl
  go_enter Tryz.func148, Tryz.ntmps148
  go_upto_region 1 with fail
  generalize ((w.alloc (.cells #[.int .i64 g.id, .slice sa g.steps.length sc, .int .i64 g.st, .int .i64 g.step, .int .i64 g.tries, .int .i64 g.due, .slice (some ⟨mb, 0, none⟩) 1 mc] 223)).alloc (.cells #[.int .i64 0, .slice none 0 0, .int .i64 0, .int .i64 0, .int .i64 0, .int .i64 0, .slice none 0 0] 223)) = w1 at HN hb hr hk1 hm11 ⊢
  have Hsz : Hid (w.heap.size = w.heap.size) := Lib.hid rfl
  generalize hX : w.heap.size = X at hb hr ⊢
  have HX := Lib.hid hX
  clear hX Hsz
  have hcv := cellv w1
  have HMo := Lib.hid (MovesR_calls w1 g sa g.steps.length sc (.slice (some ⟨mb, 0, none⟩) 1 mc) rp)
  have Hhb := Lib.hid hb
  have Hhr := Lib.hid hr
  have Hhk := Lib.hid hk1
  have Hhm := Lib.hid hm11
  cases hmo : g.moves rp
  · rw [hmo] at HMo
    go_upto_region 3 with (first
      | (go_at_call 157; refine Calls.mono HMo.out ?_; rintro e w2 ⟨rfl, hf2⟩)
      | fail)
    have hb2 := hf2.get Hhb.out (fun f => f)
    have hr2 := hf2.get Hhr.out (fun f => f)
    have hk2 := hf2.get Hhk.out (fun f => f)
    have HN2 := Lib.hid (HN.out.trans hf2)
    have Hm2x := Lib.hid (hf2.get Hhm.out (fun f => f))
    clear hb hr hk1 hm11 hcv hf2
    have hcv := cellv w2
    have hfv := frozv w2
    have HV := Lib.hid (fun (w' : World) => VainR_calls w' g sa (some ⟨mb, 0, none⟩) g.steps.length sc 1 mc ck pz Hp.out Ht.out)
    have hr2d : w2.drew.heap[X + 1]? = _ := hr2
    have HNd : Hid (New w w2.drew) := HN2.out.drew
    have Hmd : Hid (w2.drew.heap[mb]? = _) := Hm2x.out
    go_still_tail 11, (by kernel_rfl)
    change wpList _ _ _ _ _ w2.drew
    clear hcv hfv hb2 hk2 hr2 HN2 Hm2x
    generalize w2.drew = w3 at hr2d HNd Hmd ⊢
    have Hr3 := Lib.hid hr2d
    go_wp2_with (first
      | (go_at_call 145; refine Calls.mono (HV.out _) ?_; rintro e w4 ⟨rfl, hf4⟩; have hr4 := hf4.get Hr3.out (fun f => f); have hfv4 := frozv w4; have hcv4 := cellv w4; have Hr4 := Lib.hid hr4)
      | fail)
    have hfin : New w (((((((w4.setCell ⟨X + 1, 0, none⟩ (.int .i64 g.id)).setCell ⟨X + 1, 1, none⟩ (.slice sa g.steps.length sc)).setCell ⟨X + 1, 2, none⟩ (.int .i64 g.st)).setCell ⟨X + 1, 3, none⟩ (.int .i64 g.step)).setCell ⟨X + 1, 4, none⟩ (.int .i64 (g.paused ck pz).tries)).setCell ⟨X + 1, 5, none⟩ (.int .i64 (g.paused ck pz).due)).setCell ⟨X + 1, 6, none⟩ (.slice (some ⟨mb, 0, none⟩) 1 mc)) ∧ (((((((w4.setCell ⟨X + 1, 0, none⟩ (.int .i64 g.id)).setCell ⟨X + 1, 1, none⟩ (.slice sa g.steps.length sc)).setCell ⟨X + 1, 2, none⟩ (.int .i64 g.st)).setCell ⟨X + 1, 3, none⟩ (.int .i64 g.step)).setCell ⟨X + 1, 4, none⟩ (.int .i64 (g.paused ck pz).tries)).setCell ⟨X + 1, 5, none⟩ (.int .i64 (g.paused ck pz).due)).setCell ⟨X + 1, 6, none⟩ (.slice (some ⟨mb, 0, none⟩) 1 mc)).heap[X + 1]? = some (.cells #[.int .i64 g.id, .slice sa g.steps.length sc, .int .i64 g.st, .int .i64 g.step, .int .i64 (g.paused ck pz).tries, .int .i64 (g.paused ck pz).due, .slice (some ⟨mb, 0, none⟩) 1 mc] 223 (0, 0)) := by
      refine ⟨(HNd.out.trans hf4).trans' (T := fun i => i = X + 1) ((((((((Fr.refl (fun i => i = X + 1) w4).setCell (fun _ => rfl) _ _).setCell (fun _ => rfl) _ _).setCell (fun _ => rfl) _ _).setCell (fun _ => rfl) _ _).setCell (fun _ => rfl) _ _).setCell (fun _ => rfl) _ _).setCell (fun _ => rfl) _ _) (fun i hi e => by have := HX.out; omega), ?_⟩
      simp only [hp_setCell, if_true, Hr4.out]; rfl
    have Hfin := Lib.hid hfin
    have hmX : ¬ mb = X + 1 := by
      rintro rfl
      have h1 := Hmd.out
      rw [Hr3.out] at h1
      simp at h1
    have haf : g.after ck pz rp = g.paused ck pz := by unfold SagaM.after; rw [if_pos hmo]
    have hmE : MayR (((((((w4.setCell ⟨X + 1, 0, none⟩ (.int .i64 g.id)).setCell ⟨X + 1, 1, none⟩ (.slice sa g.steps.length sc)).setCell ⟨X + 1, 2, none⟩ (.int .i64 g.st)).setCell ⟨X + 1, 3, none⟩ (.int .i64 g.step)).setCell ⟨X + 1, 4, none⟩ (.int .i64 (g.paused ck pz).tries)).setCell ⟨X + 1, 5, none⟩ (.int .i64 (g.paused ck pz).due)).setCell ⟨X + 1, 6, none⟩ (.slice (some ⟨mb, 0, none⟩) 1 mc)) (.slice (some ⟨mb, 0, none⟩) 1 mc) (g.after ck pz rp).st (g.after ck pz rp).step := by
      refine ⟨mb, mc, mcs, rfl, ?_, ?_, ?_⟩
      · simp only [hp_setCell, if_neg hmX]
        exact hf4.get Hmd.out (fun f => f)
      · rw [haf]; exact Hm2.out
      · rw [haf]; exact Hm3.out
    clear hfin
    refine bodyPost_ret (results_cell_row rfl _ _ (X + 1) 223 #[.int .i64 g.id, .slice sa g.steps.length sc, .int .i64 g.st, .int .i64 g.step, .int .i64 (g.paused ck pz).tries, .int .i64 (g.paused ck pz).due, .slice (some ⟨mb, 0, none⟩) 1 mc] (0, 0) _ rfl Hfin.out.2 Tryz.underlying223 rfl Tryz.info223s) rfl ?_
    exact ⟨Hfin.out.1, _, by rw [haf]; rfl, hmE⟩
  · rw [hmo] at HMo
    have HNx := Lib.hid (fun (w' : World) => NextR_calls w' g sa sc (.slice (some ⟨mb, 0, none⟩) 1 mc) rp Hs.out Hl.out)
    go_upto_region 5 with (first
      | (go_at_call 157; refine Calls.mono HMo.out ?_; rintro e w2 ⟨rfl, hf2⟩; have hb2 := hf2.get Hhb.out (fun f => f); have hcv2 := cellv w2)
      | (go_at_call 158; refine Calls.mono (HNx.out _) ?_; rintro e w3 ⟨rfl, hf3⟩)
      | fail)
    have hf23 := hf2.trans hf3
    have hN4 : New w1 (w3.alloc (.cells #[.int .i64 (g.moved rp).st, .int .i64 (g.moved rp).step] 220)) := hf23.alloc _
    have hy4 := heap_alloc_new w3 (.cells #[.int .i64 (g.moved rp).st, .int .i64 (g.moved rp).step] 220)
    have hsz := hf23.size
    have hXs := lt_of_hp Hhr.out
    generalize w3.alloc (.cells #[.int .i64 (g.moved rp).st, .int .i64 (g.moved rp).step] 220) = w4 at hN4 hy4 ⊢
    have hXY : X + 1 < w3.heap.size := by omega
    generalize w3.heap.size = Y at hy4 hXY ⊢
    have hb4 := hN4.get Hhb.out (fun f => f)
    have hr4 := hN4.get Hhr.out (fun f => f)
    have HN4 := Lib.hid (HN.out.trans hN4)
    have HXY := Lib.hid hXY
    have Hr4 := Lib.hid hr4
    clear hb hr hk1 hm11 hcv hf2 hf3 hf23 hb2 hcv2 hN4 hsz hXs
    have hcv := cellv w4
    have hfv := frozv w4
    go_upto_region 11 with fail
    have hF6 : Fr (fun i => i = X ∨ i = X + 1) w4 ((w4.setCell ⟨X, 2, none⟩ (.int .i64 (g.moved rp).st)).setCell ⟨X, 3, none⟩ (.int .i64 (g.moved rp).step)) := ((Fr.refl _ w4).setCell (fun _ => .inl rfl) _ _).setCell (fun _ => .inl rfl) _ _
    have hb6 : ((w4.setCell ⟨X, 2, none⟩ (.int .i64 (g.moved rp).st)).setCell ⟨X, 3, none⟩ (.int .i64 (g.moved rp).step)).heap[X]? = some (.cells #[.int .i64 g.id, .slice sa g.steps.length sc, .int .i64 (g.moved rp).st, .int .i64 (g.moved rp).step, .int .i64 g.tries, .int .i64 g.due, .slice (some ⟨mb, 0, none⟩) 1 mc] 223 (0, 0)) := by
      simp only [hp_setCell, if_true, hb4]; rfl
    have hy6 : ((w4.setCell ⟨X, 2, none⟩ (.int .i64 (g.moved rp).st)).setCell ⟨X, 3, none⟩ (.int .i64 (g.moved rp).step)).heap[Y]? = some (.cells #[.int .i64 (g.moved rp).st, .int .i64 (g.moved rp).step] 220 (0, 0)) := by
      simp only [hp_setCell, if_neg (show ¬ Y = X by have := HXY.out; omega), hy4]
    have hr6 : ((w4.setCell ⟨X, 2, none⟩ (.int .i64 (g.moved rp).st)).setCell ⟨X, 3, none⟩ (.int .i64 (g.moved rp).step)).heap[X + 1]? = _ := (by simp only [hp_setCell, if_neg (show ¬ X + 1 = X by omega)]; exact hr4)
    generalize (w4.setCell ⟨X, 2, none⟩ (.int .i64 (g.moved rp).st)).setCell ⟨X, 3, none⟩ (.int .i64 (g.moved rp).step) = w6 at hF6 hb6 hy6 hr6 ⊢
    have HF6 := Lib.hid hF6
    have Hb6 := Lib.hid hb6
    have Hr6 := Lib.hid hr6
    have hXs6 := lt_of_hp hr6
    clear hcv hfv hb4 hr4 hy4 hF6 hXY
    have hcv := cellv w6
    have hfv := frozv w6
    have hbA := heap_alloc_keep (.cells #[.int .i64 (g.moved rp).st, .int .i64 (g.moved rp).step] 220) hb6
    have hrA := heap_alloc_keep (.cells #[.int .i64 (g.moved rp).st, .int .i64 (g.moved rp).step] 220) hr6
    have hzA := heap_alloc_new w6 (.cells #[.int .i64 (g.moved rp).st, .int .i64 (g.moved rp).step] 220)
    have hcvA := cellv (w6.alloc (.cells #[.int .i64 (g.moved rp).st, .int .i64 (g.moved rp).step] 220))
    have hfvA := frozv (w6.alloc (.cells #[.int .i64 (g.moved rp).st, .int .i64 (g.moved rp).step] 220))
    have HbA := Lib.hid hbA
    have HrA := Lib.hid hrA
    have HzA := Lib.hid hzA
    go_upto_region 14 with fail
    have hF9 : Fr (fun i => i = X ∨ i = X + 1) w6 ((((w6.alloc (.cells #[.int .i64 (g.moved rp).st, .int .i64 (g.moved rp).step] 220)).setCell ⟨X, 6, none⟩ (.slice (some ⟨w6.heap.size, 0, none⟩) 1 1)).setCell ⟨X, 4, none⟩ (.int .i64 0)).setCell ⟨X, 5, none⟩ (.int .i64 0)) := ((((Fr.refl _ w6).alloc _).setCell (fun _ => .inl rfl) _ _).setCell (fun _ => .inl rfl) _ _).setCell (fun _ => .inl rfl) _ _
    have hb9 : ((((w6.alloc (.cells #[.int .i64 (g.moved rp).st, .int .i64 (g.moved rp).step] 220)).setCell ⟨X, 6, none⟩ (.slice (some ⟨w6.heap.size, 0, none⟩) 1 1)).setCell ⟨X, 4, none⟩ (.int .i64 0)).setCell ⟨X, 5, none⟩ (.int .i64 0)).heap[X]? = some (.cells #[.int .i64 g.id, .slice sa g.steps.length sc, .int .i64 (g.moved rp).st, .int .i64 (g.moved rp).step, .int .i64 0, .int .i64 0, .slice (some ⟨w6.heap.size, 0, none⟩) 1 1] 223 (0, 0)) := by
      simp only [hp_setCell, if_true, HbA.out]; rfl
    have hr9 : ((((w6.alloc (.cells #[.int .i64 (g.moved rp).st, .int .i64 (g.moved rp).step] 220)).setCell ⟨X, 6, none⟩ (.slice (some ⟨w6.heap.size, 0, none⟩) 1 1)).setCell ⟨X, 4, none⟩ (.int .i64 0)).setCell ⟨X, 5, none⟩ (.int .i64 0)).heap[X + 1]? = _ := (by simp only [hp_setCell, if_neg (show ¬ X + 1 = X by omega)]; exact HrA.out)
    have hz9 : ((((w6.alloc (.cells #[.int .i64 (g.moved rp).st, .int .i64 (g.moved rp).step] 220)).setCell ⟨X, 6, none⟩ (.slice (some ⟨w6.heap.size, 0, none⟩) 1 1)).setCell ⟨X, 4, none⟩ (.int .i64 0)).setCell ⟨X, 5, none⟩ (.int .i64 0)).heap[w6.heap.size]? = _ := (by simp only [hp_setCell, if_neg (show ¬ w6.heap.size = X by omega)]; exact HzA.out)
    generalize ((((w6.alloc (.cells #[.int .i64 (g.moved rp).st, .int .i64 (g.moved rp).step] 220)).setCell ⟨X, 6, none⟩ (.slice (some ⟨w6.heap.size, 0, none⟩) 1 1)).setCell ⟨X, 4, none⟩ (.int .i64 0)).setCell ⟨X, 5, none⟩ (.int .i64 0)) = w9 at hF9 hb9 hr9 hz9 ⊢
    clear hb6 hy6 hr6 hcv hfv hbA hrA hzA hcvA hfvA HbA HrA HzA
    generalize w6.heap.size = Z at hb9 hz9 hXs6 ⊢
    have Hr9 := Lib.hid hr9
    have Hz9 := Lib.hid hz9
    have hXX : ¬ X = X + 1 := by omega
    have hXX2 : ¬ X + 1 = X := by omega
    have hcv := cellv w9
    have hfv := frozv w9
    have hfin : New w (((((((w9.setCell ⟨X + 1, 0, none⟩ (.int .i64 g.id)).setCell ⟨X + 1, 1, none⟩ (.slice sa g.steps.length sc)).setCell ⟨X + 1, 2, none⟩ (.int .i64 (g.moved rp).st)).setCell ⟨X + 1, 3, none⟩ (.int .i64 (g.moved rp).step)).setCell ⟨X + 1, 4, none⟩ (.int .i64 0)).setCell ⟨X + 1, 5, none⟩ (.int .i64 0)).setCell ⟨X + 1, 6, none⟩ (.slice (some ⟨Z, 0, none⟩) 1 1)) ∧ (((((((w9.setCell ⟨X + 1, 0, none⟩ (.int .i64 g.id)).setCell ⟨X + 1, 1, none⟩ (.slice sa g.steps.length sc)).setCell ⟨X + 1, 2, none⟩ (.int .i64 (g.moved rp).st)).setCell ⟨X + 1, 3, none⟩ (.int .i64 (g.moved rp).step)).setCell ⟨X + 1, 4, none⟩ (.int .i64 0)).setCell ⟨X + 1, 5, none⟩ (.int .i64 0)).setCell ⟨X + 1, 6, none⟩ (.slice (some ⟨Z, 0, none⟩) 1 1)).heap[X + 1]? = some (.cells #[.int .i64 g.id, .slice sa g.steps.length sc, .int .i64 (g.moved rp).st, .int .i64 (g.moved rp).step, .int .i64 0, .int .i64 0, .slice (some ⟨Z, 0, none⟩) 1 1] 223 (0, 0)) := by
      refine ⟨HN4.out.trans' (HF6.out.trans (hF9.trans ((((((((Fr.refl (fun i => i = X ∨ i = X + 1) w9).setCell (fun _ => .inr rfl) _ _).setCell (fun _ => .inr rfl) _ _).setCell (fun _ => .inr rfl) _ _).setCell (fun _ => .inr rfl) _ _).setCell (fun _ => .inr rfl) _ _).setCell (fun _ => .inr rfl) _ _).setCell (fun _ => .inr rfl) _ _))) (fun i hi e => by have := HX.out; omega), ?_⟩
      simp only [hp_setCell, if_true, Hr9.out]; rfl
    have Hfin := Lib.hid hfin
    have haf : g.after ck pz rp = g.moved rp := by unfold SagaM.after; rw [if_neg (by rw [hmo]; simp)]
    have hmE : MayR (((((((w9.setCell ⟨X + 1, 0, none⟩ (.int .i64 g.id)).setCell ⟨X + 1, 1, none⟩ (.slice sa g.steps.length sc)).setCell ⟨X + 1, 2, none⟩ (.int .i64 (g.moved rp).st)).setCell ⟨X + 1, 3, none⟩ (.int .i64 (g.moved rp).step)).setCell ⟨X + 1, 4, none⟩ (.int .i64 0)).setCell ⟨X + 1, 5, none⟩ (.int .i64 0)).setCell ⟨X + 1, 6, none⟩ (.slice (some ⟨Z, 0, none⟩) 1 1)) (.slice (some ⟨Z, 0, none⟩) 1 1) (g.after ck pz rp).st (g.after ck pz rp).step := by
      refine ⟨Z, 1, #[.int .i64 (g.moved rp).st, .int .i64 (g.moved rp).step], rfl, ?_, ?_, ?_⟩
      · simp only [hp_setCell, if_neg (show ¬ Z = X + 1 by omega)]
        exact Hz9.out
      · rw [haf]; rfl
      · rw [haf]; rfl
    have Haf := Lib.hid haf
    have HmE := Lib.hid hmE
    clear hfin haf hmE hz9 hF9
    go_wp2_with fail
    refine bodyPost_ret (results_cell_row rfl _ _ (X + 1) 223 #[.int .i64 g.id, .slice sa g.steps.length sc, .int .i64 (g.moved rp).st, .int .i64 (g.moved rp).step, .int .i64 0, .int .i64 0, .slice (some ⟨Z, 0, none⟩) 1 1] (0, 0) _ rfl Hfin.out.2 Tryz.underlying223 rfl Tryz.info223s) rfl ?_
    refine ⟨Hfin.out.1, _, ?_, HmE.out⟩
    rw [Haf.out, moved_tries, moved_due]
end Go.Proofs.YtkafmfdipmhleaaGreatDoor

namespace Go.Proofs.YtkafmfdipmhleaaGreatDoor
open Go.RowKit Go.Maps
set_option maxRecDepth 100000 in
set_option maxHeartbeats 8000000 in
theorem settled_calls {w : World} {B : Nat} {v : Value} {R : List RefM} (h : RefAt w B v R) (hl : R.length ≤ 1000) (hst : ∀ r ∈ R, 1 ≤ r.1.st) :
    Calls Tryz.prog 143 #[v] w fun e w' => ∃ v' R', e = .returned v' ∧ RefAt w' w.heap.size v' R' ∧ sagasOf R' = sagasOf R ∧ New w w' := by
  obtain ⟨i0, hi, hz0, hz1, hz2⟩ := info_parts Tryz.info223
  obtain ⟨la, lc, rfl⟩ := h.shape
  have HR := Lib.hid h
  have Hl := Lib.hid hl
  have Hst := Lib.hid hst
  clear h hl hst
  have hcv := cellv w
  go_enter Tryz.func143, Tryz.ntmps143
  go_wp2_with fail
  go_loopw [3, 4] (fun lv i wr => ∃ (k : Nat) (R' : List RefM), k ≤ R.length ∧ i = .int .i64 k ∧ RefAt wr w.heap.size lv R' ∧ sagasOf R' = sagasOf (R.take k) ∧ New w wr) (fun _ i _ => R.length - (intOf i).toNat)
  case atStart => exact ⟨0, [], Nat.zero_le _, rfl, ⟨World.ownsRow_nil _ _ _ _, fun r hr => by simp at hr⟩, rfl, Fr.refl _ _⟩
  case round =>
    obtain ⟨k, R', hk, rfl, hR', hsR', hf⟩ := hrel
    have Hf := Lib.hid hf
    have HR' := Lib.hid hR'
    have HsR' := Lib.hid hsR'
    obtain ⟨ra, rn, rc, rfl⟩ := own_slice hR'.own
    have hl30 : R.length ≤ 1000 := Hl.out
    clear hf hR' hsR' hcv
    have hcv := cellv wr
    by_cases hlt : k < R.length
    · obtain ⟨r, hr⟩ : ∃ r, R[k]? = some r := ⟨R[k], List.getElem?_eq_getElem hlt⟩
      obtain ⟨g, sv, mv⟩ := r
      have hrefr := HR.out.new Hf.out
      obtain ⟨hsv, hmv⟩ := hrefr.ok _ (List.mem_of_getElem? hr)
      have Hsv := Lib.hid hsv
      have hmv0 := hmv
      clear hmv
      have hmv := hmv0
      clear hmv0
      obtain ⟨sa, sc, hsv⟩ := hsv.shape
      obtain ⟨mb, mc, _, hmv, _⟩ := hmv
      change sv = .slice sa g.steps.length sc at hsv
      change mv = _ at hmv
      subst hsv hmv
      have Hr := Lib.hid hr
      have Hlt := Lib.hid hlt
      obtain ⟨gb, rfl, c0, c1, c2, c3, c4, c5, c6⟩ := hrefr.at k _ hr
      change wr.cell? _ = some (.int .i64 g.id) at c0; change wr.cell? _ = some (.slice sa g.steps.length sc) at c1; change wr.cell? _ = some (.int .i64 g.st) at c2; change wr.cell? _ = some (.int .i64 g.step) at c3; change wr.cell? _ = some (.int .i64 g.tries) at c4; change wr.cell? _ = some (.int .i64 g.due) at c5; change wr.cell? _ = some (.slice (some ⟨mb, 0, none⟩) 1 mc) at c6
      have hkI : (k : Int) < R.length := by omega
      have hk0 : (0 : Int) ≤ k := by omega
      rw [hcv] at c0 c1 c2 c3 c4 c5 c6
      have hst0 : (g.st == 0) = false := by
        have := Hst.out _ (List.mem_of_getElem? hr)
        change 1 ≤ g.st at this
        simp; omega
      clear hr hrefr
      go_upto_region 6 with fail
      have hN3 : New wr (wr.alloc (.cells #[.int .i64 g.id, .slice sa g.steps.length sc, .int .i64 g.st, .int .i64 g.step, .int .i64 g.tries, .int .i64 g.due, .slice (some ⟨mb, 0, none⟩) 1 mc] 223)) := (Fr.refl _ wr).alloc _
      have hs3 := heap_alloc_new wr (.cells #[.int .i64 g.id, .slice sa g.steps.length sc, .int .i64 g.st, .int .i64 g.step, .int .i64 g.tries, .int .i64 g.due, .slice (some ⟨mb, 0, none⟩) 1 mc] 223)
      generalize wr.alloc (.cells #[.int .i64 g.id, .slice sa g.steps.length sc, .int .i64 g.st, .int .i64 g.step, .int .i64 g.tries, .int .i64 g.due, .slice (some ⟨mb, 0, none⟩) 1 mc] 223) = w3 at hN3 hs3 ⊢
      have hslt : w.heap.size ≤ wr.heap.size := Hf.out.size
      generalize hsbe : wr.heap.size = sb at hs3 hslt ⊢
      have Hsbe := Lib.hid hsbe
      have Hslt := Lib.hid hslt
      have HN3 := Lib.hid hN3
      have Hs3 := Lib.hid hs3
      clear hN3 hsbe hslt c0 c1 c2 c3 c4 c5 c6 hcv
      have hcv := cellv w3
      have hfv := frozv w3
      have hsb9 := lt_of_hp hs3
      have Hsb9 := Lib.hid hsb9
      clear hsb9
      have hsA := heap_alloc_keep (.cells #[.int .i64 g.st, .int .i64 g.step] 220) hs3
      have hmA := heap_alloc_new w3 (.cells #[.int .i64 g.st, .int .i64 g.step] 220)
      have HmA := Lib.hid hmA
      have HsA := Lib.hid hsA
      clear hmA
      have hcvA := cellv (w3.alloc (.cells #[.int .i64 g.st, .int .i64 g.step] 220))
      have hfvA := frozv (w3.alloc (.cells #[.int .i64 g.st, .int .i64 g.step] 220))
      go_upto_region 8 with fail
      have hF10 : Fr (fun k => k = sb) w3 ((w3.alloc (.cells #[.int .i64 g.st, .int .i64 g.step] 220)).setCell ⟨sb, 6, none⟩ (.slice (some ⟨w3.heap.size, 0, none⟩) 1 1)) := ((Fr.refl (· = sb) w3).alloc _).setCell (fun _ => rfl) _ _
      have hs10 : ((w3.alloc (.cells #[.int .i64 g.st, .int .i64 g.step] 220)).setCell ⟨sb, 6, none⟩ (.slice (some ⟨w3.heap.size, 0, none⟩) 1 1)).heap[sb]? = some (.cells #[.int .i64 g.id, .slice sa g.steps.length sc, .int .i64 g.st, .int .i64 g.step, .int .i64 g.tries, .int .i64 g.due, .slice (some ⟨w3.heap.size, 0, none⟩) 1 1] 223 (0, 0)) := by
        simp only [hp_setCell, if_true, hsA]; rfl
      have hm10 : ((w3.alloc (.cells #[.int .i64 g.st, .int .i64 g.step] 220)).setCell ⟨sb, 6, none⟩ (.slice (some ⟨w3.heap.size, 0, none⟩) 1 1)).heap[w3.heap.size]? = some (.cells #[.int .i64 g.st, .int .i64 g.step] 220 (0, 0)) := by
        rw [hp_setCell, if_neg (by have := Hsb9.out; omega)]; exact HmA.out
      generalize (w3.alloc (.cells #[.int .i64 g.st, .int .i64 g.step] 220)).setCell ⟨sb, 6, none⟩ (.slice (some ⟨w3.heap.size, 0, none⟩) 1 1) = w10 at hF10 hs10 hm10 ⊢
      have HN10 : Hid (New wr w10) := HN3.out.trans' hF10 (fun i hi e => by have := Hsbe.out; omega)
      generalize w3.heap.size = nb at hs10 hm10 ⊢
      have HM10 : Hid (RefOk w10 (g, .slice sa g.steps.length sc, .slice (some ⟨nb, 0, none⟩) 1 1)) := ⟨Hsv.out.new HN10.out, _, _, _, rfl, hm10, rfl, rfl⟩
      clear hF10 hs3 Hs3 hcv hfv HN3 hsA HsA HmA hcvA hfvA hm10 Hsb9 hst0
      have hcv := cellv w10
      have hoA := Lib.hid ((HR'.out.new HN10.out).own.alloc (.cells #[.int .i64 g.id, .slice sa g.steps.length sc, .int .i64 g.st, .int .i64 g.step, .int .i64 g.tries, .int .i64 g.due, .slice (some ⟨nb, 0, none⟩) 1 1] 223))
      have hnews : ∀ (j : Nat) (u : Value), [Value.int .i64 g.id, .slice sa g.steps.length sc, .int .i64 g.st, .int .i64 g.step, .int .i64 g.tries, .int .i64 g.due, .slice (some ⟨nb, 0, none⟩) 1 1][j]? = some u → (w10.alloc (.cells #[.int .i64 g.id, .slice sa g.steps.length sc, .int .i64 g.st, .int .i64 g.step, .int .i64 g.tries, .int .i64 g.due, .slice (some ⟨nb, 0, none⟩) 1 1] 223)).cell? ((⟨w10.heap.size, 0, none⟩ : Addr).add j) = some u := World.news_of_block (heap_alloc_new w10 _)
      have Hnews := Lib.hid hnews
      have hRl : R'.length = k := by
        have := congrArg List.length HsR'.out
        simp [sagasOf] at this
        have := Hlt.out
        omega
      have HRl := Lib.hid hRl
      clear hnews hRl
      go_wp2_with (first
        | (at_builtin; refine wpList_append_own _ rfl _ _ 161 rfl w.heap.size 223 i0 (.agg #[.int .i64 0, .slice none 0 0, .int .i64 0, .int .i64 0, .int .i64 0, .int .i64 0, .slice none 0 0]) 7 88 Tryz.underlying161 hi hz0 hz1 hz2 rfl (by decide) _ _ _ rfl hoA.out ⟨w10.heap.size, 0, none⟩ 1 1 [Value.int .i64 g.id, .slice sa g.steps.length sc, .int .i64 g.st, .int .i64 g.step, .int .i64 g.tries, .int .i64 g.due, .slice (some ⟨nb, 0, none⟩) 1 1] rfl rfl Hnews.out (by intro u hu; simp at hu; rcases hu with rfl | rfl | rfl | rfl | rfl | rfl | rfl <;> rfl) (by have := Hl.out; have := HRl.out; have := Hlt.out; unfold maxLen; omega) (by have := Hl.out; have := HRl.out; have := Hlt.out; omega) (by have := Hf.out.size; have := HN10.out.size; simp; omega) ?_; intro l2 w11 hown11 hg11 _; obtain ⟨a4, n4, c4, rfl⟩ := own_slice hown11; go_frame)
        | fail)
      go_roundw
      case rel =>
        have hRA : RefAt (w10.alloc (.cells #[.int .i64 g.id, .slice sa g.steps.length sc, .int .i64 g.st, .int .i64 g.step, .int .i64 g.tries, .int .i64 g.due, .slice (some ⟨nb, 0, none⟩) 1 1] 223)) w.heap.size (.slice ra rn rc) R' := (HR'.out.new HN10.out).new ((Fr.refl _ _).alloc _)
        refine ⟨k + 1, R' ++ [(g, .slice sa g.steps.length sc, .slice (some ⟨nb, 0, none⟩) 1 1)], Hlt.out, by go_num, hRA.snoc (r := (g, .slice sa g.steps.length sc, .slice (some ⟨nb, 0, none⟩) 1 1)) ⟨(HM10.out.1).new ((Fr.refl _ _).alloc _), (HM10.out.2).new ((Fr.refl _ _).alloc _)⟩ hown11 hg11, ?_, ?_⟩
        · have e1 : R.take (k + 1) = R.take k ++ [(g, .slice sa g.steps.length sc, .slice (some ⟨mb, 0, none⟩) 1 mc)] := by
            rw [List.take_add_one, Hr.out]; rfl
          have h0 := HsR'.out
          unfold sagasOf at h0 ⊢
          rw [e1]
          simp only [List.map_append, List.map_cons, List.map_nil] at h0 ⊢
          rw [h0]
        · exact (((Hf.out.trans HN10.out).alloc _).trans' (Fr.ofGrown hg11) (fun i hi e => by have := (hRA.own.lt i e).1; omega))
      case measure => have := Hlt.out; simp [intOf]; omega
    · obtain rfl : k = R.length := by omega
      have hkI : ¬ ((R.length : Int) < R.length) := by omega
      go_wp2_with fail
      go_ret
      exact ⟨.slice ra rn rc, rfl, R', HR'.out, by rw [HsR'.out, List.take_length], Hf.out⟩
end Go.Proofs.YtkafmfdipmhleaaGreatDoor

namespace Go.Proofs.YtkafmfdipmhleaaGreatDoor
open Go.RowKit Go.Maps
set_option maxRecDepth 100000 in
set_option maxHeartbeats 4000000 in
theorem asked_calls (w : World) (c : CallM) : Calls Tryz.prog 147 #[c.val, c.val] w fun e w' => e = .returned (.bool true) ∧ New w w' := by
  unfold CallM.val
  have hN : New w ((w.alloc (.cells #[.int .i64 c.saga, .int .i64 c.step, .bool c.back, .string c.data] 46)).alloc (.cells #[.int .i64 c.saga, .int .i64 c.step, .bool c.back, .string c.data] 234)) := ((Fr.refl _ w).alloc _).alloc _
  have hb := heap_alloc_keep (.cells #[.int .i64 c.saga, .int .i64 c.step, .bool c.back, .string c.data] 234) (heap_alloc_new w (.cells #[.int .i64 c.saga, .int .i64 c.step, .bool c.back, .string c.data] 46))
  have hr := heap_alloc_new (w.alloc (.cells #[.int .i64 c.saga, .int .i64 c.step, .bool c.back, .string c.data] 46)) (.cells #[.int .i64 c.saga, .int .i64 c.step, .bool c.back, .string c.data] 234)
  rw [sz_alloc] at hr
  have HN := Lib.hid hN
  have e1 : (c.saga == c.saga) = true := by simp
  have e2 : (c.step == c.step) = true := by simp
  have e3 : (c.back == c.back) = true := by simp
  have e4 : (c.data.toList == c.data.toList) = true := by simp
  clear hN
  go_enter Tryz.func147, Tryz.ntmps147
  go_upto_region 1 with fail
  generalize (w.alloc (.cells #[.int .i64 c.saga, .int .i64 c.step, .bool c.back, .string c.data] 46)).alloc (.cells #[.int .i64 c.saga, .int .i64 c.step, .bool c.back, .string c.data] 234) = w1 at HN hb hr ⊢
  generalize w.heap.size = X at hb hr ⊢
  have hcv := cellv w1
  go_wp2_with fail
  go_ret
  exact ⟨rfl, HN.out⟩
end Go.Proofs.YtkafmfdipmhleaaGreatDoor

namespace Go.Proofs.YtkafmfdipmhleaaGreatDoor
open Go.RowKit Go.Maps
theorem Tryz.info234s : (Tryz.prog.info? 234).map (·.size) = some 4 := by kernel_rfl
set_option maxRecDepth 100000 in
set_option maxHeartbeats 4000000 in
/-- Asks. -/
theorem AsksR_calls (w : World) (g : SagaM) (sv mv : Value) (k : Nat) (hk : g.step = k + 1) (hkl : k < g.steps.length) (hl : g.steps.length ≤ 1000) (hs : StpR w sv g.steps) :
    Calls Tryz.prog 146 #[.agg #[.int .i64 g.id, sv, .int .i64 g.st, .int .i64 g.step, .int .i64 g.tries, .int .i64 g.due, mv]] w fun e w' => e = .returned g.call.val ∧ New w w' := by
  obtain ⟨p, hp⟩ : ∃ p, g.steps[k]? = some p := ⟨g.steps[k], List.getElem?_eq_getElem hkl⟩
  obtain ⟨b, cap, rfl, q0, _⟩ := hs.at k p hp
  have HbX : Hid (b < w.heap.size) := World.block_lt_of_cell? w _ q0
  have hget : g.steps.getD (g.step - 1).toNat (⟨#[]⟩, ⟨#[]⟩) = p := by
    rw [hk, show ((k : Int) + 1 - 1).toNat = k by omega, List.getD_eq_getElem?_getD, hp]; rfl
  rw [hk]
  have hN : New w ((w.alloc (.cells #[.int .i64 g.id, .slice (some ⟨b, 0, none⟩) g.steps.length cap, .int .i64 g.st, .int .i64 ((k : Int) + 1), .int .i64 g.tries, .int .i64 g.due, mv] 223)).alloc (.cells #[.int .i64 0, .int .i64 0, .bool false, .string ⟨#[]⟩] 234)) := ((Fr.refl _ w).alloc _).alloc _
  have hb := heap_alloc_keep (.cells #[.int .i64 0, .int .i64 0, .bool false, .string ⟨#[]⟩] 234) (heap_alloc_new w (.cells #[.int .i64 g.id, .slice (some ⟨b, 0, none⟩) g.steps.length cap, .int .i64 g.st, .int .i64 ((k : Int) + 1), .int .i64 g.tries, .int .i64 g.due, mv] 223))
  have hr := heap_alloc_new (w.alloc (.cells #[.int .i64 g.id, .slice (some ⟨b, 0, none⟩) g.steps.length cap, .int .i64 g.st, .int .i64 ((k : Int) + 1), .int .i64 g.tries, .int .i64 g.due, mv] 223)) (.cells #[.int .i64 0, .int .i64 0, .bool false, .string ⟨#[]⟩] 234)
  rw [sz_alloc] at hr
  have hs1 := hs.new hN
  have HN := Lib.hid hN
  clear hN hs q0
  go_enter Tryz.func146, Tryz.ntmps146
  go_upto_region 1 with fail
  generalize ((w.alloc (.cells #[.int .i64 g.id, .slice (some ⟨b, 0, none⟩) g.steps.length cap, .int .i64 g.st, .int .i64 ((k : Int) + 1), .int .i64 g.tries, .int .i64 g.due, mv] 223)).alloc (.cells #[.int .i64 0, .int .i64 0, .bool false, .string ⟨#[]⟩] 234)) = w1 at HN hb hr hs1 ⊢
  have Hsz : Hid (w.heap.size = w.heap.size) := Lib.hid rfl
  generalize hX : w.heap.size = X at HbX hb hr ⊢
  have HX := Lib.hid hX
  clear hX Hsz
  have hcv := cellv w1
  have hw1 : wrap64 ((k : Int) + 1 - 1) = k := by rw [show (k : Int) + 1 - 1 = k by omega]; exact wrap_in _ (by omega)
  have hw2 : wrap64 (k : Int) = k := wrap_in _ (by omega)
  have hkI : (k : Int) < g.steps.length := by omega
  have hk0 : (0 : Int) ≤ k := by omega
  cases h2 : (g.st == 2)
  · have hcall : g.call.val = .agg #[.int .i64 g.id, .int .i64 ((k : Int) + 1), .bool false, .string p.1] := by
      have e : ¬ g.st = 2 := by simpa using h2
      unfold SagaM.call CallM.val
      rw [hget]
      simp [e, hk]
    have Hcall := Lib.hid hcall
    clear hcall hget
    go_upto_region 2 with fail
    have hN2 : New w1 (w1.alloc (.cells #[.int .i64 g.id, .int .i64 ((k : Int) + 1), .bool false, .string ⟨#[]⟩] 234)) := (Fr.refl _ w1).alloc _
    have hl2 := heap_alloc_new w1 (.cells #[.int .i64 g.id, .int .i64 ((k : Int) + 1), .bool false, .string ⟨#[]⟩] 234)
    have hr2 := hN2.get hr (fun f => f)
    have hb2 := hN2.get hb (fun f => f)
    have hs2 := hs1.new hN2
    have hXY := lt_of_hp hr
    clear hr hb hs1 hcv
    generalize w1.alloc (.cells #[.int .i64 g.id, .int .i64 ((k : Int) + 1), .bool false, .string ⟨#[]⟩] 234) = w2 at hN2 hl2 hr2 hb2 hs2 ⊢
    generalize w1.heap.size = Y at hl2 hXY ⊢
    obtain ⟨b', cap', e0, p0, p1⟩ := hs2.at k p hp
    obtain ⟨rfl, rfl⟩ : b = b' ∧ cap = cap' := by simpa using e0
    have HN2 := Lib.hid (HN.out.trans hN2)
    have HXY := Lib.hid hXY
    have Hr2 := Lib.hid hr2
    have hbY : ¬ b = Y := by have := HbX.out; omega
    have hbX1 : ¬ b = X + 1 := by have := HbX.out; omega
    have hXY1 : ¬ X = Y := by omega
    have hXY2 : ¬ X + 1 = Y := by omega
    have hYX2 : ¬ Y = X + 1 := by omega
    have hfin : New w (((((w2.setCell ⟨Y, 3, none⟩ (.string p.1)).setCell ⟨X + 1, 0, none⟩ (.int .i64 g.id)).setCell ⟨X + 1, 1, none⟩ (.int .i64 ((k : Int) + 1))).setCell ⟨X + 1, 2, none⟩ (.bool false)).setCell ⟨X + 1, 3, none⟩ (.string p.1)) ∧ (((((w2.setCell ⟨Y, 3, none⟩ (.string p.1)).setCell ⟨X + 1, 0, none⟩ (.int .i64 g.id)).setCell ⟨X + 1, 1, none⟩ (.int .i64 ((k : Int) + 1))).setCell ⟨X + 1, 2, none⟩ (.bool false)).setCell ⟨X + 1, 3, none⟩ (.string p.1)).heap[X + 1]? = some (.cells #[.int .i64 g.id, .int .i64 ((k : Int) + 1), .bool false, .string p.1] 234 (0, 0)) := by
      refine ⟨HN2.out.trans' (T := fun i => i = Y ∨ i = X + 1) (((((((Fr.refl _ w2).setCell (fun _ => .inl rfl) _ _).setCell (fun _ => .inr rfl) _ _).setCell (fun _ => .inr rfl) _ _).setCell (fun _ => .inr rfl) _ _).setCell (fun _ => .inr rfl) _ _)) (fun i hi e => by have := HX.out; have := HXY.out; omega), ?_⟩
      simp only [hp_setCell, if_true, if_neg hXY2, Hr2.out]; rfl
    have Hfin := Lib.hid hfin
    clear hfin e0 hXY hN2
    have hcv := cellv w2
    have hfv := frozv w2
    rw [hcv] at p0 p1
    go_wp2_with fail
    refine bodyPost_ret (results_cell_row rfl _ _ (X + 1) 234 #[.int .i64 g.id, .int .i64 ((k : Int) + 1), .bool false, .string p.1] (0, 0) _ rfl Hfin.out.2 Tryz.underlying234 rfl Tryz.info234s) rfl ?_
    exact ⟨by rw [Hcall.out], Hfin.out.1⟩
  · have hcall : g.call.val = .agg #[.int .i64 g.id, .int .i64 ((k : Int) + 1), .bool true, .string p.2] := by
      have e : g.st = 2 := by simpa using h2
      unfold SagaM.call CallM.val
      rw [hget]
      simp [e, hk]
    have Hcall := Lib.hid hcall
    clear hcall hget
    go_upto_region 2 with fail
    have hN2 : New w1 (w1.alloc (.cells #[.int .i64 g.id, .int .i64 ((k : Int) + 1), .bool true, .string ⟨#[]⟩] 234)) := (Fr.refl _ w1).alloc _
    have hl2 := heap_alloc_new w1 (.cells #[.int .i64 g.id, .int .i64 ((k : Int) + 1), .bool true, .string ⟨#[]⟩] 234)
    have hr2 := hN2.get hr (fun f => f)
    have hb2 := hN2.get hb (fun f => f)
    have hs2 := hs1.new hN2
    have hXY := lt_of_hp hr
    clear hr hb hs1 hcv
    generalize w1.alloc (.cells #[.int .i64 g.id, .int .i64 ((k : Int) + 1), .bool true, .string ⟨#[]⟩] 234) = w2 at hN2 hl2 hr2 hb2 hs2 ⊢
    generalize w1.heap.size = Y at hl2 hXY ⊢
    obtain ⟨b', cap', e0, p0, p1⟩ := hs2.at k p hp
    obtain ⟨rfl, rfl⟩ : b = b' ∧ cap = cap' := by simpa using e0
    have HN2 := Lib.hid (HN.out.trans hN2)
    have HXY := Lib.hid hXY
    have Hr2 := Lib.hid hr2
    have hbY : ¬ b = Y := by have := HbX.out; omega
    have hbX1 : ¬ b = X + 1 := by have := HbX.out; omega
    have hXY1 : ¬ X = Y := by omega
    have hXY2 : ¬ X + 1 = Y := by omega
    have hYX2 : ¬ Y = X + 1 := by omega
    have hfin : New w ((((((w2.setCell ⟨Y, 3, none⟩ (.string p.1)).setCell ⟨Y, 3, none⟩ (.string p.2)).setCell ⟨X + 1, 0, none⟩ (.int .i64 g.id)).setCell ⟨X + 1, 1, none⟩ (.int .i64 ((k : Int) + 1))).setCell ⟨X + 1, 2, none⟩ (.bool true)).setCell ⟨X + 1, 3, none⟩ (.string p.2)) ∧ ((((((w2.setCell ⟨Y, 3, none⟩ (.string p.1)).setCell ⟨Y, 3, none⟩ (.string p.2)).setCell ⟨X + 1, 0, none⟩ (.int .i64 g.id)).setCell ⟨X + 1, 1, none⟩ (.int .i64 ((k : Int) + 1))).setCell ⟨X + 1, 2, none⟩ (.bool true)).setCell ⟨X + 1, 3, none⟩ (.string p.2)).heap[X + 1]? = some (.cells #[.int .i64 g.id, .int .i64 ((k : Int) + 1), .bool true, .string p.2] 234 (0, 0)) := by
      refine ⟨HN2.out.trans' (T := fun i => i = Y ∨ i = X + 1) ((((((((Fr.refl _ w2).setCell (fun _ => .inl rfl) _ _).setCell (fun _ => .inl rfl) _ _).setCell (fun _ => .inr rfl) _ _).setCell (fun _ => .inr rfl) _ _).setCell (fun _ => .inr rfl) _ _).setCell (fun _ => .inr rfl) _ _)) (fun i hi e => by have := HX.out; have := HXY.out; omega), ?_⟩
      simp only [hp_setCell, if_true, if_neg hXY2, Hr2.out]; rfl
    have Hfin := Lib.hid hfin
    clear hfin e0 hXY hN2
    have hcv := cellv w2
    have hfv := frozv w2
    rw [hcv] at p0 p1
    go_wp2_with fail
    refine bodyPost_ret (results_cell_row rfl _ _ (X + 1) 234 #[.int .i64 g.id, .int .i64 ((k : Int) + 1), .bool true, .string p.2] (0, 0) _ rfl Hfin.out.2 Tryz.underlying234 rfl Tryz.info234s) rfl ?_
    exact ⟨by rw [Hcall.out], Hfin.out.1⟩
end Go.Proofs.YtkafmfdipmhleaaGreatDoor

namespace Go.Proofs.YtkafmfdipmhleaaGreatDoor
open Go.RowKit Go.Maps
noncomputable def tkdR6 : Code := ((Tryz.f113.body).bind (regionAt 6)).getD .skip
set_option maxRecDepth 100000 in
set_option maxHeartbeats 8000000 in
/-- log := d.p.Log[from:] -/
theorem tkd_r6 (kb pb fr K B : Nat) (pl pe pi at_ d0 d2 d3 d4 d5 d6 d7 d8 d9 : Value) (xs : List Value) (W : World)
    (hk : W.heap[kb]? = some (.cells #[d0, .pointer (some ⟨pb, 0, none⟩), d2, d3, d4, d5, d6, d7, d8, d9] 165 (0, 0))) (hp : W.heap[pb]? = some (.cells #[pl, pe, pi, at_] 44 (0, 0)))
    (ho : W.ownsRow B 48 5 pl (fr + K) xs)
    {ds : List Deferred} {x1 x2 x3 x4 x6 x7 x8 x9 x10 x11 x12 x13 x14 x15 x16 x17 x18 x19 x20 x21 x22 x23 x24 x25 x26 x27 x28 x29 x30 x31 x32 x33 x34 x35 x36 x37 x38 x39 x40 x41 x42 x43 x44 x45 x46 x47 x48 x49 x50 x51 x52 x53 x54 x55 x56 x57 x58 x59 x60 x61 x62 x63 x64 x65 x66 x67 x68 x69 x70 x71 x72 x73 x74 x75 x76 x77 x78 x79 x80 x81 x82 x83 x84 x85 x86 x87 x88 x89 x90 x91 x92 x93 x94 x95 x96 x97 x98 x99 x100 x101 x102 x103 x104 x105 x106 x107 x108 x109 x110 x111 x112 x113 x114 x115 x116 x117 x118 x119 x120 x121 x122 x123 x124 x125 x126 x127 x128 x129 x130 x131 x132 x133 x134 x135 x136 x137 x138 x139 x140 x141 x142 x143 x144 x145 x146 x147 x148 x149 x150 x151 x152 x153 x154 x155 x156 x157 x158 x159 x160 x161 x162 x163 x164 x165 x166 x167 x168 x169 x170 x171 x172 x173 x174 x175 x176 x177 x178 x179 x180 x181 x182 x183 x184 x185 x186 x187 x188 x189 x190 x191 x192 x193 x194 x195 x196 x197 x198 x199 x200 x201 x202 x203 x204 x205 x206 x207 x208 x209 x210 x211 x212 x213 x214 x215 x216 x217 x218 x219 x220 x221 : Value} {Q : Exit → Act → World → Prop}
    (hQ : ∀ (y41 y42 y43 y44 y45 y46 y47 y48 y49 : Value) (lx : Option Addr) (cx : Nat), (0 < K → ∃ g, lx = some ⟨g, fr * 5, none⟩ ∧ pl.ownBlock = some g) → Q .normal ⟨#[.pointer (some ⟨kb, 0, none⟩), x1,x2,x3,x4, .int .i64 fr, x6,x7,x8,x9, .slice lx K cx, x11,x12,x13,x14,x15,x16,x17,x18,x19,x20,x21,x22,x23,x24,x25,x26,x27,x28,x29,x30,x31,x32,x33,x34,x35,x36,x37,x38,x39,x40,y41,y42,y43,y44,y45,y46,y47,y48,y49,x50,x51,x52,x53,x54,x55,x56,x57,x58,x59,x60,x61,x62,x63,x64,x65,x66,x67,x68,x69,x70,x71,x72,x73,x74,x75,x76,x77,x78,x79,x80,x81,x82,x83,x84,x85,x86,x87,x88,x89,x90,x91,x92,x93,x94,x95,x96,x97,x98,x99,x100,x101,x102,x103,x104,x105,x106,x107,x108,x109,x110,x111,x112,x113,x114,x115,x116,x117,x118,x119,x120,x121,x122,x123,x124,x125,x126,x127,x128,x129,x130,x131,x132,x133,x134,x135,x136,x137,x138,x139,x140,x141,x142,x143,x144,x145,x146,x147,x148,x149,x150,x151,x152,x153,x154,x155,x156,x157,x158,x159,x160,x161,x162,x163,x164,x165,x166,x167,x168,x169,x170,x171,x172,x173,x174,x175,x176,x177,x178,x179,x180,x181,x182,x183,x184,x185,x186,x187,x188,x189,x190,x191,x192,x193,x194,x195,x196,x197,x198,x199,x200,x201,x202,x203,x204,x205,x206,x207,x208,x209,x210,x211,x212,x213,x214,x215,x216,x217,x218,x219,x220,x221], ds⟩ W) :
    Code.wp Tryz.prog tkdR6 Q ⟨#[.pointer (some ⟨kb, 0, none⟩), x1,x2,x3,x4, .int .i64 fr, x6,x7,x8,x9,x10,x11,x12,x13,x14,x15,x16,x17,x18,x19,x20,x21,x22,x23,x24,x25,x26,x27,x28,x29,x30,x31,x32,x33,x34,x35,x36,x37,x38,x39,x40,x41,x42,x43,x44,x45,x46,x47,x48,x49,x50,x51,x52,x53,x54,x55,x56,x57,x58,x59,x60,x61,x62,x63,x64,x65,x66,x67,x68,x69,x70,x71,x72,x73,x74,x75,x76,x77,x78,x79,x80,x81,x82,x83,x84,x85,x86,x87,x88,x89,x90,x91,x92,x93,x94,x95,x96,x97,x98,x99,x100,x101,x102,x103,x104,x105,x106,x107,x108,x109,x110,x111,x112,x113,x114,x115,x116,x117,x118,x119,x120,x121,x122,x123,x124,x125,x126,x127,x128,x129,x130,x131,x132,x133,x134,x135,x136,x137,x138,x139,x140,x141,x142,x143,x144,x145,x146,x147,x148,x149,x150,x151,x152,x153,x154,x155,x156,x157,x158,x159,x160,x161,x162,x163,x164,x165,x166,x167,x168,x169,x170,x171,x172,x173,x174,x175,x176,x177,x178,x179,x180,x181,x182,x183,x184,x185,x186,x187,x188,x189,x190,x191,x192,x193,x194,x195,x196,x197,x198,x199,x200,x201,x202,x203,x204,x205,x206,x207,x208,x209,x210,x211,x212,x213,x214,x215,x216,x217,x218,x219,x220,x221], ds⟩ W := by
  have hcv := cellv W
  have hf0 : (0 : Int) ≤ fr := by omega
  rcases ho.2 with ⟨rfl, h0⟩ | ⟨g, cap, cur, rfl, hg, hh, hn, hq1, hq2, htk⟩
  · obtain rfl : fr = 0 := by omega
    obtain rfl : K = 0 := by omega
    have HQ := Lib.hid hQ
    clear hQ ho
    conv => arg 2; whnf
    go_wp2_with fail
    exact HQ.out _ _ _ _ _ _ _ _ _ none 0 (fun h => by omega)
  · have HQ := Lib.hid hQ
    have hfn : (fr : Int) ≤ ((fr + K : Nat) : Int) := by omega
    have hfc : ((fr + K : Nat) : Int) ≤ cap := by omega
    have hle : fr ≤ fr + K := by omega
    have hsub : fr + K - fr = K := by omega
    clear hQ ho
    by_cases hcf : cap = fr
    · obtain rfl : K = 0 := by omega
      conv => arg 2; whnf
      go_wp2_with fail
      exact HQ.out _ _ _ _ _ _ _ _ _ _ _ (fun h => by omega)
    · conv => arg 2; whnf
      go_wp2_with fail
      exact HQ.out _ _ _ _ _ _ _ _ _ _ _ (fun _ => ⟨g, rfl, rfl⟩)
end Go.Proofs.YtkafmfdipmhleaaGreatDoor
