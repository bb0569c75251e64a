/-
  What is proved: what holds of a journal and of a partner, whatever the disk tells and whenever power fails. (No program in sight.) a disk of the script, its journal empty or none: Format. what the caller owns of a script's world: the drawn regions. a disk more in a script's world: the drawn region. a disk of the script: Open, and what is found.
-/
import Derived.Test.YtkafmfdipmhleaaGreatDoorOy5
import Derived.BigQuiet
import Derived.Deep.AppendLies

namespace Go.Proofs.YtkafmfdipmhleaaGreatDoor
open Go.RowKit Go.Maps

/-- The sagas that a journal tells of. -/
def folded (evs : List Ev) : List SagaM := evs.foldl applyEv []
theorem folded_snoc (evs : List Ev) (e : Ev) : folded (evs ++ [e]) = applyEv (folded evs) e := by unfold folded; rw [List.foldl_append]; rfl
theorem folded_ok {evs : List Ev} (h : EvsOk [] evs) : SgsOk (folded evs) := by
  have := sgsOk_take h evs.length
  rw [List.take_length] at this; exact this
theorem ord_uniq {l : List SagaM} (ho : l.Pairwise (fun a b => a.id < b.id)) {g f : SagaM} (hg : g ∈ l) (hf : f ∈ l) (h : g.id = f.id) : g = f := by
  obtain ⟨i, hi⟩ := List.getElem?_of_mem hg
  obtain ⟨k, hk⟩ := List.getElem?_of_mem hf
  by_cases e : i = k
  · subst e; rw [hi] at hk; exact Option.some.inj hk
  · exact absurd h (ord_ne2 ho hi hk e)
theorem left_core {g f : SagaM} (h : g.core = f.core) : g.left = f.left := by
  obtain ⟨a1, a2, a3, a4, a5, a6⟩ := g
  obtain ⟨b1, b2, b3, b4, b5, b6⟩ := f
  simp only [SagaM.core, Prod.mk.injEq] at h
  obtain ⟨rfl, rfl, rfl, rfl⟩ := h
  rfl
theorem leftSum_core {F S : List SagaM} (h : F.map SagaM.core = S.map SagaM.core) : leftSum F = leftSum S := by
  induction F generalizing S with
  | nil => cases S with
    | nil => rfl
    | cons x S => cases h
  | cons f F ih => cases S with
    | nil => cases h
    | cons x S =>
      simp only [List.map_cons, List.cons.injEq] at h
      have := ih h.2
      simp only [leftSum, List.map_cons, List.sum_cons] at this ⊢
      rw [left_core h.1, this]
theorem mv_steps (g : SagaM) (rp : Int) : (g.moved rp).steps = g.steps := by
  by_cases h1 : g.st = 1 <;> by_cases h2 : rp = 0 <;> by_cases h3 : (g.steps.length : Int) < g.step + 1 <;> simp [SagaM.moved, SagaM.forward, SagaM.backward, h1, h2, h3]
theorem core_step {g f : SagaM} (h : g.core = f.core) : g.step = f.step := congrArg (·.2.2.1) h
theorem core_steps {g f : SagaM} (h : g.core = f.core) : g.steps = f.steps := congrArg (·.2.2.2) h
/-- A journal, and what its partner has done; what was told of it. -/
structure Good (n : Int → Nat) (last : Int → Int) (evs : List Ev) (p : PartM) : Prop where
  ok : EvsOk [] evs
  ids : ∀ g ∈ folded evs, (1 ≤ g.id ∧ g.id ≤ 3) ∧ g.steps = kSteps g.id (n g.id)
  agree : ∀ g ∈ folded evs, Agree (n g.id) g.st g.step (mineOf p.effs g.id)
  none : ∀ id, (∀ g ∈ folded evs, g.id ≠ id) → mineOf p.effs id = []
  last : ∀ id, last id ≠ 0 → ∃ g ∈ folded evs, g.id = id ∧ (3 ≤ last id → g.st = last id)
  tries : ∀ g ∈ folded evs, g.tries = 0
  len : (evLen evs : Int) + leftSum (folded evs) ≤ 13 * (folded evs).length
theorem Good.count {n : Int → Nat} {last : Int → Int} {evs : List Ev} {p : PartM} (h : Good n last evs p) : (folded evs).length ≤ 3 := by
  have h1 := folded_ok h.ok
  have := len_of_ord (folded evs) 0 3 h1.ord (fun g hg => by have := (h.ids g hg).1; omega) (by omega)
  omega
theorem Good.ev {n : Int → Nat} {last : Int → Int} {evs : List Ev} {p : PartM} (h : Good n last evs p) : evLen evs ≤ 39 ∧ (evLen evs : Int) + leftSum (folded evs) ≤ 39 := by
  have h1 := h.count
  have h2 := h.len
  have h3 := leftSum_nonneg (folded evs) (folded_ok h.ok).ok
  omega
theorem Good.empty (n : Int → Nat) (p : PartM) (hp : p.effs = []) : Good n (fun _ => 0) [] p := by
  have hf : folded [] = [] := rfl
  refine ⟨trivial, ?_, ?_, ?_, ?_, ?_, ?_⟩
  · rw [hf]; intro g hg; simp at hg
  · rw [hf]; intro g hg; simp at hg
  · intro id _; rw [hp]; rfl
  · intro id h; exact absurd rfl h
  · rw [hf]; intro g hg; simp at hg
  · rw [hf]; simp [evLen, leftSum]
theorem Good.turn {n : Int → Nat} {last : Int → Int} {evs : List Ev} {p : PartM} {f g : SagaM} (h : Good n last evs p) (hf : f ∈ folded evs) (hc : g.core = f.core) (hst : g.st = 1 ∨ g.st = 2) :
    Agree (n g.id) g.st g.step (mineOf (p.ask g.call).effs g.id) ∧ (g.moves (g.reply p) = true → Agree (n g.id) (g.moved (g.reply p)).st (g.moved (g.reply p)).step (mineOf (p.ask g.call).effs g.id)) := by
  have e1 := core_id hc
  have hl : g.steps.length = n g.id := by rw [core_steps hc, (h.ids f hf).2, kSteps_len, e1]
  have hA := h.agree f hf
  rw [← e1, ← core_st hc, ← core_step hc] at hA
  rw [← hl] at hA ⊢
  obtain ⟨a1, a2, _⟩ := agree_ask g p hA hst
  exact ⟨a1, a2⟩
theorem Good.asked {n : Int → Nat} {last : Int → Int} {evs : List Ev} {p : PartM} {f g : SagaM} (h : Good n last evs p) (hf : f ∈ folded evs) (hc : g.core = f.core) (hst : g.st = 1 ∨ g.st = 2) : Good n last evs (p.ask g.call) := by
  have hord := (folded_ok h.ok).ord
  have e1 := core_id hc
  refine ⟨h.ok, h.ids, fun x hx => ?_, fun id hid => ?_, h.last, h.tries, h.len⟩
  · by_cases e : x.id = g.id
    · have : x = f := ord_uniq hord hx hf (e.trans e1)
      subst this
      have := (h.turn hf hc hst).1
      rw [e1, core_st hc, core_step hc] at this; exact this
    · rw [mine_other _ _ _ (show g.call.saga ≠ x.id from fun he => e he.symm)]
      exact h.agree x hx
  · rw [mine_other _ _ _ (show g.call.saga ≠ id from fun he => hid f hf (e1.symm.trans he))]
    exact h.none id hid
theorem Good.moved {n : Int → Nat} {last : Int → Int} {evs : List Ev} {p : PartM} {f g : SagaM} (h : Good n last evs p) (hf : f ∈ folded evs) (hc : g.core = f.core) (hst : g.st = 1 ∨ g.st = 2) (hm : g.moves (g.reply p) = true) (hok : EvsOk [] (evs ++ [.moved g.id (g.reply p)])) :
    Good n last (evs ++ [.moved g.id (g.reply p)]) (p.ask g.call) := by
  have hsg := folded_ok h.ok
  have e1 := core_id hc
  have hst' : f.st = 1 ∨ f.st = 2 := by rw [← core_st hc]; exact hst
  obtain ⟨i, hi⟩ := List.getElem?_of_mem hf
  have hfo : folded (evs ++ [.moved g.id (g.reply p)]) = (folded evs).set i (f.moved (g.reply p)) := by
    rw [folded_snoc]
    show (folded evs).map (fun x => if x.id = g.id then x.moved (g.reply p) else x) = _
    rw [e1]; exact map_if_set hsg.ord hi _
  have hold := h.asked hf hc hst
  have ht := (h.turn hf hc hst).2 hm
  have hfm : f.moved (g.reply p) ∈ (folded evs).set i (f.moved (g.reply p)) := List.mem_of_getElem? (List.getElem?_set_self (List.getElem?_eq_some_iff.1 hi).1)
  have hback : ∀ x ∈ folded evs, x ∈ (folded evs).set i (f.moved (g.reply p)) ∨ x = f := by
    intro x hx
    obtain ⟨k, hk⟩ := List.getElem?_of_mem hx
    by_cases e : i = k
    · subst e; rw [hi] at hk; exact .inr (Option.some.inj hk).symm
    · exact .inl (List.mem_of_getElem? (by rw [List.getElem?_set_ne e]; exact hk))
  refine ⟨hok, ?_, ?_, ?_, ?_, ?_, ?_⟩
  · rw [hfo]; intro x hx
    rcases mem_set_cases hx with rfl | hx
    · rw [moved_id, mv_steps]; exact h.ids f hf
    · exact h.ids x hx
  · rw [hfo]; intro x hx
    rcases mem_set_cases hx with rfl | hx
    · rw [moved_id, ← e1, ← core_moved hc]; exact ht
    · exact hold.agree x hx
  · rw [hfo]; intro id hid
    refine hold.none id (fun x hx => ?_)
    rcases hback x hx with h1 | rfl
    · exact hid x h1
    · have := hid _ hfm; rw [moved_id] at this; exact this
  · rw [hfo]; intro id hid
    obtain ⟨x, hx, hxi, hxs⟩ := h.last id hid
    rcases hback x hx with h1 | rfl
    · exact ⟨x, h1, hxi, hxs⟩
    · exact ⟨_, hfm, by rw [moved_id]; exact hxi, fun h3 => by have := hxs h3; omega⟩
  · rw [hfo]; intro x hx
    rcases mem_set_cases hx with rfl | hx
    · exact moved_tries _ _
    · exact h.tries x hx
  · rw [hfo, evLen_snoc, List.length_set, leftSum_set _ _ f _ hi]
    have h1 := ((hsg.ok f hf).moved hst' (g.reply p)).2
    have h2 := h.len
    have h3 : (Ev.moved g.id (g.reply p)).len = 1 := rfl
    rw [h3]
    omega
theorem Good.taken {n : Int → Nat} {last : Int → Int} {evs : List Ev} {p : PartM} {id : Int} (h : Good n last evs p) (hid : 1 ≤ id ∧ id ≤ 3) (hn : 1 ≤ n id ∧ n id ≤ 6) (hnew : ∀ g ∈ folded evs, g.id ≠ id) (hok : EvsOk [] (evs ++ [.taken id (kSteps id (n id))])) :
    Good n last (evs ++ [.taken id (kSteps id (n id))]) p := by
  have hfo : folded (evs ++ [.taken id (kSteps id (n id))]) = insSaga (SagaM.new id (kSteps id (n id))) (folded evs) := folded_snoc _ _
  refine ⟨hok, ?_, ?_, ?_, ?_, ?_, ?_⟩
  · rw [hfo]; intro x hx
    rcases insSaga_mem.1 hx with rfl | hx
    · exact ⟨hid, rfl⟩
    · exact h.ids x hx
  · rw [hfo]; intro x hx
    rcases insSaga_mem.1 hx with rfl | hx
    · refine .inl ⟨rfl, 0, rfl, ?_, .inl ?_⟩
      · show 0 < n id; omega
      · exact h.none id hnew
    · exact h.agree x hx
  · rw [hfo]; intro i hi
    exact h.none i (fun x hx => hi x (insSaga_mem.2 (.inr hx)))
  · rw [hfo]; intro i hi
    obtain ⟨x, hx, h1⟩ := h.last i hi
    exact ⟨x, insSaga_mem.2 (.inr hx), h1⟩
  · rw [hfo]; intro x hx
    rcases insSaga_mem.1 hx with rfl | hx
    · rfl
    · exact h.tries x hx
  · rw [hfo, evLen_snoc, insSaga_len, insSaga_sum, new_left, kSteps_len]
    have h2 := h.len
    have h3 : (Ev.taken id (kSteps id (n id))).len = 2 := rfl
    rw [h3]
    omega
/-- What is told, and sure, is noted. -/
theorem Good.noted {n : Int → Nat} {last : Int → Int} {evs : List Ev} {p : PartM} {g : SagaM} (h : Good n last evs p) (hg : g ∈ folded evs) {id : Int} (hid : g.id = id) : Good n (fun i => if i = id then g.st else last i) evs p := by
  refine ⟨h.ok, h.ids, h.agree, h.none, fun i hi => ?_, h.tries, h.len⟩
  by_cases e : i = id
  · subst e
    exact ⟨g, hg, hid, fun _ => by simp⟩
  · simp only [if_neg e] at hi ⊢
    exact h.last i hi
/-- A disk's counts grow by k at most. -/
def Grew (k : Nat) (d d' : DiskM) : Prop := (0 ≤ d.calls → d.calls + k ≤ 2 ^ 41 → 0 ≤ d'.calls ∧ d'.calls ≤ d.calls + k) ∧ d'.off = d.off
theorem Grew.refl (d : DiskM) : Grew 0 d d := ⟨fun h _ => ⟨h, by omega⟩, rfl⟩
theorem Grew.trans {a b : Nat} {d e f : DiskM} (h1 : Grew a d e) (h2 : Grew b e f) : Grew (a + b) d f :=
  ⟨fun h0 h => by
    obtain ⟨a1, a2⟩ := h1.1 h0 (by omega)
    obtain ⟨b1, b2⟩ := h2.1 a1 (by omega)
    exact ⟨b1, by omega⟩, h2.2.trans h1.2⟩
theorem Grew.mono {a b : Nat} {d e : DiskM} (h : Grew a d e) (hab : a ≤ b) : Grew b d e :=
  ⟨fun h0 h1 => by obtain ⟨a1, a2⟩ := h.1 h0 (by omega); exact ⟨a1, by omega⟩, h.2⟩
theorem Grew.count (d : DiskM) : Grew 1 d d.count := ⟨fun h0 h => by
  have : d.count.calls = d.calls + 1 := wrap_in _ (by omega)
  rw [this]; omega, rfl⟩
theorem Grew.put (d : DiskM) (i : Nat) (l : List UInt8) : Grew 1 d (d.put i l) := Grew.count d
theorem Grew.flush (d : DiskM) : Grew 1 d d.flush := Grew.count d
theorem Grew.settle (j : JnM) (d : DiskM) : Grew 1 d (settleD j d) := by
  unfold settleD; split
  · exact Grew.flush d
  · exact (Grew.refl d).mono (by omega)
theorem Grew.sureG (d : DiskM) (i : Nat) (l : List UInt8) : Grew 2 d (d.sureG i l).1 := by
  unfold DiskM.sureG; split
  · exact (Grew.count d).mono (by omega)
  · split
    · exact (Grew.put d i l).trans (Grew.count _)
    · exact (Grew.put d i l).trans (Grew.flush _)
theorem Grew.appendG (d : DiskM) (ep ix : Nat) (rs : List RecM) : Grew (2 * rs.length) d (d.appendG ep ix rs).1 := by
  induction rs generalizing d ix with
  | nil => exact Grew.refl d
  | cons r rs ih =>
    simp only [DiskM.appendG]
    split
    · exact ((Grew.sureG d ix _).trans (ih _ _)).mono (by rw [List.length_cons]; omega)
    · exact (Grew.sureG d ix _).mono (by rw [List.length_cons]; omega)
theorem Grew.appendA (d : DiskM) (j : JnM) (rs : List RecM) : Grew (1 + 2 * rs.length) d (d.appendA j rs).1 := by
  unfold DiskM.appendA; split
  · exact (Grew.count d).mono (by omega)
  · exact (Grew.settle j d).trans (Grew.appendG _ _ _ _)
theorem Grew.stepG (s : StM) (k : Nat) : Grew 10 s.d (s.stepG k).1.d := by
  unfold StM.stepG StM.movedG
  cases s.sagas[k]? with
  | none => exact (Grew.refl _).mono (by omega)
  | some g =>
    simp only
    split
    · exact (Grew.refl _).mono (by omega)
    · split
      · exact (Grew.count _).mono (by omega)
      · split
        · exact (Grew.settle _ _).mono (by omega)
        · split
          · exact ((Grew.settle s.j s.d).trans (Grew.appendA _ _ _)).mono (show 1 + (1 + 2 * 1) ≤ 10 by omega)
          · exact ((Grew.settle s.j s.d).trans (Grew.appendA _ _ _)).mono (show 1 + (1 + 2 * 1) ≤ 10 by omega)
/-- There is room in the numbers for m more questions. -/
def PF (p : PartM) (m : Nat) : Prop := p.log.length + m < 2 ^ 30 ∧ p.effs.length + m < 2 ^ 30 ∧ p.l.length < 2 ^ 30 ∧ 0 ≤ p.at_ ∧ p.at_ + m < 2 ^ 30
theorem PF.less {p : PartM} {m k : Nat} (h : PF p m) (hk : k ≤ m) : PF p k := by
  obtain ⟨h1, h2, h3, h4, h5⟩ := h
  exact ⟨by omega, by omega, h3, h4, by omega⟩
theorem PF.ask {p : PartM} {m : Nat} (h : PF p (m + 1)) (c : CallM) : PF (p.ask c) m := by
  obtain ⟨h1, h2, h3, h4, h5⟩ := h
  obtain ⟨a1, a2, a3, a4, a5, _⟩ := ask_fine (c := c) h1 h2 h4 h5
  exact ⟨a1, a2, by rw [a3]; exact h3, a4, a5⟩
/-- A disk, its journal and the partner, engine or none: m: what may yet be done; b: it is not cut off. -/
structure Liv (n : Int → Nat) (last : Int → Int) (m : Nat) (b : Bool) (lo : Nat) (d : DiskM) (p : PartM) (e0 e1 : List Ev) : Prop where
  dj : DJ d e0 e1
  g0 : Good n last e0 p
  g1 : Good n last e1 p
  len : d.blocks.length = 120
  pf : PF p m
  lo : p.lo = lo
  cal : 0 ≤ d.calls ∧ d.calls + 20000 * m ≤ 2 ^ 40
  off : b = true → d.off = -1
theorem Liv.less {n : Int → Nat} {last : Int → Int} {m k : Nat} {b : Bool} {lo : Nat} {d : DiskM} {p : PartM} {e0 e1 : List Ev} (h : Liv n last m b lo d p e0 e1) (hk : k ≤ m) : Liv n last k b lo d p e0 e1 :=
  ⟨h.dj, h.g0, h.g1, h.len, h.pf.less hk, h.lo, ⟨h.cal.1, by have := h.cal.2; omega⟩, h.off⟩
/-- Another disk and partner. -/
theorem Liv.next {n : Int → Nat} {last : Int → Int} {m k : Nat} {b : Bool} {lo : Nat} {d d' : DiskM} {p p' : PartM} {e0 e1 f0 f1 : List Ev} (h : Liv n last (m + 1) b lo d p e0 e1) (hg : Grew k d d') (hk : k ≤ 20000) (hl : d'.blocks.length = d.blocks.length) (hj : DJ d' f0 f1) (h0 : Good n last f0 p') (h1 : Good n last f1 p') (hp : PF p' m) (hlo : p'.lo = p.lo) : Liv n last m b lo d' p' f0 f1 := by
  obtain ⟨c1, c2⟩ := h.cal
  obtain ⟨g1, g2⟩ := hg.1 c1 (by omega)
  exact ⟨hj, h0, h1, hl.trans h.len, hp, hlo.trans h.lo, ⟨g1, by omega⟩, fun hb => hg.2.trans (h.off hb)⟩
/-- An engine that has not failed. -/
structure Alv (n : Int → Nat) (last : Int → Int) (m : Nat) (b : Bool) (lo : Nat) (s : StM) (e0 e1 : List Ev) : Prop where
  js : JS s e0 e1
  inv : s.inv0
  room : s.roomy
  tries : ∀ g ∈ s.sagas, g.tries ≤ s.p.log.length
  clk : 0 ≤ s.clock ∧ s.clock + m ≤ 100000
  liv : Liv n last m b lo s.d s.p e0 e1
theorem Alv.less {n : Int → Nat} {last : Int → Int} {m k : Nat} {b : Bool} {lo : Nat} {s : StM} {e0 e1 : List Ev} (h : Alv n last m b lo s e0 e1) (hk : k ≤ m) : Alv n last k b lo s e0 e1 :=
  ⟨h.js, h.inv, h.room, h.tries, ⟨h.clk.1, by have := h.clk.2; omega⟩, h.liv.less hk⟩
theorem Alv.fine {n : Int → Nat} {last : Int → Int} {m : Nat} {b : Bool} {lo : Nat} {s : StM} {e0 e1 : List Ev} (h : Alv n last m b lo s e0 e1) : s.fine m := by
  obtain ⟨h1, h2, h3, h4, h5⟩ := h.liv.pf
  exact ⟨h1, h2, h3, h4, h5, h.tries⟩
theorem Alv.count {n : Int → Nat} {last : Int → Int} {m : Nat} {b : Bool} {lo : Nat} {s : StM} {e0 e1 : List Ev} (h : Alv n last m b lo s e0 e1) : s.sagas.length ≤ 3 := by
  have h1 := h.liv.g1.count
  have h2 := congrArg List.length h.js.core
  simp at h2
  unfold folded at h1
  omega
theorem stepG_settled {s : StM} {k : Nat} {g : SagaM} (hg : s.sagas[k]? = some g) (hw : g.waits s.clock = true) (hset : s.j.fresh = false ∨ s.d.bad = false) :
    (StM.stepG { s with j := ⟨s.j.epoch, s.j.en, false⟩, d := settleD s.j s.d } k).1.d = (s.stepG k).1.d ∧ ((s.stepG k).2 = true → StM.stepG { s with j := ⟨s.j.epoch, s.j.en, false⟩, d := settleD s.j s.d } k = s.stepG k) := by
  by_cases hm : g.moves (g.reply s.p) = false
  · have h1 := stepG_vain (s := { s with j := ⟨s.j.epoch, s.j.en, false⟩, d := settleD s.j s.d }) (k := k) hg hw (.inl rfl) hm
    have h2 := stepG_vain (k := k) hg hw hset hm
    have e : StM.stepG { s with j := ⟨s.j.epoch, s.j.en, false⟩, d := settleD s.j s.d } k = s.stepG k := by rw [h2]; exact h1
    exact ⟨by rw [e], fun _ => e⟩
  · have hm : g.moves (g.reply s.p) = true := by simpa using hm
    have hst : ∀ d : DiskM, settleD ⟨s.j.epoch, s.j.en, false⟩ d = d := fun _ => rfl
    rw [stepG_moved hg hw hset hm, stepG_moved (s := { s with j := ⟨s.j.epoch, s.j.en, false⟩, d := settleD s.j s.d }) hg hw (.inl rfl) hm]
    unfold StM.movedG
    simp only [hst]
    split
    · exact ⟨rfl, fun _ => rfl⟩
    · exact ⟨rfl, fun h => by (cases h)⟩
theorem stepG_p {s : StM} {k : Nat} {g : SagaM} (hg : s.sagas[k]? = some g) (hw : g.waits s.clock = true) (hset : s.j.fresh = false ∨ s.d.bad = false) : (s.stepG k).1.p = s.p.ask g.call := by
  by_cases hm : g.moves (g.reply s.p) = false
  · rw [stepG_vain hg hw hset hm]
  · have hm : g.moves (g.reply s.p) = true := by simpa using hm
    rw [stepG_moved hg hw hset hm]
    unfold StM.movedG
    split <;> rfl
theorem stepG_law {n : Int → Nat} {last : Int → Int} {m : Nat} {b : Bool} {lo : Nat} {s : StM} {e0 e1 : List Ev} (h : Alv n last (m + 1) b lo s e0 e1) (k : Nat) :
    ∃ f0 f1, Liv n last m b lo (s.stepG k).1.d (s.stepG k).1.p f0 f1 ∧ ((s.stepG k).2 = true → Alv n last m b lo (s.stepG k).1 f0 f1) := by
  have h' := h.less (k := m) (by omega)
  cases hg : s.sagas[k]? with
  | none => simp only [StM.stepG, hg]; exact ⟨e0, e1, h'.liv, fun _ => h'⟩
  | some g =>
    by_cases hw : g.waits s.clock = false
    · simp only [StM.stepG, hg, hw, if_true]; exact ⟨e0, e1, h'.liv, fun _ => h'⟩
    · have hw : g.waits s.clock = true := by simpa using hw
      by_cases hset : s.j.fresh = true ∧ s.d.bad = true
      · rw [stepG_unset hg hw hset]
        exact ⟨e0, e1, h.liv.next (Grew.count _) (by omega) rfl h.liv.dj.count h.liv.g0 h.liv.g1 h'.liv.pf rfl, fun h => by (cases h)⟩
      have hset : s.j.fresh = false ∨ s.d.bad = false := by
        cases h1 : s.j.fresh
        · exact .inl rfl
        · cases h2 : s.d.bad
          · exact .inr rfl
          · exact absurd ⟨h1, h2⟩ hset
      have hmem : g ∈ s.sagas := List.mem_of_getElem? hg
      have hst := waits_st (h.inv.ok g hmem) hw
      obtain ⟨hd, hp⟩ := h.js.settle h.inv
      have hJ' : JS { s with j := ⟨s.j.epoch, s.j.en, false⟩, d := settleD s.j s.d } e1 e1 := ⟨hd, h.js.ep, h.js.en, h.js.core⟩
      have hi' : StM.inv0 { s with j := ⟨s.j.epoch, s.j.en, false⟩, d := settleD s.j s.d } := ⟨fun _ => hp, h.inv.epoch, h.inv.ok, h.inv.ord, by show (settleD s.j s.d).blocks.length ≤ 1000; rw [settle_len']; exact h.inv.size⟩
      obtain ⟨f0, f1, j1, j2, j3, j4⟩ := stepG_JS (k := k) hJ' hi' (by
        show 3 + evLen e1 < (settleD s.j s.d).blocks.length
        rw [settle_len', h.liv.len]; have := h.liv.g1.ev; omega)
      obtain ⟨z1, z2⟩ := stepG_settled hg hw hset
      rw [z1] at j1
      obtain ⟨f, hf, hc⟩ := core_get h.js.core k hg
      have hfm : f ∈ folded e1 := List.mem_of_getElem? hf
      have hA := h.liv.g1.asked hfm hc.symm hst
      have hG1 : Good n last f1 (s.p.ask g.call) := by
        rcases j4 with rfl | ⟨g', hg', _, hm', rfl⟩
        · exact hA
        · have : g' = g := Option.some.inj (hg'.symm.trans hg)
          subst this
          exact h.liv.g1.moved hfm hc.symm hst hm' j1.ok
      have hG0 : Good n last f0 (s.p.ask g.call) := by
        rcases j3 with rfl | rfl | rfl
        · exact hA
        · exact hA
        · exact hG1
      have hP := stepG_p hg hw hset
      have hL : Liv n last m b lo (s.stepG k).1.d (s.stepG k).1.p f0 f1 := by
        rw [hP]
        exact h.liv.next (Grew.stepG s k) (by omega) stepG_len j1 hG0 hG1 (h.liv.pf.ask g.call) rfl
      refine ⟨f0, f1, hL, fun hok => ?_⟩
      obtain ⟨i1, i2, i3, i4, i5⟩ := stepG_inv h.inv h.room h.fine hok
      have hz := z2 hok
      exact ⟨by rw [← hz]; exact j2 (by rw [hz]; exact hok), i1, i2, i3.2.2.2.2.2, by rw [i4]; exact h'.clk, hL⟩
theorem runG_law {n : Int → Nat} {last : Int → Int} {m : Nat} {b : Bool} {lo : Nat} {s : StM} {e0 e1 : List Ev} (k : Nat) (h : Alv n last (m + k) b lo s e0 e1) :
    ∃ f0 f1, Liv n last m b lo (s.runG (List.range k)).1.d (s.runG (List.range k)).1.p f0 f1 ∧ ((s.runG (List.range k)).2 = true → Alv n last m b lo (s.runG (List.range k)).1 f0 f1) := by
  induction k generalizing m with
  | zero => exact ⟨e0, e1, h.liv, fun _ => h⟩
  | succ k ih =>
    obtain ⟨f0, f1, i1, i2⟩ := ih (m := m + 1) (by rw [show m + 1 + k = m + (k + 1) by omega]; exact h)
    by_cases hok : (s.runG (List.range k)).2 = true
    · rw [runG_succ s k hok]
      exact stepG_law (i2 hok) k
    · have hok : (s.runG (List.range k)).2 = false := by simpa using hok
      rw [runG_stop s k (k + 1) (by omega) hok]
      exact ⟨f0, f1, i1.less (by omega), fun h => by (rw [hok] at h; cases h)⟩
theorem tickG_law {n : Int → Nat} {last : Int → Int} {m : Nat} {b : Bool} {lo : Nat} {s : StM} {e0 e1 : List Ev} (h : Alv n last (m + 4) b lo s e0 e1) :
    ∃ f0 f1, Liv n last m b lo s.tickG.1.d s.tickG.1.p f0 f1 ∧ (s.tickG.2 = true → Alv n last m b lo s.tickG.1 f0 f1) := by
  have hc := h.count
  have h1 : Alv n last (m + s.sagas.length) b lo { s with clock := s.clock + 1 } e0 e1 := by
    have h2 := h.less (k := m + s.sagas.length) (by omega)
    exact ⟨⟨h.js.dj, h.js.ep, h.js.en, h.js.core⟩, ⟨h.inv.pend, h.inv.epoch, h.inv.ok, h.inv.ord, h.inv.size⟩, h.room, h.tries, ⟨by show 0 ≤ s.clock + 1; have := h.clk.1; omega, by
      show s.clock + 1 + ((m + s.sagas.length : Nat) : Int) ≤ 100000
      have := h.clk.2; omega⟩, h2.liv⟩
  exact runG_law s.sagas.length h1
theorem submitG_law {n : Int → Nat} {last : Int → Int} {m : Nat} {b : Bool} {lo : Nat} {s : StM} {e0 e1 : List Ev} (h : Alv n last (m + 1) b lo s e0 e1) {id : Int} (hid : 1 ≤ id ∧ id ≤ 3) (hn : 1 ≤ n id ∧ n id ≤ 6) (hnew : ∀ x ∈ s.sagas, x.id ≠ id) :
    ∃ f0 f1, Liv n last m b lo (s.d.appendA s.j [bodyRec id (kSteps id (n id)), takenRec id]).1 s.p f0 f1 ∧ ((s.d.appendA s.j [bodyRec id (kSteps id (n id)), takenRec id]).2 = true → Alv n last m b lo (s.submitG id (kSteps id (n id))) f0 f1) := by
  obtain ⟨f0, f1, j1, j2, j3, j4⟩ := submitG_JS h.js h.inv hid hn hnew (by rw [h.liv.len]; have := h.liv.g1.ev; omega)
  have hnew' : ∀ g ∈ folded e1, g.id ≠ id := by
    intro g hg
    have h1 : g.id ∈ s.sagas.map (·.id) := by rw [← core_ids h.js.core]; exact List.mem_map_of_mem hg
    obtain ⟨y, hy, hxy⟩ := List.mem_map.1 h1
    rw [← hxy]; exact hnew y hy
  have hG1 : Good n last f1 s.p := by
    rcases j4 with rfl | rfl
    · exact h.liv.g1
    · exact h.liv.g1.taken hid hn hnew' j1.ok
  have hG0 : Good n last f0 s.p := by
    rcases j3 with rfl | rfl | rfl
    · exact h.liv.g0
    · exact h.liv.g1
    · exact hG1
  have hL : Liv n last m b lo (s.d.appendA s.j [bodyRec id (kSteps id (n id)), takenRec id]).1 s.p f0 f1 := h.liv.next (Grew.appendA _ _ _) (by show 1 + 2 * 2 ≤ 20000; omega) (appendA_len _ _ _) j1 hG0 hG1 (h.liv.pf.less (by omega)) rfl
  refine ⟨f0, f1, hL, fun hok => ?_⟩
  obtain ⟨hJ, he⟩ := j2 hok
  have hw := kSteps_whole id (n id) (by omega) hn
  refine ⟨hJ, ⟨fun _ => ?_, h.inv.epoch, ?_, insSaga_ord _ _ h.inv.ord hnew, ?_⟩, ?_, ?_, ⟨h.clk.1, by
      show s.clock + (m : Int) ≤ 100000
      have := h.clk.2; omega⟩, hL⟩
  · exact appendA_pend _ _ _ h.inv.pend hok
  · intro g hg
    rcases insSaga_mem.1 hg with rfl | hg
    · exact new_ok hw
    · exact h.inv.ok g hg
  · show (s.d.appendA s.j _).1.blocks.length ≤ 1000
    rw [appendA_len]; exact h.inv.size
  · show ((s.j.en + 2 : Nat) : Int) + leftSum (insSaga (SagaM.new id (kSteps id (n id))) s.sagas) ≤ (s.d.appendA s.j _).1.blocks.length
    rw [appendA_len, insSaga_sum, new_left, kSteps_len, h.liv.len, h.js.en, ← leftSum_core h.js.core]
    have h1 := h.liv.g1.ev
    unfold folded at h1
    omega
  · intro g hg
    rcases insSaga_mem.1 hg with rfl | hg
    · show (0 : Int) ≤ s.p.log.length; omega
    · exact h.tries g hg
/-- Behind a failure of power. -/
theorem after_law {n : Int → Nat} {last : Int → Int} {m : Nat} {b : Bool} {lo : Nat} {d : DiskM} {p : PartM} {e0 e1 : List Ev} (h : Liv n last m b lo d p e0 e1) (hm : m ≤ 10000) (ks : List Int) :
    ∃ e, Liv n last m true lo (d.after ks) p e e := by
  have hlen : (d.after ks).blocks.length = 120 := by
    rw [← h.len]
    unfold DiskM.after
    cases d.pend with
    | none => rfl
    | some q => cases ks <;> simp
  have key : ∀ e, JD (d.after ks).blocks e → EvsOk [] e → Good n last e p → Liv n last m true lo (d.after ks) p e e := fun e h1 h2 h3 =>
    ⟨DJ.mk_clean h1 rfl h2, h3, h3, hlen, h.pf, h.lo, ⟨by show (0 : Int) ≤ 0; omega, by show (0 : Int) + 20000 * m ≤ 2 ^ 40; omega⟩, fun _ => rfl⟩
  rcases h.dj.after ks with h1 | h1
  · exact ⟨e0, key e0 h1 h.dj.ok0 h.g0⟩
  · exact ⟨e1, key e1 h1 h.dj.ok h.g1⟩
/-- A disk that is only told otherwise when to fail. -/
theorem Liv.same {n : Int → Nat} {last : Int → Int} {m : Nat} {b c : Bool} {lo : Nat} {d d' : DiskM} {p : PartM} {e0 e1 : List Ev} (h : Liv n last m b lo d p e0 e1) (hb : d'.blocks = d.blocks) (hp : d'.pend = d.pend) (hc : d'.calls = d.calls) (ho : c = true → d'.off = -1) : Liv n last m c lo d' p e0 e1 :=
  ⟨h.dj.same hb hp, h.g0, h.g1, by rw [hb]; exact h.len, h.pf, h.lo, by rw [hc]; exact h.cal, ho⟩
/-- An engine that was just opened. -/
theorem open_law {n : Int → Nat} {last : Int → Int} {m k : Nat} {lo : Nat} {d : DiskM} {p : PartM} {e0 e1 : List Ev} (h : Liv n last (m + 1) true lo d p e0 e1) (hk : k ≤ 10000) (hm : m ≤ 90000) (pause : Int) :
    Alv n last m true lo ⟨pause, 0, folded e1, ⟨1, 1 + evLen e1, true⟩, d.reads k, p⟩ e0 e1 := by
  have hdj : DJ (d.reads k) e0 e1 := h.dj.same rfl rfl
  have hsg := folded_ok h.g1.ok
  have hev := h.g1.ev
  have hlen := h.len
  refine ⟨⟨hdj, rfl, rfl, rfl⟩, ⟨fun h => by (cases h), by show 1 < 2 ^ 32; omega, hsg.ok, hsg.ord, by show d.blocks.length ≤ 1000; omega⟩, ?_, ?_, ⟨by show (0 : Int) ≤ 0; omega, by show (0 : Int) + (m : Int) ≤ 100000; omega⟩,
    ⟨hdj, h.g0, h.g1, hlen, h.pf.less (by omega), h.lo, ?_, h.off⟩⟩
  · show ((1 + evLen e1 : Nat) : Int) + leftSum (folded e1) ≤ d.blocks.length
    omega
  · intro g hg
    show g.tries ≤ (p.log.length : Int)
    have := h.g1.tries g hg
    omega
  · show 0 ≤ d.calls + (k : Int) ∧ d.calls + (k : Int) + 20000 * (m : Int) ≤ 2 ^ 40
    have := h.cal
    omega
end Go.Proofs.YtkafmfdipmhleaaGreatDoor

namespace Go.Proofs.YtkafmfdipmhleaaGreatDoor
open Go.RowKit Go.Maps

def hdrE (ep : Nat) : List UInt8 := padB (recBytes ⟨1, ep, 0, 0, 0, []⟩)
/-- The blocks of a disk that was formatted ep times. -/
def oBlk (n ep : Nat) : List (List UInt8) := if ep = 0 then List.replicate n zer else (List.replicate n zer).set 0 (hdrE ep)
theorem oBlk_len (n ep : Nat) : (oBlk n ep).length = n := by unfold oBlk; split <;> simp
theorem oBlk_one (n ep i : Nat) (hi : 0 < i) (hn : i < n) : (oBlk n ep).getD i [] = zer := by
  have h : (List.replicate n zer).getD i [] = zer := by rw [List.getD_eq_getElem?_getD, List.getElem?_replicate, if_pos hn]; rfl
  unfold oBlk
  split
  · exact h
  · rw [getD_set_ne _ _ _ _ (by omega)]; exact h
theorem oBlk_zero (n : Nat) (hn : 0 < n) : (oBlk n 0).getD 0 [] = zer := by
  unfold oBlk
  rw [if_pos rfl, List.getD_eq_getElem?_getD, List.getElem?_replicate, if_pos hn]; rfl
theorem oBlk_head (n ep : Nat) (hn : 0 < n) (he : ep ≠ 0) : (oBlk n ep).getD 0 [] = hdrE ep := by
  unfold oBlk
  rw [if_neg he, getD_set_self _ _ _ (by simpa using hn)]
theorem oBlk_set (n ep : Nat) : (oBlk n ep).set 0 (hdrE (ep + 1)) = oBlk n (ep + 1) := by
  unfold oBlk
  rw [if_neg (show ¬ ep + 1 = 0 by omega)]
  split
  · rfl
  · rw [List.set_set]
theorem parse_hdrE (ep : Nat) (he : ep < 2 ^ 32) : parseM (hdrE ep) = some (⟨1, ep, 0, 0, 0, []⟩, true) := by
  unfold hdrE
  rw [pad_short _ (by show (1 : Nat) ≠ 2; decide)]
  exact parse_short _ _ ⟨by show 1 < 256; omega, he, by show 0 < 65536; omega, by show 0 < 65536; omega, by show 0 < 256; omega, fun _ => rfl, fun h => by (cases h)⟩ (by show (1 : Nat) ≠ 2; decide) (by show 1 ≤ 1 ∧ 1 ≤ 4; decide)
/-- A disk of the script: where it lies, how many blocks it has, how often it was formatted. -/
structure OD where
  kb : Nat
  db : Nat
  bb : Nat
  pb : Nat
  n : Nat
  ep : Nat
def odCells (o : OD) (xv : Value) (pz : Int) : Array Value := #[.pointer (some ⟨o.db, 0, none⟩), .pointer (some ⟨o.pb, 0, none⟩), .int .i64 o.n, .bool (decide (o.ep = 0)), .bool false, xv, .int .i64 pz, .int .i64 0, .bool false, .slice none 0 0]
structure OdD (m : Nat) (o : OD) (d : DiskM) : Prop where
  quiet : d.quiet
  pend : d.pend = none
  blocks : d.blocks = oBlk o.n o.ep
  cal : 0 ≤ d.calls ∧ d.calls + 20000 * m ≤ 2 ^ 40
structure OdAt (w : World) (m : Nat) (o : OD) : Prop where
  dk : ∃ d, DiskAt w o.db o.bb d ∧ OdD m o d
  st : ∃ xv pz, w.heap[o.kb]? = some (.cells (odCells o xv pz) 165 (0, 0))
  pt : FreshP w o.pb
  ep : o.ep + m ≤ 100000
  n : o.n < 1000
theorem OdD.less {m k : Nat} {o : OD} {d : DiskM} (h : OdD m o d) (hk : k ≤ m) : OdD k o d := ⟨h.quiet, h.pend, h.blocks, ⟨h.cal.1, by have := h.cal.2; omega⟩⟩
theorem OdAt.less {w : World} {m k : Nat} {o : OD} (h : OdAt w m o) (hk : k ≤ m) : OdAt w k o := by
  obtain ⟨d, h1, h2⟩ := h.dk
  exact ⟨⟨d, h1, h2.less hk⟩, h.st, h.pt, by have := h.ep; omega, h.n⟩
theorem FreshP.fr {w w' : World} {pb : Nat} {S : Nat → Prop} (h : FreshP w pb) (hf : Fr S w w') (hS : ¬ S pb) : FreshP w' pb := by
  obtain ⟨a, b, c, d, e, h⟩ := h
  exact ⟨a, b, c, d, e, hf.get h hS⟩
/-- Nothing of the disk has turned. -/
theorem OdAt.fr {w w' : World} {m : Nat} {o : OD} {S : Nat → Prop} (h : OdAt w m o) (hf : Fr S w w') (hS : ∀ k, S k → k ≠ o.kb ∧ k ≠ o.db ∧ k ≠ o.bb ∧ k ≠ o.pb) : OdAt w' m o := by
  obtain ⟨d, h1, h2⟩ := h.dk
  obtain ⟨xv, pz, h3⟩ := h.st
  refine ⟨⟨d, ?_, h2⟩, ⟨xv, pz, hf.get h3 (fun s => (hS _ s).1 rfl)⟩, h.pt.fr hf (fun s => (hS _ s).2.2.2 rfl), h.ep, h.n⟩
  obtain ⟨hwf, cap, rest, cv, e1, e2, e3⟩ := h1
  refine ⟨hwf, cap, rest, cv, hf.get e1 (fun s => (hS _ s).2.1 rfl), hf.get e2 (fun s => (hS _ s).2.2.1 rfl), ?_⟩
  rw [h2.pend] at e3 ⊢; exact e3
theorem OdAt.new {w w' : World} {m : Nat} {o : OD} (h : OdAt w m o) (hf : New w w') : OdAt w' m o := h.fr hf (fun _ f => f.elim)
def OD.fits (o : OD) : Bool := decide (8 ≤ o.n) && decide (o.n ≤ 400)
theorem OdD.fits {m : Nat} {o : OD} {d : DiskM} (h : OdD m o d) : d.fits = o.fits := by
  unfold DiskM.fits OD.fits
  rw [h.blocks, oBlk_len]
def OD.fmt (o : OD) : OD := if o.fits then { o with ep := o.ep + 1 } else o
theorem od_ne {w : World} {m : Nat} {o : OD} (h : OdAt w m o) : o.kb ≠ o.db ∧ o.kb ≠ o.bb ∧ o.kb ≠ o.pb ∧ o.pb ≠ o.db ∧ o.pb ≠ o.bb := by
  obtain ⟨d, ⟨_, _, _, _, e1, e2, _⟩, _⟩ := h.dk
  obtain ⟨_, _, e3⟩ := h.st
  obtain ⟨_, _, _, _, _, e4⟩ := h.pt
  exact ⟨ne_of_kind e3 e1 (by simp [kindOf]), ne_of_kind e3 e2 (by simp [kindOf]), ne_of_kind e3 e4 (by simp [kindOf]), ne_of_kind e4 e1 (by simp [kindOf]), ne_of_kind e4 e2 (by simp [kindOf])⟩
set_option maxHeartbeats 1000000 in
theorem fits109 {w : World} {kb : Nat} {cs : Array Value} {n : Nat} (h : w.heap[kb]? = some (.cells cs 165 (0, 0))) (hn : cs[2]? = some (.int .i64 n)) :
    Calls Tryz.prog 109 #[.pointer (some ⟨kb, 0, none⟩)] w fun e w' => e = .returned (.bool (decide (8 ≤ n) && decide (n ≤ 400))) ∧ w = w' := by
  have a2 : w.cell? ⟨kb, 2, none⟩ = some (.int .i64 n) := by rw [cellv, h, cellOf_cells]; exact hn
  clear h hn
  by_cases h1 : 8 ≤ n
  · have h1I : (8 : Int) ≤ n := by omega
    by_cases h2 : n ≤ 400
    · have h2I : (n : Int) ≤ 400 := by omega
      go_enter Tryz.func109, Tryz.ntmps109
      go_wp2_with fail
      go_ret
      exact ⟨by simp [h1, h2], rfl⟩
    · have h2I : ¬ (n : Int) ≤ 400 := by omega
      go_enter Tryz.func109, Tryz.ntmps109
      go_wp2_with fail
      go_ret
      exact ⟨by simp [h1, h2], rfl⟩
  · have h1I : ¬ (8 : Int) ≤ n := by omega
    go_enter Tryz.func109, Tryz.ntmps109
    go_wp2_with fail
    go_ret
    exact ⟨by simp [h1], rfl⟩
set_option maxRecDepth 100000 in
set_option maxHeartbeats 2000000 in
theorem pFormat_size {w : World} {db bb : Nat} {d : DiskM} (h : DiskAt w db bb d) (hl : d.fits = false) :
    Calls Tryz.prog 39 #[.pointer (some ⟨db, 0, none⟩)] w (FailPost w fmtStr 7) := by
  have HF := Lib.hid (fits_calls h)
  rw [hl] at HF
  clear h hl
  have key : Hid (Calls Tryz.prog 61 #[.iface 27 (.pointer (some ⟨db, 0, none⟩))] w (FailPost w fmtStr 7)) := by
    show Calls _ _ _ _ _
    go_enter Tryz.func61, Tryz.ntmps61
    go_wp2_with (first
      | (go_at_call 79; refine Calls.mono HF.out ?_; rintro e w2 ⟨rfl, rfl⟩)
      | (go_at_call 40; refine Calls.mono (fail_calls w fmtStr 7) ?_; rintro e w2 ⟨v, rfl, hv, hf2⟩)
      | fail)
    go_ret
    exact ⟨v, rfl, hv, hf2⟩
  go_enter Tryz.func39, Tryz.ntmps39
  go_wp2_with (first
    | (go_at_call 61; refine Calls.mono key.out ?_; rintro e w2 ⟨v, rfl, hv, hf2⟩)
    | fail)
  go_ret
  exact ⟨v, rfl, hv, hf2⟩
/-- What Format makes of the disk. -/
theorem OdD.fmt {m : Nat} {o : OD} {d : DiskM} (h : OdD (m + 1) o d) (hf : o.fits = true) : OdD m o.fmt (d.format (o.ep + 1)) := by
  have e : o.fmt = { o with ep := o.ep + 1 } := by unfold OD.fmt; rw [if_pos hf]
  have hg : Grew 4 d (d.format (o.ep + 1)) := ((((Grew.count d).trans (Grew.flush _)).trans (Grew.put _ 0 _)).trans (Grew.flush _))
  obtain ⟨c1, c2⟩ := h.cal
  obtain ⟨g1, g2⟩ := hg.1 c1 (by omega)
  rw [e]
  refine ⟨((h.quiet.count.flush).put 0 _).flush, rfl, ?_, ⟨g1, by omega⟩⟩
  show (d.format (o.ep + 1)).blocks = oBlk o.n (o.ep + 1)
  rw [← oBlk_set, ← h.blocks]
  have h1 : (d.count.flush).blocks = d.blocks := by
    have hp : d.count.pend = none := h.pend
    unfold DiskM.flush
    rw [hp]; rfl
  show ((d.count.flush).blocks.set 0 (padB (recBytes ⟨1, o.ep + 1, 0, 0, 0, []⟩))) = _
  rw [h1]; rfl
theorem od_parse {m : Nat} {o : OD} {d : DiskM} (h : OdD m o d) (hf : o.fits = true) (he : o.ep < 2 ^ 32) :
    (o.ep = 0 ∧ ∃ r, parseM (d.look 0) = some (r, false)) ∨ (o.ep ≠ 0 ∧ parseM (d.look 0) = some (⟨1, o.ep, 0, 0, 0, []⟩, true)) := by
  have hn : 0 < o.n := by simp [OD.fits] at hf; omega
  have hlk : d.look 0 = (oBlk o.n o.ep).getD 0 [] := by simp only [DiskM.look, h.pend, h.blocks]
  by_cases h0 : o.ep = 0
  · refine .inl ⟨h0, ?_⟩
    rw [hlk, h0, oBlk_zero _ hn]; exact parse_zer
  · refine .inr ⟨h0, ?_⟩
    rw [hlk, oBlk_head _ _ hn h0]; exact parse_hdrE _ he
theorem od_next {m : Nat} {o : OD} {d : DiskM} (h : OdD m o d) (hf : o.fits = true) (he : o.ep + 1 < 2 ^ 32) : ∃ r ok, parseM (d.look 0) = some (r, ok) ∧ nextEpoch r ok = o.ep + 1 := by
  rcases od_parse h hf (by omega) with ⟨h0, r, hr⟩ | ⟨h0, hr⟩
  · exact ⟨r, false, hr, by rw [h0]; rfl⟩
  · refine ⟨_, true, hr, ?_⟩
    show (if true && (1 : Nat) == 1 then (o.ep + 1) % 2 ^ 32 else 1) = _
    simp; omega
set_option maxRecDepth 100000 in
set_option maxHeartbeats 4000000 in
/-- Format. -/
theorem formatted_calls {w : World} {m : Nat} {o : OD} (h : OdAt w (m + 1) o) (hg : Handle w) (h0 : 0 < o.kb ∧ 0 < o.db ∧ 0 < o.bb) :
    Calls Tryz.prog 88 #[.pointer (some ⟨o.kb, 0, none⟩)] w fun e w' => e = .returned (.bool true) ∧ OdAt w' m o.fmt ∧ Fr (fun k => k = o.kb ∨ k = o.db ∨ k = o.bb) w w' := by
  obtain ⟨hn1, hn2, hn3, hn4, hn5⟩ := od_ne h
  obtain ⟨d, hd, hD⟩ := h.dk
  obtain ⟨xv, pz, hk⟩ := h.st
  have Hpt := Lib.hid h.pt
  have Hep := Lib.hid h.ep
  have Hn := Lib.hid h.n
  have hF1 : Fr (· = o.kb) w (w.setCell ⟨o.kb, 5, none⟩ (.pointer none)) := Fr.one o.kb w 5 (.pointer none)
  have hk1 : (w.setCell ⟨o.kb, 5, none⟩ (.pointer none)).heap[o.kb]? = some (.cells (odCells o (.pointer none) pz) 165 (0, 0)) := by
    rw [hp_setCell, if_pos rfl, hk]; rfl
  have hd1 : DiskAt (w.setCell ⟨o.kb, 5, none⟩ (.pointer none)) o.db o.bb d := hd.frame hF1 (by rintro k rfl; exact ⟨hn1, hn2, _, hk, by simp [kindOf]⟩)
  have hg1 : Handle (w.setCell ⟨o.kb, 5, none⟩ (.pointer none)) := hg.fr hF1 (by omega)
  have Hk := Lib.hid hk
  simp only [odCells] at hk
  clear hd hg
  have hcv0 := cellv w
  have hfv0 := frozv w
  go_enter Tryz.func88, Tryz.ntmps88
  go_upto_region 2 with fail
  generalize w.setCell ⟨o.kb, 5, none⟩ (.pointer none) = w1 at hF1 hk1 hd1 hg1 ⊢
  have HF1 := Lib.hid hF1
  have Hk1 := Lib.hid hk1
  have Hg1 := Lib.hid hg1
  have Hd1 := Lib.hid hd1
  simp only [odCells] at hk1
  clear hk hF1 hg1 hd1 hcv0 hfv0
  have hcv := cellv w1
  have HTd := Lib.hid (Told_calls Hd1.out)
  have HNm := Lib.hid (fun (x : Int) (w' : World) => num_calls w' x)
  cases hfit : o.fits
  · have hfm : o.fmt = o := by unfold OD.fmt; rw [hfit]; rfl
    have hff : (decide (8 ≤ o.n) && decide (o.n ≤ 400)) = false := hfit
    have HFm := Lib.hid (pFormat_size Hd1.out (by rw [hD.fits]; exact hfit))
    have HFi := Lib.hid (fun (w' : World) (hf : New w1 w') => fits109 (hf.get Hk1.out (fun f => f)) (n := o.n) rfl)
    rw [hff] at HFi
    have Hfm := Lib.hid hfm
    have HD := Lib.hid hD
    clear hfm hff hfit hD
    go_wp2_with (first
      | (go_at_call 33; refine Calls.mono HTd.out ?_; rintro e w2 ⟨rfl, rfl⟩)
      | (go_at_call 39; refine Calls.mono HFm.out ?_; rintro e w3 ⟨v, rfl, ⟨fb, hfb, rfl, hfc⟩, hf3⟩)
      | (go_at_call 26; refine Calls.mono (toldP_fault fb fmtStr 7 w3 (Hg1.out.new hf3) hfc) ?_; rintro e w4 ⟨rfl, hf4⟩)
      | (go_at_call 108; refine Calls.mono (HNm.out _ _) ?_; rintro e w5 ⟨rfl, rfl⟩)
      | (go_at_call 109; refine Calls.mono (HFi.out _ (hf3.trans hf4)) ?_; rintro e w6 ⟨rfl, rfl⟩)
      | fail)
    go_ret
    have hf14 := hf3.trans hf4
    rw [Hfm.out]
    refine ⟨rfl, ⟨⟨d, Hd1.out.new hf14, HD.out.less (by omega)⟩, ⟨_, pz, hf14.get Hk1.out (fun f => f)⟩, (Hpt.out.fr HF1.out (fun e => hn3 e.symm)).fr hf14 (fun f => f), by have := Hep.out; omega, Hn.out⟩, (HF1.out.mono (fun _ _ e => .inl e)).trans (hf14.mono (fun _ _ f => f.elim))⟩
  · have hfm : o.fmt = { o with ep := o.ep + 1 } := by unfold OD.fmt; rw [hfit]; rfl
    have hff : (decide (8 ≤ o.n) && decide (o.n ≤ 400)) = true := hfit
    obtain ⟨r, ok, hpm, hnx⟩ := od_next hD hfit (by have := Hep.out; omega)
    have HFm := Lib.hid (pFormat_calls Hd1.out hD.quiet hD.pend r ok hpm)
    have hDf : d.fits = true := by rw [hD.fits]; exact hfit
    have HSf : Hid (∀ e w', sFmtPost w1 o.db o.bb d (nextEpoch r ok) e w' → FmtPost w1 o.db o.bb d (o.ep + 1) e w') := by
      intro e w' he
      unfold sFmtPost at he
      rw [if_pos hDf, hnx] at he; exact he
    have HFi := Lib.hid (fun (w' : World) (hf : Fr (fun k => k = o.db ∨ k = o.bb) w1 w') => fits109 (hf.get Hk1.out (by omega)) (n := o.n) rfl)
    rw [hff] at HFi
    have HD := Lib.hid (hD.fmt hfit)
    have hfmD : ∀ e w', sFmtPost w1 o.db o.bb d (nextEpoch r ok) e w' → e = .returned .nilIface ∧ Fr (fun k => k = o.db ∨ k = o.bb) w1 w' ∧ DiskAt w' o.db o.bb (d.format (o.ep + 1)) := fun e w' he => HSf.out e w' he
    have HfmD := Lib.hid hfmD
    clear hff hfit hD hDf hpm hnx HSf hfmD
    go_upto_region 10 with (first
      | (go_at_call 33; refine Calls.mono HTd.out ?_; rintro e w2 ⟨rfl, rfl⟩)
      | (go_at_call 39; refine Calls.mono HFm.out ?_; intro e w3 he; obtain ⟨rfl, hf3, hd3⟩ := HfmD.out e w3 he)
      | (go_at_call 26; refine Calls.mono (toldP_nil w3) ?_; rintro e w4 ⟨rfl, hw4⟩; obtain rfl := hw4.symm)
      | (go_at_call 108; refine Calls.mono (HNm.out _ _) ?_; rintro e w5 ⟨rfl, rfl⟩)
      | (go_at_call 109; refine Calls.mono (HFi.out _ hf3) ?_; rintro e w6 ⟨rfl, rfl⟩)
      | fail)
    have hk3 := hf3.get Hk1.out (by omega)
    have Hk3 := Lib.hid hk3
    have Hf3 := Lib.hid hf3
    have Hd3 := Lib.hid hd3
    have Hfm := Lib.hid hfm
    simp only [odCells] at hk3
    clear hf3 hd3 hcv hk1 hfm HTd HNm HFi HFm
    have hcv := cellv w3
    have hfv := frozv w3
    go_wp2_with fail
    go_ret
    rw [Hfm.out]
    have hFc := (((((Fr.one o.kb w3 3 (.bool false)).trans (Fr.one o.kb _ 4 (.bool false))).trans (Fr.one o.kb _ 6 (.int .i64 0))).trans (Fr.one o.kb _ 7 (.int .i64 0))).trans (Fr.one o.kb _ 8 (.bool false))).trans (Fr.one o.kb _ 9 (.slice none 0 0))
    refine ⟨rfl, ⟨⟨d.format (o.ep + 1), Hd3.out.frame hFc (by rintro k rfl; exact ⟨hn1, hn2, _, Hk3.out, by simp [kindOf]⟩), by have := HD.out; rw [Hfm.out] at this; exact this⟩, ⟨.pointer none, 0, ?_⟩, ?_, ?_, Hn.out⟩, ?_⟩
    · simp only [hp_setCell, if_true, Hk3.out]; rfl
    · exact (((Hpt.out.fr HF1.out (fun e => hn3 e.symm)).fr Hf3.out (by rintro (e | e); exact hn4 e; exact hn5 e)).fr hFc (fun e => hn3 e.symm))
    · show o.ep + 1 + m ≤ 100000
      have := Hep.out; omega
    · exact ((HF1.out.mono (fun _ _ e => .inl e)).trans (Hf3.out.mono (fun _ _ e => .inr e))).trans (hFc.mono (fun _ _ e => .inl e))
end Go.Proofs.YtkafmfdipmhleaaGreatDoor

namespace Go.Proofs.YtkafmfdipmhleaaGreatDoor
open Go.RowKit Go.Maps

noncomputable def owR4 : Code := ((Tryz.f85.body).bind (regionAt 4)).getD .skip
noncomputable def owR8 : Code := ((Tryz.f85.body).bind (regionAt 8)).getD .skip
set_option maxRecDepth 100000 in
set_option maxHeartbeats 4000000 in
/-- w.keep = append(w.keep, o.A) -/
theorem ow_r4 (wb ob : Nat) (x : Int) (c0 c1 c3 c4 c5 : Value) (ks : List Int) (kv rv sv dv fv : Value) (B : Nat) (W : World)
    (hp : W.heap[wb]? = some (.cells #[kv, rv, sv, dv, fv] 118 (0, 0))) (hc : W.heap[ob]? = some (.cells #[c0, c1, .int .i64 x, c3, c4, c5] 112 (0, 0))) (ho : W.ownsRow B 3 1 kv ks.length (ks.map encZ)) (hB : B ≤ W.heap.size) (hl : ks.length < 2 ^ 30)
    {ds : List Deferred} {x1 x2 x4 x5 x6 x7 x8 x9 x10 x11 x12 x13 x14 x15 x16 x17 x18 x19 x20 x21 x22 x23 x24 x25 x26 x27 x28 x29 x30 x31 x32 x33 x34 x35 x36 x37 x38 x39 x40 x41 x42 x43 x44 x45 x46 x47 x48 x49 x50 x51 x52 x53 x54 x55 x56 x57 x58 x59 x60 x61 x62 x63 x64 x65 x66 x67 x68 x69 x70 x71 x72 x73 x74 x75 x76 x77 x78 x79 x80 x81 x82 x83 x84 x85 x86 x87 x88 x89 x90 x91 x92 x93 x94 x95 x96 x97 : Value} {Q : Exit → Act → World → Prop}
    (hQ : ∀ (y11 y12 y13 y14 y15 y16 y17 y18 y19 y20 y21 kv' : Value) (w' : World), Fr (fun k => k = wb ∨ kv.ownBlock = some k) W w' → w'.heap[wb]? = some (.cells #[kv', rv, sv, dv, fv] 118 (0, 0)) → w'.ownsRow B 3 1 kv' (ks ++ [x]).length ((ks ++ [x]).map encZ) → (∀ k, kv'.ownBlock = some k → kv.ownBlock = some k ∨ W.heap.size ≤ k) → Q .normal ⟨#[.pointer (some ⟨wb, 0, none⟩), x1, x2, .pointer (some ⟨ob, 0, none⟩), x4, x5, x6, x7, x8, x9, x10, y11, y12, y13, y14, y15, y16, y17, y18, y19, y20, y21, x22, x23, x24, x25, x26, x27, x28, x29, x30, x31, x32, x33, x34, x35, x36, x37, x38, x39, x40, x41, x42, x43, x44, x45, x46, x47, x48, x49, x50, x51, x52, x53, x54, x55, x56, x57, x58, x59, x60, x61, x62, x63, x64, x65, x66, x67, x68, x69, x70, x71, x72, x73, x74, x75, x76, x77, x78, x79, x80, x81, x82, x83, x84, x85, x86, x87, x88, x89, x90, x91, x92, x93, x94, x95, x96, x97], ds⟩ w') :
    Code.wp Tryz.prog owR4 Q ⟨#[.pointer (some ⟨wb, 0, none⟩), x1, x2, .pointer (some ⟨ob, 0, none⟩), x4, x5, x6, x7, x8, x9, x10, x11, x12, x13, x14, x15, x16, x17, x18, x19, x20, x21, x22, x23, x24, x25, x26, x27, x28, x29, x30, x31, x32, x33, x34, x35, x36, x37, x38, x39, x40, x41, x42, x43, x44, x45, x46, x47, x48, x49, x50, x51, x52, x53, x54, x55, x56, x57, x58, x59, x60, x61, x62, x63, x64, x65, x66, x67, x68, x69, x70, x71, x72, x73, x74, x75, x76, x77, x78, x79, x80, x81, x82, x83, x84, x85, x86, x87, x88, x89, x90, x91, x92, x93, x94, x95, x96, x97], ds⟩ W := by
  have hsh := own_slice ho
  obtain ⟨va, vm, vc, rfl⟩ := hsh
  have a1 : W.cell? ⟨wb, 0, none⟩ = some (.slice va vm vc) := by rw [cellv, hp]; rfl
  have f1 : W.frozen? ⟨wb, 0, none⟩ = false := by rw [frozv, hp]; rfl
  have c2 : W.cell? ⟨ob, 2, none⟩ = some (.int .i64 x) := by rw [cellv, hc]; rfl
  have hpe : (Value.slice va vm vc).ownBlock ≠ some wb := by
    intro e
    exact own_other ho hp (by simp [kindOf]) e
  have Hpb := Lib.hid hp
  have HF : Hid (∀ (w' : World), Fr (fun k => (Value.slice va vm vc).ownBlock = some k) W.drew w' → w'.heap[wb]? = some (.cells #[.slice va vm vc, rv, sv, dv, fv] 118 (0, 0))) := fun w' hf => hf.get (w := W.drew) hp hpe
  obtain ⟨i3, hi3, hz3, hs3, hb3⟩ := info_parts Tryz.info3z
  have hml : ks.length + 1 ≤ maxLen := by unfold maxLen; omega
  have hmb : (ks.length + 1) * 8 ≤ 140737488355328 := by omega
  have HO := Lib.hid ho
  have HQ := Lib.hid hQ
  have HB := Lib.hid hB
  clear hp hc ho hl hQ hB hpe
  conv => arg 2; whnf
  have hA : Hid (W.heap.size ≠ wb) := fun e => by have h := lt_of_hp Hpb.out; omega
  have hcell : ∀ (j : Nat) (u : Value), [Value.int .i64 x][j]? = some u → (W.drew.alloc (.cells #[.int .i64 x] 3)).cell? ((⟨W.heap.size, 0, none⟩ : Addr).add j) = some u := World.news_of_block (heap_alloc_new W.drew _)
  have Hcell := Lib.hid hcell
  clear hcell
  have aA : (W.alloc (.cells #[.int .i64 x] 3)).cell? ⟨wb, 0, none⟩ = some (.slice va vm vc) := by
    rw [cellv, heap_alloc_keep _ Hpb.out]; rfl
  refine wp_region_noPanic ?_
  go_region_law (first
    | (refine step_append_lies _ (by rfl) (.tmp 15) (.tmp 18) 22 (by rfl) B 3 i3 (.int .i64 0) 1 8 Tryz.underlying22 hi3 hz3 hs3 hb3 rfl (by omega) (.slice va vm vc) ks.length (ks.map encZ) (by rfl) ((ownsRow_drew HO.out).alloc _) ⟨W.heap.size, 0, none⟩ 1 1 [Value.int .i64 x] (by rfl) rfl Hcell.out (by intro u hu; simp at hu; subst hu; rfl) (by omega) hml hmb (Nat.le_trans HB.out (by simp)) _ rfl ?_; intro gq capq w3 hown3 hgrow3 hat3 hlt3; have hF3 := ((Fr.refl (fun k => (Value.slice va vm vc).ownBlock = some k) W.drew).alloc (.cells #[.int .i64 x] 3)).trans (Fr.ofGrown hgrow3); have hp3 := HF.out _ hF3; have hcv3 := cellv w3; have hfv3 := frozv w3)
    | fail)
  all_goals
    have hFa : Fr (fun k => k = wb ∨ (Value.slice va vm vc).ownBlock = some k) W w3 := (Fr.refl _ W).drew.trans (hF3.mono (fun _ _ h => .inr h))
    refine NoPanic.normal (HQ.out _ _ _ _ _ _ _ _ _ _ _ (.slice (some ⟨gq, 0, none⟩) (ks.length + 1) capq) _ (hFa.trans' (Fr.one wb w3 0 (.slice (some ⟨gq, 0, none⟩) (ks.length + 1) capq)) (fun _ _ e => .inl e)) ?_ ?_ ?_)
    · rw [hp_setCell, if_pos rfl, hp3]; rfl
    · have := ownsRow_fr hown3 (Fr.one wb w3 0 (.slice (some ⟨gq, 0, none⟩) (ks.length + 1) capq)) (by rintro k rfl; exact ⟨_, hp3, by simp [kindOf]⟩)
      rw [List.length_append, List.map_append]
      exact this
    · intro k hk
      simp only [Value.ownBlock, Option.some.injEq] at hk
      subst hk
      rcases hat3 with h | h
      · exact .inl h
      · right; rw [h]; simp
set_option maxRecDepth 100000 in
set_option maxHeartbeats 4000000 in
/-- w.replies = append(w.replies, o.A) -/
theorem ow_r8 (wb ob : Nat) (x : Int) (c0 c1 c3 c4 c5 : Value) (ks : List Int) (kv rv sv dv fv : Value) (B : Nat) (W : World)
    (hp : W.heap[wb]? = some (.cells #[rv, kv, sv, dv, fv] 118 (0, 0))) (hc : W.heap[ob]? = some (.cells #[c0, c1, .int .i64 x, c3, c4, c5] 112 (0, 0))) (ho : W.ownsRow B 3 1 kv ks.length (ks.map encZ)) (hB : B ≤ W.heap.size) (hl : ks.length < 2 ^ 30)
    {ds : List Deferred} {x1 x2 x4 x5 x6 x7 x8 x9 x10 x11 x12 x13 x14 x15 x16 x17 x18 x19 x20 x21 x22 x23 x24 x25 x26 x27 x28 x29 x30 x31 x32 x33 x34 x35 x36 x37 x38 x39 x40 x41 x42 x43 x44 x45 x46 x47 x48 x49 x50 x51 x52 x53 x54 x55 x56 x57 x58 x59 x60 x61 x62 x63 x64 x65 x66 x67 x68 x69 x70 x71 x72 x73 x74 x75 x76 x77 x78 x79 x80 x81 x82 x83 x84 x85 x86 x87 x88 x89 x90 x91 x92 x93 x94 x95 x96 x97 : Value} {Q : Exit → Act → World → Prop}
    (hQ : ∀ (y29 y30 y31 y32 y33 y34 y35 y36 y37 y38 y39 kv' : Value) (w' : World), Fr (fun k => k = wb ∨ kv.ownBlock = some k) W w' → w'.heap[wb]? = some (.cells #[rv, kv', sv, dv, fv] 118 (0, 0)) → w'.ownsRow B 3 1 kv' (ks ++ [x]).length ((ks ++ [x]).map encZ) → (∀ k, kv'.ownBlock = some k → kv.ownBlock = some k ∨ W.heap.size ≤ k) → Q .normal ⟨#[.pointer (some ⟨wb, 0, none⟩), x1, x2, .pointer (some ⟨ob, 0, none⟩), x4, x5, x6, x7, x8, x9, x10, x11, x12, x13, x14, x15, x16, x17, x18, x19, x20, x21, x22, x23, x24, x25, x26, x27, x28, y29, y30, y31, y32, y33, y34, y35, y36, y37, y38, y39, x40, x41, x42, x43, x44, x45, x46, x47, x48, x49, x50, x51, x52, x53, x54, x55, x56, x57, x58, x59, x60, x61, x62, x63, x64, x65, x66, x67, x68, x69, x70, x71, x72, x73, x74, x75, x76, x77, x78, x79, x80, x81, x82, x83, x84, x85, x86, x87, x88, x89, x90, x91, x92, x93, x94, x95, x96, x97], ds⟩ w') :
    Code.wp Tryz.prog owR8 Q ⟨#[.pointer (some ⟨wb, 0, none⟩), x1, x2, .pointer (some ⟨ob, 0, none⟩), x4, x5, x6, x7, x8, x9, x10, x11, x12, x13, x14, x15, x16, x17, x18, x19, x20, x21, x22, x23, x24, x25, x26, x27, x28, x29, x30, x31, x32, x33, x34, x35, x36, x37, x38, x39, x40, x41, x42, x43, x44, x45, x46, x47, x48, x49, x50, x51, x52, x53, x54, x55, x56, x57, x58, x59, x60, x61, x62, x63, x64, x65, x66, x67, x68, x69, x70, x71, x72, x73, x74, x75, x76, x77, x78, x79, x80, x81, x82, x83, x84, x85, x86, x87, x88, x89, x90, x91, x92, x93, x94, x95, x96, x97], ds⟩ W := by
  have hsh := own_slice ho
  obtain ⟨va, vm, vc, rfl⟩ := hsh
  have a1 : W.cell? ⟨wb, 1, none⟩ = some (.slice va vm vc) := by rw [cellv, hp]; rfl
  have f1 : W.frozen? ⟨wb, 1, none⟩ = false := by rw [frozv, hp]; rfl
  have c2 : W.cell? ⟨ob, 2, none⟩ = some (.int .i64 x) := by rw [cellv, hc]; rfl
  have hpe : (Value.slice va vm vc).ownBlock ≠ some wb := by
    intro e
    exact own_other ho hp (by simp [kindOf]) e
  have Hpb := Lib.hid hp
  have HF : Hid (∀ (w' : World), Fr (fun k => (Value.slice va vm vc).ownBlock = some k) W.drew w' → w'.heap[wb]? = some (.cells #[rv, .slice va vm vc, sv, dv, fv] 118 (0, 0))) := fun w' hf => hf.get (w := W.drew) hp hpe
  obtain ⟨i3, hi3, hz3, hs3, hb3⟩ := info_parts Tryz.info3z
  have hml : ks.length + 1 ≤ maxLen := by unfold maxLen; omega
  have hmb : (ks.length + 1) * 8 ≤ 140737488355328 := by omega
  have HO := Lib.hid ho
  have HQ := Lib.hid hQ
  have HB := Lib.hid hB
  clear hp hc ho hl hQ hB hpe
  conv => arg 2; whnf
  have hA : Hid (W.heap.size ≠ wb) := fun e => by have h := lt_of_hp Hpb.out; omega
  have hcell : ∀ (j : Nat) (u : Value), [Value.int .i64 x][j]? = some u → (W.drew.alloc (.cells #[.int .i64 x] 3)).cell? ((⟨W.heap.size, 0, none⟩ : Addr).add j) = some u := World.news_of_block (heap_alloc_new W.drew _)
  have Hcell := Lib.hid hcell
  clear hcell
  have aA : (W.alloc (.cells #[.int .i64 x] 3)).cell? ⟨wb, 1, none⟩ = some (.slice va vm vc) := by
    rw [cellv, heap_alloc_keep _ Hpb.out]; rfl
  refine wp_region_noPanic ?_
  go_region_law (first
    | (refine step_append_lies _ (by rfl) (.tmp 33) (.tmp 36) 22 (by rfl) B 3 i3 (.int .i64 0) 1 8 Tryz.underlying22 hi3 hz3 hs3 hb3 rfl (by omega) (.slice va vm vc) ks.length (ks.map encZ) (by rfl) ((ownsRow_drew HO.out).alloc _) ⟨W.heap.size, 0, none⟩ 1 1 [Value.int .i64 x] (by rfl) rfl Hcell.out (by intro u hu; simp at hu; subst hu; rfl) (by omega) hml hmb (Nat.le_trans HB.out (by simp)) _ rfl ?_; intro gq capq w3 hown3 hgrow3 hat3 hlt3; have hF3 := ((Fr.refl (fun k => (Value.slice va vm vc).ownBlock = some k) W.drew).alloc (.cells #[.int .i64 x] 3)).trans (Fr.ofGrown hgrow3); have hp3 := HF.out _ hF3; have hcv3 := cellv w3; have hfv3 := frozv w3)
    | fail)
  all_goals
    have hFa : Fr (fun k => k = wb ∨ (Value.slice va vm vc).ownBlock = some k) W w3 := (Fr.refl _ W).drew.trans (hF3.mono (fun _ _ h => .inr h))
    refine NoPanic.normal (HQ.out _ _ _ _ _ _ _ _ _ _ _ (.slice (some ⟨gq, 0, none⟩) (ks.length + 1) capq) _ (hFa.trans' (Fr.one wb w3 1 (.slice (some ⟨gq, 0, none⟩) (ks.length + 1) capq)) (fun _ _ e => .inl e)) ?_ ?_ ?_)
    · rw [hp_setCell, if_pos rfl, hp3]; rfl
    · have := ownsRow_fr hown3 (Fr.one wb w3 1 (.slice (some ⟨gq, 0, none⟩) (ks.length + 1) capq)) (by rintro k rfl; exact ⟨_, hp3, by simp [kindOf]⟩)
      rw [List.length_append, List.map_append]
      exact this
    · intro k hk
      simp only [Value.ownBlock, Option.some.injEq] at hk
      subst hk
      rcases hat3 with h | h
      · exact .inl h
      · right; rw [h]; simp
end Go.Proofs.YtkafmfdipmhleaaGreatDoor

namespace Go.Proofs.YtkafmfdipmhleaaGreatDoor
open Go.RowKit Go.Maps

noncomputable def owR16 : Code := ((Tryz.f85.body).bind (regionAt 16)).getD .skip
def NewD (W w : World) (n : Nat) (dv : Value) : Prop := ∃ db bb, dv = .pointer (some ⟨db, 0, none⟩) ∧ W.heap.size ≤ db ∧ W.heap.size ≤ bb ∧ DiskAt w db bb (DiskM.new n)
def NewP (W w : World) (pv : Value) : Prop := ∃ pb, pv = .pointer (some ⟨pb, 0, none⟩) ∧ W.heap.size ≤ pb ∧ FreshP w pb
theorem NewD.new {W w w' : World} {n : Nat} {dv : Value} (h : NewD W w n dv) (hf : New w w') : NewD W w' n dv := by
  obtain ⟨db, bb, h1, h2, h3, h4⟩ := h
  exact ⟨db, bb, h1, h2, h3, h4.new hf⟩
theorem NewP.new {W w w' : World} {pv : Value} (h : NewP W w pv) (hf : New w w') : NewP W w' pv := by
  obtain ⟨pb, h1, h2, h3⟩ := h
  exact ⟨pb, h1, h2, h3.fr hf (fun f => f)⟩
set_option maxRecDepth 100000 in
set_option maxHeartbeats 8000000 in
/-- d := &disk{..} -/
theorem ow_r16 (wb ob : Nat) (x : Int) (c0 c1 c3 c4 c5 : Value) (rs : List Int) (kv rv sv dv fv : Value) (W : World)
    (hp : W.heap[wb]? = some (.cells #[kv, rv, sv, dv, fv] 118 (0, 0))) (hc : W.heap[ob]? = some (.cells #[c0, c1, .int .i64 x, c3, c4, c5] 112 (0, 0))) (ho : IntsAt W rv rs) (hl : rs.length ≤ 100000)
    {ds : List Deferred} {x1 x2 x4 x5 x6 x7 x8 x9 x10 x11 x12 x13 x14 x15 x16 x17 x18 x19 x20 x21 x22 x23 x24 x25 x26 x27 x28 x29 x30 x31 x32 x33 x34 x35 x36 x37 x38 x39 x40 x41 x42 x43 x44 x45 x46 x47 x48 x49 x50 x51 x52 x53 x54 x55 x56 x57 x58 x59 x60 x61 x62 x63 x64 x65 x66 x67 x68 x69 x70 x71 x72 x73 x74 x75 x76 x77 x78 x79 x80 x81 x82 x83 x84 x85 x86 x87 x88 x89 x90 x91 x92 x93 x94 x95 x96 x97 : Value} {Q : Exit → Act → World → Prop}
    (hQ : ∀ (y66 y67 y68 y69 y70 y71 y72 y73 y74 y75 y76 y77 y78 dv2 pv2 : Value) (w3 : World), New W w3 → NewD W w3 (blkM x) dv2 → NewP W w3 pv2 → Q .normal ⟨#[.pointer (some ⟨wb, 0, none⟩), x1, x2, .pointer (some ⟨ob, 0, none⟩), x4, x5, .pointer (some ⟨w3.heap.size, 0, none⟩), x7, x8, x9, x10, x11, x12, x13, x14, x15, x16, x17, x18, x19, x20, x21, x22, x23, x24, x25, x26, x27, x28, x29, x30, x31, x32, x33, x34, x35, x36, x37, x38, x39, x40, x41, x42, x43, x44, x45, x46, x47, x48, x49, x50, x51, x52, x53, x54, x55, x56, x57, x58, x59, x60, x61, x62, x63, x64, x65, y66, y67, y68, y69, y70, y71, y72, y73, y74, y75, y76, y77, y78, x79, x80, x81, x82, x83, x84, x85, x86, x87, x88, x89, x90, x91, x92, x93, x94, x95, x96, x97], ds⟩ (w3.alloc (.cells #[dv2, pv2, .int .i64 (blkM x), .bool true, .bool false, .pointer none, .int .i64 0, .int .i64 0, .bool false, .slice none 0 0] 165))) :
    Code.wp Tryz.prog owR16 Q ⟨#[.pointer (some ⟨wb, 0, none⟩), x1, x2, .pointer (some ⟨ob, 0, none⟩), x4, x5, x6, x7, x8, x9, x10, x11, x12, x13, x14, x15, x16, x17, x18, x19, x20, x21, x22, x23, x24, x25, x26, x27, x28, x29, x30, x31, x32, x33, x34, x35, x36, x37, x38, x39, x40, x41, x42, x43, x44, x45, x46, x47, x48, x49, x50, x51, x52, x53, x54, x55, x56, x57, x58, x59, x60, x61, x62, x63, x64, x65, x66, x67, x68, x69, x70, x71, x72, x73, x74, x75, x76, x77, x78, x79, x80, x81, x82, x83, x84, x85, x86, x87, x88, x89, x90, x91, x92, x93, x94, x95, x96, x97], ds⟩ W := by
  obtain ⟨va, vc, rfl⟩ := ho.shape
  generalize hvm : rs.length = vm at *
  have HS : Hid (∀ w', New W w' → w'.cell? ⟨ob, 2, none⟩ = some (.int .i64 x) ∧ w'.cell? ⟨wb, 1, none⟩ = some (.slice va vm vc)) := by
    intro w' hf
    rw [cellv, cellv, hf.get hp (fun f => f), hf.get hc (fun f => f)]
    exact ⟨rfl, rfl⟩
  have HB := Lib.hid (fun (w' : World) => blocks_calls w' x)
  have HD := Lib.hid (fun (w' : World) => NewDisk_all w' x)
  have HP := Lib.hid (fun (w' : World) (hf : New W w') => NewPartner_all (ho.new hf) (by rw [hvm]; exact hl))
  have HQ := Lib.hid hQ
  have hn0 : New W W.drew := (Fr.refl _ W).drew
  clear hp hc ho hl hQ
  conv => arg 2; whnf
  refine wp_region_noPanic ?_
  refine wp_region_held_drew (S := (fun w' => w'.cell? ⟨ob, 2, none⟩ = some (.int .i64 x) ∧ w'.cell? ⟨wb, 1, none⟩ = some (.slice va vm vc))) (by kernel_rfl) (HS.out _ hn0) (fun hHeld => ?_)
  refine wpAnyH_take (i := 0) (v := ?vz0) rfl (by kernel_rfl) (by kernel_rfl) (by kernel_rfl) (fun _ _ _ h => h) (Or.inl ⟨by rfl, ?yz0⟩) hHeld ?rz0
  case yz0 => intro w hSw; (try dsimp only at hSw); go_simp; (try with_reducible rfl)
  simp only [List.getElem_toArray, List.getElem_cons_zero, List.getElem_cons_succ, Act.put, List.setIfInBounds_toArray, List.set_cons_zero, List.set_cons_succ]
  refine wpAnyH_take (i := 1) (v := ?vz1) rfl (by kernel_rfl) (by kernel_rfl) (by kernel_rfl) (fun _ _ _ h => h) (Or.inl ⟨by rfl, ?yz1⟩) hHeld ?rz1
  case yz1 => intro w hSw; (try dsimp only at hSw); go_simp; (try with_reducible rfl)
  simp only [List.getElem_toArray, List.getElem_cons_zero, List.getElem_cons_succ, Act.put, List.setIfInBounds_toArray, List.set_cons_zero, List.set_cons_succ]
  refine wpAnyH_take (i := 3) (v := ?vz3) rfl (by kernel_rfl) (by kernel_rfl) (by kernel_rfl) (fun _ _ _ h => h) (Or.inl ⟨by rfl, ?yz3⟩) hHeld ?rz3
  case yz3 => intro w hSw; (try dsimp only at hSw); go_simp; (try with_reducible rfl)
  simp only [List.getElem_toArray, List.getElem_cons_zero, List.getElem_cons_succ, Act.put, List.setIfInBounds_toArray, List.set_cons_zero, List.set_cons_succ]
  refine wpAnyH_take (i := 4) (v := ?vz4) rfl (by kernel_rfl) (by kernel_rfl) (by kernel_rfl) (fun _ _ _ h => h) (Or.inl ⟨by rfl, ?yz4⟩) hHeld ?rz4
  case yz4 => intro w hSw; (try dsimp only at hSw); go_simp; (try with_reducible rfl)
  simp only [List.getElem_toArray, List.getElem_cons_zero, List.getElem_cons_succ, Act.put, List.setIfInBounds_toArray, List.set_cons_zero, List.set_cons_succ]
  refine wpAnyH_take (i := 5) (v := ?vz5) rfl (by kernel_rfl) (by kernel_rfl) (by kernel_rfl) (fun _ _ _ h => h) (Or.inl ⟨by rfl, ?yz5⟩) hHeld ?rz5
  case yz5 => intro w hSw; (try dsimp only at hSw); go_simp; (try with_reducible rfl)
  simp only [List.getElem_toArray, List.getElem_cons_zero, List.getElem_cons_succ, Act.put, List.setIfInBounds_toArray, List.set_cons_zero, List.set_cons_succ]
  refine wpAnyH_take (i := 6) (v := ?vz6) rfl (by kernel_rfl) (by kernel_rfl) (by kernel_rfl) (fun _ _ _ h => h) (Or.inl ⟨by rfl, ?yz6⟩) hHeld ?rz6
  case yz6 => intro w hSw; (try dsimp only at hSw); go_simp; (try with_reducible rfl)
  simp only [List.getElem_toArray, List.getElem_cons_zero, List.getElem_cons_succ, Act.put, List.setIfInBounds_toArray, List.set_cons_zero, List.set_cons_succ]
  refine wpAnyH_take (i := 8) (v := ?vz8) rfl (by kernel_rfl) (by kernel_rfl) (by kernel_rfl) (fun _ _ _ h => h) (Or.inl ⟨by rfl, ?yz8⟩) hHeld ?rz8
  case yz8 => intro w hSw; (try dsimp only at hSw); go_simp; (try with_reducible rfl)
  simp only [List.getElem_toArray, List.getElem_cons_zero, List.getElem_cons_succ, Act.put, List.setIfInBounds_toArray, List.set_cons_zero, List.set_cons_succ]
  refine wpAnyH_take (i := 9) (v := ?vz9) rfl (by kernel_rfl) (by kernel_rfl) (by kernel_rfl) (fun _ _ _ h => h) (Or.inl ⟨by rfl, ?yz9⟩) hHeld ?rz9
  case yz9 => intro w hSw; (try dsimp only at hSw); go_simp; (try with_reducible rfl)
  simp only [List.getElem_toArray, List.getElem_cons_zero, List.getElem_cons_succ, Act.put, List.setIfInBounds_toArray, List.set_cons_zero, List.set_cons_succ]
  refine wpAnyH_ready (rs := [2]) (by kernel_rfl) (by simp) ?_
  refine AllReadyH.cons rfl (fun K hK => ?_) AllReadyH.nil
  · go_simp
    go_at_call 38
    refine Calls.mono (HD.out _) ?_
    rintro e w38_2 ⟨hf38_2, db2, bb2, hdb2, hbb2, rfl, hd2⟩
    refine Shut.out hK _ _ (HS.out _ ((hn0).trans hf38_2)) ?_
    clear hK K
    intro hHeld2_2
    try simp only [List.getElem_toArray, List.getElem_cons_zero, List.getElem_cons_succ, Act.put, List.setIfInBounds_toArray, List.set_cons_zero, List.set_cons_succ]
    refine wpAnyH_ready (rs := [7]) (by kernel_rfl) (by simp) ?_
    refine AllReadyH.cons rfl (fun K hK => ?_) AllReadyH.nil
    · go_simp
      go_at_call 15
      refine Calls.mono (HP.out _ ((hn0).trans hf38_2)) ?_
      rintro e w15_4 ⟨pb4, rfl, hpb4, hq4, hf15_4⟩
      refine Shut.out hK _ _ (HS.out _ ((((hn0).trans hf38_2)).trans hf15_4)) ?_
      clear hK K
      intro hHeld4_7
      try simp only [List.getElem_toArray, List.getElem_cons_zero, List.getElem_cons_succ, Act.put, List.setIfInBounds_toArray, List.set_cons_zero, List.set_cons_succ]
      refine wpAnyH_ready (rs := [10]) (by kernel_rfl) (by simp) ?_
      refine AllReadyH.cons rfl (fun K hK => ?_) AllReadyH.nil
      · go_simp
        go_at_call 107
        refine Calls.mono (HB.out _) ?_
        rintro e w107_6 ⟨rfl, rfl⟩
        refine Shut.out hK _ _ (HS.out _ ((((hn0).trans hf38_2)).trans hf15_4)) ?_
        clear hK K
        intro hHeld6_10
        try simp only [List.getElem_toArray, List.getElem_cons_zero, List.getElem_cons_succ, Act.put, List.setIfInBounds_toArray, List.set_cons_zero, List.set_cons_succ]
        refine wpAnyH_take (i := 11) (v := ?vq1_11) rfl (by kernel_rfl) (by kernel_rfl) (by kernel_rfl) (fun _ _ _ h => h) (Or.inl ⟨by rfl, ?yq1_11⟩) hHeld6_10 ?rq1_11
        case yq1_11 => intro w hSw; (try dsimp only at hSw); go_simp; (try with_reducible rfl)
        simp only [List.getElem_toArray, List.getElem_cons_zero, List.getElem_cons_succ, Act.put, List.setIfInBounds_toArray, List.set_cons_zero, List.set_cons_succ]
        refine wpAnyH_ready (rs := [12]) (by kernel_rfl) (by simp) ?_
        refine AllReadyH.cons rfl (fun K hK => ?_) AllReadyH.nil
        go_simp
        refine Shut.out hK _ _ (HS.out _ ((((((hn0).trans hf38_2)).trans hf15_4)).alloc _)) ?_
        clear hK K
        intro hHeldZ
        try simp only [List.getElem_toArray, List.getElem_cons_zero, List.getElem_cons_succ, Act.put, List.setIfInBounds_toArray, List.set_cons_zero, List.set_cons_succ]
        refine wpAnyH_take (i := 13) (v := ?vr1_13) rfl (by kernel_rfl) (by kernel_rfl) (by kernel_rfl) (fun _ _ _ h => h) (Or.inl ⟨by rfl, ?yr1_13⟩) hHeldZ ?rr1_13
        case yr1_13 => intro w hSw; (try dsimp only at hSw); go_simp; (try with_reducible rfl)
        simp only [List.getElem_toArray, List.getElem_cons_zero, List.getElem_cons_succ, Act.put, List.setIfInBounds_toArray, List.set_cons_zero, List.set_cons_succ]
        refine wpAnyH_done (by kernel_rfl) ?_ _
        refine NoPanic.normal ?_
        exact HQ.out _ _ _ _ _ _ _ _ _ _ _ _ _ _ _ w15_4 ((((hn0).trans hf38_2)).trans hf15_4) ((show NewD W w38_2 (blkM x) _ from ⟨db2, bb2, rfl, Nat.le_trans (hn0).size hdb2, Nat.le_trans (hn0).size hbb2, hd2⟩).new hf15_4) (show NewP W w15_4 _ from ⟨pb4, rfl, Nat.le_trans (((hn0).trans hf38_2)).size hpb4, hq4⟩)
end Go.Proofs.YtkafmfdipmhleaaGreatDoor

namespace Go.Proofs.YtkafmfdipmhleaaGreatDoor
open Go.RowKit Go.Maps

theorem below_new {w w' : World} (h : Below w.heap.size w w') : New w w' := (Fr.ofGrown (grown_below h)).mono (fun _ _ e => by cases e)
set_option maxRecDepth 100000 in
set_option maxHeartbeats 4000000 in
/-- An empty journal was opened. -/
theorem found_calls {w : World} {m : Nat} {o : OD} {q : Pl} {s : StM} {pause : Int} (h : OdAt w m o) (hE : EvAt w q [] s) (hs : s.sagas = []) (he : o.ep ≠ 0) :
    Calls Tryz.prog 110 #[.pointer (some ⟨o.kb, 0, none⟩), .pointer (some ⟨q.xb, 0, none⟩), .int .i64 pause] w fun e w' => e = .returned (.bool true) ∧ OdAt w' m o ∧ Fr (· = o.kb) w w' := by
  obtain ⟨hn1, hn2, hn3, hn4, hn5⟩ := od_ne h
  obtain ⟨d, hd, hD⟩ := h.dk
  obtain ⟨xv, pz, hk⟩ := h.st
  have hA := All_e (M := 1048576) hE (by rw [hs]; exact List.Pairwise.nil) (by rw [hs]; intro g hg; simp at hg) (by rw [hs]; exact ⟨by simp, by simp⟩) (by omega)
  rw [hs] at hA
  have HA := Lib.hid hA
  have Hpt := Lib.hid h.pt
  have Hep := Lib.hid h.ep
  have Hn := Lib.hid h.n
  have Hk := Lib.hid hk
  have HD := Lib.hid hD
  have Hd := Lib.hid hd
  have hpe : d.pending = 0 := by unfold DiskM.pending; rw [hD.pend]
  have hdec : decide (o.ep = 0) = false := by simp [he]
  have Hdec := Lib.hid hdec
  clear hA hE hs h hD hd hk
  go_enter Tryz.func110, Tryz.ntmps110
  go_upto_region 2 with (first
    | (go_at_call 32; refine Calls.mono HA.out ?_; rintro e w1 ⟨v, rfl, hown, hbel⟩; obtain ⟨va, vc, rfl⟩ : ∃ va vc, v = .slice va 0 vc := (by
        rcases hown.2 with ⟨h1, h2⟩ | ⟨g, cap, cur, h1, _⟩
        · exact ⟨none, 0, by rw [h1]⟩
        · exact ⟨_, _, h1⟩))
    | fail)
  have hf1 := below_new hbel
  have Hf1 := Lib.hid hf1
  have hk1 := hf1.get Hk.out (fun f => f)
  have Hk1 := Lib.hid hk1
  have HP := Lib.hid (Pending_calls (Hd.out.new hf1))
  rw [hpe] at HP
  simp only [odCells] at hk1
  rw [hdec] at hk1
  clear hbel hown hf1 HA hpe hdec
  have hcv := cellv w1
  have hfv := frozv w1
  go_wp2_with (first
    | (go_at_call 31; refine Calls.mono HP.out ?_; rintro e w2 ⟨rfl, rfl⟩)
    | fail)
  refine wp_loop_rounds 1 ?_
  rw [rounds_succ]
  go_wp2_with fail
  go_ret
  have hFc := ((((((Fr.one o.kb w1 5 (.pointer (some ⟨q.xb, 0, none⟩))).trans (Fr.one o.kb _ 6 (.int .i64 pause))).trans (Fr.one o.kb _ 7 (.int .i64 0))).trans (Fr.one o.kb _ 8 (.bool false))).trans (Fr.one o.kb _ 9 (.slice none 0 0))).trans (Fr.one o.kb _ 3 (.bool false))).trans (Fr.one o.kb _ 4 (.bool false))
  refine ⟨rfl, ⟨⟨d, (Hd.out.new Hf1.out).frame hFc (by rintro k rfl; exact ⟨hn1, hn2, _, Hk1.out, by simp [kindOf]⟩), HD.out⟩, ⟨.pointer (some ⟨q.xb, 0, none⟩), pause, ?_⟩, (Hpt.out.fr Hf1.out (fun f => f)).fr hFc (fun e => hn3 e.symm), Hep.out, Hn.out⟩, (Hf1.out.mono (fun _ _ f => f.elim)).trans hFc⟩
  simp only [hp_setCell, if_true, Hk1.out, odCells, Hdec.out]; rfl
noncomputable def opR6 : Code := ((Tryz.f89.body).bind (regionAt 6)).getD .skip
set_option maxRecDepth 100000 in
set_option maxHeartbeats 4000000 in
/-- x, err := plain.Open(d.d, pause, d.p) -/
theorem op_r6 (kb db pb : Nat) (pv : Value) (W : World) (R : Value → Value → World → Prop) (hc0 : W.cell? ⟨kb, 0, none⟩ = some (.pointer (some ⟨db, 0, none⟩))) (hc1 : W.cell? ⟨kb, 1, none⟩ = some (.pointer (some ⟨pb, 0, none⟩)))
    (hC : Calls Tryz.prog 30 #[.pointer (some ⟨db, 0, none⟩), pv, .pointer (some ⟨pb, 0, none⟩)] W.drew fun e w' => ∃ xv ev, e = .returned (.tuple #[xv, ev]) ∧ R xv ev w' ∧ w'.cell? ⟨kb, 0, none⟩ = some (.pointer (some ⟨db, 0, none⟩)) ∧ w'.cell? ⟨kb, 1, none⟩ = some (.pointer (some ⟨pb, 0, none⟩)))
    {ds : List Deferred} {x2 x3 x4 x5 x6 x7 x8 x9 x10 x11 x12 x13 x14 x15 x16 x17 x18 x19 x20 x21 x22 x23 x24 x25 x26 x27 x28 x29 x30 x31 x32 x33 x34 x35 x36 x37 x38 x39 x40 x41 x42 x43 x44 x45 x46 x47 x48 x49 x50 x51 x52 x53 x54 x55 x56 x57 x58 x59 x60 x61 x62 x63 x64 x65 x66 x67 x68 x69 x70 x71 x72 x73 x74 x75 x76 x77 x78 x79 x80 x81 x82 x83 x84 x85 x86 x87 x88 x89 x90 x91 x92 x93 x94 x95 x96 x97 x98 x99 x100 x101 x102 x103 x104 x105 x106 x107 x108 x109 x110 x111 x112 x113 x114 x115 x116 x117 x118 x119 x120 x121 x122 x123 x124 x125 x126 x127 x128 x129 x130 x131 x132 : Value} {Q : Exit → Act → World → Prop}
    (hQ : ∀ (y41 y42 y43 y44 y45 y46 y47 y48 y49 y50 y51 y52 y53 xv ev : Value) (w' : World), R xv ev w' → Q .normal ⟨#[.pointer (some ⟨kb, 0, none⟩), pv, x2, x3, x4, x5, x6, x7, x8, xv, ev, x11, x12, x13, x14, x15, x16, x17, x18, x19, x20, x21, x22, x23, x24, x25, x26, x27, x28, x29, x30, x31, x32, x33, x34, x35, x36, x37, x38, x39, x40, y41, y42, y43, y44, y45, y46, y47, y48, y49, y50, y51, y52, y53, x54, x55, x56, x57, x58, x59, x60, x61, x62, x63, x64, x65, x66, x67, x68, x69, x70, x71, x72, x73, x74, x75, x76, x77, x78, x79, x80, x81, x82, x83, x84, x85, x86, x87, x88, x89, x90, x91, x92, x93, x94, x95, x96, x97, x98, x99, x100, x101, x102, x103, x104, x105, x106, x107, x108, x109, x110, x111, x112, x113, x114, x115, x116, x117, x118, x119, x120, x121, x122, x123, x124, x125, x126, x127, x128, x129, x130, x131, x132], ds⟩ w') :
    Code.wp Tryz.prog opR6 Q ⟨#[.pointer (some ⟨kb, 0, none⟩), pv, x2, x3, x4, x5, x6, x7, x8, x9, x10, x11, x12, x13, x14, x15, x16, x17, x18, x19, x20, x21, x22, x23, x24, x25, x26, x27, x28, x29, x30, x31, x32, x33, x34, x35, x36, x37, x38, x39, x40, x41, x42, x43, x44, x45, x46, x47, x48, x49, x50, x51, x52, x53, x54, x55, x56, x57, x58, x59, x60, x61, x62, x63, x64, x65, x66, x67, x68, x69, x70, x71, x72, x73, x74, x75, x76, x77, x78, x79, x80, x81, x82, x83, x84, x85, x86, x87, x88, x89, x90, x91, x92, x93, x94, x95, x96, x97, x98, x99, x100, x101, x102, x103, x104, x105, x106, x107, x108, x109, x110, x111, x112, x113, x114, x115, x116, x117, x118, x119, x120, x121, x122, x123, x124, x125, x126, x127, x128, x129, x130, x131, x132], ds⟩ W := by
  have HQ := Lib.hid hQ
  have HC := Lib.hid hC
  clear hQ hC
  conv => arg 2; whnf
  refine wp_region_noPanic ?_
  refine wp_region_held_drew (S := (fun w' => w'.cell? ⟨kb, 0, none⟩ = some (.pointer (some ⟨db, 0, none⟩)) ∧ w'.cell? ⟨kb, 1, none⟩ = some (.pointer (some ⟨pb, 0, none⟩)))) (by kernel_rfl) ⟨hc0, hc1⟩ (fun hHeld => ?_)
  refine wpAnyH_take (i := 0) (v := ?vo0) rfl (by kernel_rfl) (by kernel_rfl) (by kernel_rfl) (fun _ _ _ h => h) (Or.inl ⟨by rfl, ?yo0⟩) hHeld ?ro0
  case yo0 => intro w hSw; (try dsimp only at hSw); go_simp; (try with_reducible rfl)
  simp only [List.getElem_toArray, List.getElem_cons_zero, List.getElem_cons_succ, Act.put, List.setIfInBounds_toArray, List.set_cons_zero, List.set_cons_succ]
  refine wpAnyH_take (i := 1) (v := ?vo1) rfl (by kernel_rfl) (by kernel_rfl) (by kernel_rfl) (fun _ _ _ h => h) (Or.inl ⟨by rfl, ?yo1⟩) hHeld ?ro1
  case yo1 => intro w hSw; (try dsimp only at hSw); go_simp; (try with_reducible rfl)
  simp only [List.getElem_toArray, List.getElem_cons_zero, List.getElem_cons_succ, Act.put, List.setIfInBounds_toArray, List.set_cons_zero, List.set_cons_succ]
  refine wpAnyH_take (i := 2) (v := ?vo2) rfl (by kernel_rfl) (by kernel_rfl) (by kernel_rfl) (fun _ _ _ h => h) (Or.inl ⟨by rfl, ?yo2⟩) hHeld ?ro2
  case yo2 => intro w hSw; (try dsimp only at hSw); go_simp; (try with_reducible rfl)
  simp only [List.getElem_toArray, List.getElem_cons_zero, List.getElem_cons_succ, Act.put, List.setIfInBounds_toArray, List.set_cons_zero, List.set_cons_succ]
  refine wpAnyH_take (i := 3) (v := ?vo3) rfl (by kernel_rfl) (by kernel_rfl) (by kernel_rfl) (fun _ _ _ h => h) (Or.inl ⟨by rfl, ?yo3⟩) hHeld ?ro3
  case yo3 => intro w hSw; (try dsimp only at hSw); go_simp; (try with_reducible rfl)
  simp only [List.getElem_toArray, List.getElem_cons_zero, List.getElem_cons_succ, Act.put, List.setIfInBounds_toArray, List.set_cons_zero, List.set_cons_succ]
  refine wpAnyH_take (i := 4) (v := ?vo4) rfl (by kernel_rfl) (by kernel_rfl) (by kernel_rfl) (fun _ _ _ h => h) (Or.inl ⟨by rfl, ?yo4⟩) hHeld ?ro4
  case yo4 => intro w hSw; (try dsimp only at hSw); go_simp; (try with_reducible rfl)
  simp only [List.getElem_toArray, List.getElem_cons_zero, List.getElem_cons_succ, Act.put, List.setIfInBounds_toArray, List.set_cons_zero, List.set_cons_succ]
  refine wpAnyH_take (i := 5) (v := ?vo5) rfl (by kernel_rfl) (by kernel_rfl) (by kernel_rfl) (fun _ _ _ h => h) (Or.inl ⟨by rfl, ?yo5⟩) hHeld ?ro5
  case yo5 => intro w hSw; (try dsimp only at hSw); go_simp; (try with_reducible rfl)
  simp only [List.getElem_toArray, List.getElem_cons_zero, List.getElem_cons_succ, Act.put, List.setIfInBounds_toArray, List.set_cons_zero, List.set_cons_succ]
  refine wpAnyH_take (i := 6) (v := ?vo6) rfl (by kernel_rfl) (by kernel_rfl) (by kernel_rfl) (fun _ _ _ h => h) (Or.inl ⟨by rfl, ?yo6⟩) hHeld ?ro6
  case yo6 => intro w hSw; (try dsimp only at hSw); go_simp; (try with_reducible rfl)
  simp only [List.getElem_toArray, List.getElem_cons_zero, List.getElem_cons_succ, Act.put, List.setIfInBounds_toArray, List.set_cons_zero, List.set_cons_succ]
  refine wpAnyH_take (i := 7) (v := ?vo7) rfl (by kernel_rfl) (by kernel_rfl) (by kernel_rfl) (fun _ _ _ h => h) (Or.inl ⟨by rfl, ?yo7⟩) hHeld ?ro7
  case yo7 => intro w hSw; (try dsimp only at hSw); go_simp; (try with_reducible rfl)
  simp only [List.getElem_toArray, List.getElem_cons_zero, List.getElem_cons_succ, Act.put, List.setIfInBounds_toArray, List.set_cons_zero, List.set_cons_succ]
  refine wpAnyH_take (i := 8) (v := ?vo8) rfl (by kernel_rfl) (by kernel_rfl) (by kernel_rfl) (fun _ _ _ h => h) (Or.inl ⟨by rfl, ?yo8⟩) hHeld ?ro8
  case yo8 => intro w hSw; (try dsimp only at hSw); go_simp; (try with_reducible rfl)
  simp only [List.getElem_toArray, List.getElem_cons_zero, List.getElem_cons_succ, Act.put, List.setIfInBounds_toArray, List.set_cons_zero, List.set_cons_succ]
  refine wpAnyH_ready (rs := [9]) (by kernel_rfl) (by simp) ?_
  refine AllReadyH.cons rfl (fun K hK => ?_) AllReadyH.nil
  go_simp
  go_at_call 30
  refine Calls.mono HC.out ?_
  rintro e w2 ⟨xv, ev, rfl, hR, hS2⟩
  refine Shut.out hK _ _ hS2 ?_
  clear hK K
  intro hHeld2
  clear hHeld
  try simp only [List.getElem_toArray, List.getElem_cons_zero, List.getElem_cons_succ, Act.put, List.setIfInBounds_toArray, List.set_cons_zero, List.set_cons_succ]
  refine wpAnyH_take (i := 10) (v := ?vp10) rfl (by kernel_rfl) (by kernel_rfl) (by kernel_rfl) (fun _ _ _ h => h) (Or.inl ⟨by rfl, ?yp10⟩) hHeld2 ?rp10
  case yp10 => intro w hSw; (try dsimp only at hSw); go_simp; (try with_reducible rfl)
  simp only [List.getElem_toArray, List.getElem_cons_zero, List.getElem_cons_succ, Act.put, List.setIfInBounds_toArray, List.set_cons_zero, List.set_cons_succ]
  refine wpAnyH_take (i := 11) (v := ?vp11) rfl (by kernel_rfl) (by kernel_rfl) (by kernel_rfl) (fun _ _ _ h => h) (Or.inl ⟨by rfl, ?yp11⟩) hHeld2 ?rp11
  case yp11 => intro w hSw; (try dsimp only at hSw); go_simp; (try with_reducible rfl)
  simp only [List.getElem_toArray, List.getElem_cons_zero, List.getElem_cons_succ, Act.put, List.setIfInBounds_toArray, List.set_cons_zero, List.set_cons_succ]
  refine wpAnyH_take (i := 12) (v := ?vp12) rfl (by kernel_rfl) (by kernel_rfl) (by kernel_rfl) (fun _ _ _ h => h) (Or.inl ⟨by rfl, ?yp12⟩) hHeld2 ?rp12
  case yp12 => intro w hSw; (try dsimp only at hSw); go_simp; (try with_reducible rfl)
  simp only [List.getElem_toArray, List.getElem_cons_zero, List.getElem_cons_succ, Act.put, List.setIfInBounds_toArray, List.set_cons_zero, List.set_cons_succ]
  refine wpAnyH_take (i := 13) (v := ?vp13) rfl (by kernel_rfl) (by kernel_rfl) (by kernel_rfl) (fun _ _ _ h => h) (Or.inl ⟨by rfl, ?yp13⟩) hHeld2 ?rp13
  case yp13 => intro w hSw; (try dsimp only at hSw); go_simp; (try with_reducible rfl)
  simp only [List.getElem_toArray, List.getElem_cons_zero, List.getElem_cons_succ, Act.put, List.setIfInBounds_toArray, List.set_cons_zero, List.set_cons_succ]
  refine wpAnyH_take (i := 14) (v := ?vp14) rfl (by kernel_rfl) (by kernel_rfl) (by kernel_rfl) (fun _ _ _ h => h) (Or.inl ⟨by rfl, ?yp14⟩) hHeld2 ?rp14
  case yp14 => intro w hSw; (try dsimp only at hSw); go_simp; (try with_reducible rfl)
  simp only [List.getElem_toArray, List.getElem_cons_zero, List.getElem_cons_succ, Act.put, List.setIfInBounds_toArray, List.set_cons_zero, List.set_cons_succ]
  refine wpAnyH_done (by kernel_rfl) ?_ _
  refine NoPanic.normal ?_
  exact HQ.out _ _ _ _ _ _ _ _ _ _ _ _ _ xv ev w2 hR
end Go.Proofs.YtkafmfdipmhleaaGreatDoor
