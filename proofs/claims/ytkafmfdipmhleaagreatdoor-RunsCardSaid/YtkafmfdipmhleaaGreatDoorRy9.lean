/-
  What is proved: a journal of any epoch on a disk's blocks, elder records behind it: Format, a saga more, a move more. (No program in sight.) a turn, a Tick and a Submit keep an engine's state and its journal's records together. (No program in sight.) the reference's list of sagas in memory: it is read; Find, Has, Same, Whole. the reference's Room and Same, and the script's steps and still. the script's steps and still.
-/
import Derived.Test.YtkafmfdipmhleaaGreatDoorRy8
import Derived.BigQuiet

namespace Go.Proofs.YtkafmfdipmhleaaGreatDoor
open Go.RowKit
/-- A block that holds nothing, or a record of an epoch below ep. -/
def OldB (b : List UInt8) (ep : Nat) : Prop := b = zer ∨ ∃ r : RecM, b = padB (recBytes r) ∧ r.ok ∧ (2 ≤ r.kind ∧ r.kind ≤ 4) ∧ r.epoch < ep
theorem OldB.mono {b : List UInt8} {e f : Nat} (h : OldB b e) (hf : e ≤ f) : OldB b f := by
  rcases h with h | ⟨r, h1, h2, h3, h4⟩
  · exact .inl h
  · exact .inr ⟨r, h1, h2, h3, by omega⟩
theorem OldB.parse {b : List UInt8} {e : Nat} (h : OldB b e) : ∃ r ok, parseM b = some (r, ok) ∧ (ok = true → r.epoch < e) := by
  rcases h with rfl | ⟨r, rfl, h2, h3, h4⟩
  · obtain ⟨r, hr⟩ := parse_zer
    exact ⟨r, false, hr, fun h => by cases h⟩
  · exact ⟨r, true, parse_rec r h2 (by omega), fun _ => h4⟩
/-- A journal on blocks. -/
structure JE (bs : List (List UInt8)) (ep : Nat) (evs : List Ev) : Prop where
  hdr : bs.getD 0 [] = if ep = 0 then zer else hdrE ep
  all : ∀ i, 1 ≤ i → i < bs.length → OldB (bs.getD i []) (ep + 1)
  old : ∀ i, 1 + evLen evs ≤ i → i < bs.length → OldB (bs.getD i []) ep
  on : EvsOn (rawD bs) ep 1 evs
  ok : EvsOk [] evs
  z : ep = 0 → evs = []
theorem JE.zero (n : Nat) (hn : 0 < n) : JE (List.replicate n zer) 0 [] := by
  have hz : ∀ i, i < n → (List.replicate n zer).getD i [] = zer := fun i hi => by rw [List.getD_eq_getElem?_getD, List.getElem?_replicate, if_pos hi]; rfl
  refine ⟨by rw [if_pos rfl]; exact hz 0 hn, fun i _ hi => .inl (hz i (by simpa using hi)), fun i _ hi => .inl (hz i (by simpa using hi)), trivial, trivial, fun _ => rfl⟩
theorem JE.fmt {bs : List (List UInt8)} {ep : Nat} {evs : List Ev} (h : JE bs ep evs) (hn : 0 < bs.length) : JE (bs.set 0 (hdrE (ep + 1))) (ep + 1) [] := by
  refine ⟨?_, ?_, ?_, trivial, trivial, fun h => by omega⟩
  · rw [if_neg (by omega), getD_set_self _ _ _ hn]
  · intro i h1 h2
    rw [getD_set_ne _ _ _ _ (by omega)]
    exact (h.all i h1 (by simpa using h2)).mono (by omega)
  · intro i h1 h2
    rw [getD_set_ne _ _ _ _ (by omega)]
    exact h.all i (by have : evLen [] = 0 := rfl; omega) (by simpa using h2)
def bodB (id : Int) (l : List (ByteArray × ByteArray)) (ep ix : Nat) : List UInt8 := padB (recBytes (placed (bodyRec id l) ep ix))
def takB (id : Int) (ep ix : Nat) : List UInt8 := padB (recBytes (placed (takenRec id) ep ix))
def movB (id rp : Int) (ep ix : Nat) : List UInt8 := padB (recBytes (placed ⟨4, 0, 0, id.toNat, rp.toNat, []⟩ ep ix))
theorem bod_ok {id : Int} {l : List (ByteArray × ByteArray)} {ep ix : Nat} (hi : 1 ≤ id ∧ id ≤ 1000) (hl : smallSteps l) (he : ep < 2 ^ 32) (hx : ix < 65536) : (placed (bodyRec id l) ep ix).ok :=
  ⟨by show 2 < 256; omega, he, hx, by show id.toNat < 65536; omega, by show 0 < 256; omega, fun h => absurd rfl h, fun _ => hl⟩
theorem tak_ok {id : Int} {ep ix : Nat} (hi : 1 ≤ id ∧ id ≤ 1000) (he : ep < 2 ^ 32) (hx : ix < 65536) : (placed (takenRec id) ep ix).ok :=
  ⟨by show 3 < 256; omega, he, hx, by show id.toNat < 65536; omega, by show 0 < 256; omega, fun _ => rfl, fun h => by simp [placed, takenRec] at h⟩
theorem mov_ok {id rp : Int} {ep ix : Nat} (hi : 1 ≤ id ∧ id ≤ 1000) (hr : rp.toNat < 256) (he : ep < 2 ^ 32) (hx : ix < 65536) : (placed ⟨4, 0, 0, id.toNat, rp.toNat, []⟩ ep ix).ok :=
  ⟨by show 4 < 256; omega, he, hx, by show id.toNat < 65536; omega, by show rp.toNat < 256; omega, fun _ => rfl, fun h => by simp [placed] at h⟩
theorem JE.taken {bs : List (List UInt8)} {ep : Nat} {evs : List Ev} {id : Int} {l : List (ByteArray × ByteArray)} (h : JE bs ep evs) (he : ep ≠ 0 ∧ ep < 2 ^ 32) (hok : EvOk (evs.foldl applyEv []) (.taken id l)) (hl : 3 + evLen evs ≤ bs.length) (hs : bs.length ≤ 1000) :
    JE ((bs.set (1 + evLen evs) (bodB id l ep (1 + evLen evs))).set (1 + evLen evs + 1) (takB id ep (1 + evLen evs + 1))) ep (evs ++ [.taken id l]) := by
  have hok' := hok
  obtain ⟨h1, h2, h3, h4⟩ := hok'
  have hb : (placed (bodyRec id l) ep (1 + evLen evs)).ok := bod_ok ⟨h2, h3⟩ h4 he.2 (by omega)
  have ht : (placed (takenRec id) ep (1 + evLen evs + 1)).ok := tak_ok ⟨h2, h3⟩ he.2 (by omega)
  have hev : evLen (evs ++ [.taken id l]) = evLen evs + 2 := evLen_snoc _ _
  refine ⟨?_, ?_, ?_, ?_, EvsOk_snoc h.ok hok, fun e => absurd e he.1⟩
  · rw [getD_set_ne _ _ _ _ (by omega), getD_set_ne _ _ _ _ (by omega)]; exact h.hdr
  · intro i h1 h2
    simp only [List.length_set] at h2
    by_cases e1 : i = 1 + evLen evs + 1
    · subst e1
      rw [getD_set_self _ _ _ (by simp; omega)]
      exact .inr ⟨_, rfl, ht, by show 2 ≤ 3 ∧ 3 ≤ 4; omega, by show ep < ep + 1; omega⟩
    · rw [getD_set_ne _ _ _ _ (by omega)]
      by_cases e2 : i = 1 + evLen evs
      · subst e2
        rw [getD_set_self _ _ _ h2]
        exact .inr ⟨_, rfl, hb, by show 2 ≤ 2 ∧ 2 ≤ 4; omega, by show ep < ep + 1; omega⟩
      · rw [getD_set_ne _ _ _ _ (by omega)]
        exact h.all i h1 h2
  · intro i h1 h2
    simp only [List.length_set] at h2
    rw [hev] at h1
    rw [getD_set_ne _ _ _ _ (by omega), getD_set_ne _ _ _ _ (by omega)]
    exact h.old i (by omega) h2
  · refine EvsOn_snoc (EvsOn_congr (fun j h1 h2 => ?_) h.on) ⟨placed (bodyRec id l) ep (1 + evLen evs), placed (takenRec id) ep (1 + evLen evs + 1), ?_, rfl, rfl, rfl, rfl, rfl, ?_, rfl, rfl, rfl, rfl⟩
    · rw [raw_look, raw_look, getD_set_ne _ _ _ _ (by omega), getD_set_ne _ _ _ _ (by omega)]
    · rw [raw_look, getD_set_ne _ _ _ _ (by omega), getD_set_self _ _ _ (by omega)]
      exact parse_rec _ hb (by show 1 ≤ 2 ∧ 2 ≤ 4; omega)
    · rw [raw_look, getD_set_self _ _ _ (by simp; omega)]
      exact parse_rec _ ht (by show 1 ≤ 3 ∧ 3 ≤ 4; omega)
theorem JE.moved {bs : List (List UInt8)} {ep : Nat} {evs : List Ev} {id rp : Int} (h : JE bs ep evs) (he : ep ≠ 0 ∧ ep < 2 ^ 32) (hi : 1 ≤ id ∧ id ≤ 1000) (hr : rp.toNat < 256) (hok : EvOk (evs.foldl applyEv []) (.moved id rp)) (hl : 2 + evLen evs ≤ bs.length) (hs : bs.length ≤ 1000) :
    JE (bs.set (1 + evLen evs) (movB id rp ep (1 + evLen evs))) ep (evs ++ [.moved id rp]) := by
  have hb : (placed ⟨4, 0, 0, id.toNat, rp.toNat, []⟩ ep (1 + evLen evs)).ok := mov_ok hi hr he.2 (by omega)
  have hev : evLen (evs ++ [.moved id rp]) = evLen evs + 1 := evLen_snoc _ _
  refine ⟨?_, ?_, ?_, ?_, EvsOk_snoc h.ok hok, fun e => absurd e he.1⟩
  · rw [getD_set_ne _ _ _ _ (by omega)]; exact h.hdr
  · intro i h1 h2
    simp only [List.length_set] at h2
    by_cases e2 : i = 1 + evLen evs
    · subst e2
      rw [getD_set_self _ _ _ h2]
      exact .inr ⟨_, rfl, hb, by show 2 ≤ 4 ∧ 4 ≤ 4; omega, by show ep < ep + 1; omega⟩
    · rw [getD_set_ne _ _ _ _ (by omega)]
      exact h.all i h1 h2
  · intro i h1 h2
    simp only [List.length_set] at h2
    rw [hev] at h1
    rw [getD_set_ne _ _ _ _ (by omega)]
    exact h.old i (by omega) h2
  · refine EvsOn_snoc (EvsOn_congr (fun j h1 h2 => ?_) h.on) ⟨placed ⟨4, 0, 0, id.toNat, rp.toNat, []⟩ ep (1 + evLen evs), ?_, rfl, rfl, rfl, rfl, rfl⟩
    · rw [raw_look, raw_look, getD_set_ne _ _ _ _ (by omega)]
    · rw [raw_look, getD_set_self _ _ _ (by omega)]
      exact parse_rec _ hb (by show 1 ≤ 4 ∧ 4 ≤ 4; omega)
/-- What a journal's reader meets at its end. -/
theorem JE.stop {bs : List (List UInt8)} {ep : Nat} {evs : List Ev} {d : DiskM} (h : JE bs ep evs) (hb : d.blocks = bs) (hp : d.pend = none) (hl : 1 + evLen evs < bs.length) : JStop d ep (1 + evLen evs) := by
  obtain ⟨r, ok, h1, h2⟩ := (h.old (1 + evLen evs) (Nat.le_refl _) hl).parse
  refine ⟨r, ok, ?_, .inl ?_⟩
  · rw [← h1]; simp only [DiskM.look, hp, hb]
  · unfold atOk
    cases ok with
    | false => simp
    | true =>
      have := h2 rfl
      simp; intro h; omega
theorem JE.evs {bs : List (List UInt8)} {ep : Nat} {evs : List Ev} {d : DiskM} (h : JE bs ep evs) (hb : d.blocks = bs) (hp : d.pend = none) : EvsOn d ep 1 evs :=
  EvsOn_congr (fun j _ _ => by simp only [DiskM.look, hp, hb, rawD]) h.on
theorem JE.parse0 {bs : List (List UInt8)} {ep : Nat} {evs : List Ev} {d : DiskM} (h : JE bs ep evs) (hb : d.blocks = bs) (hp : d.pend = none) (he : ep < 2 ^ 32) :
    (ep = 0 ∧ ∃ r, parseM (d.look 0) = some (r, false)) ∨ (ep ≠ 0 ∧ parseM (d.look 0) = some (⟨1, ep, 0, 0, 0, []⟩, true)) := by
  have hlk : d.look 0 = bs.getD 0 [] := by simp only [DiskM.look, hp, hb]
  have := h.hdr
  by_cases h0 : ep = 0
  · refine .inl ⟨h0, ?_⟩
    rw [hlk, this, if_pos h0]; exact parse_zer
  · refine .inr ⟨h0, ?_⟩
    rw [hlk, this, if_neg h0]; exact parse_hdrE _ he
theorem append_one {d : DiskM} (hp : d.pend = none) (ep ix : Nat) (r : RecM) : (d.append ep ix [r]).blocks = d.blocks.set ix (padB (recBytes (placed r ep ix))) ∧ (d.append ep ix [r]).pend = none := by
  constructor
  · show ((d.put ix (recBytes (placed r ep ix))).flush).blocks = _
    rfl
  · rfl
theorem append_two {d : DiskM} (ep ix : Nat) (r t : RecM) : (d.append ep ix [r, t]).blocks = (d.blocks.set ix (padB (recBytes (placed r ep ix)))).set (ix + 1) (padB (recBytes (placed t ep (ix + 1)))) ∧ (d.append ep ix [r, t]).pend = none := ⟨rfl, rfl⟩
theorem settle_same {j : JnM} {d : DiskM} (hp : d.pend = none) : (settleD j d).blocks = d.blocks ∧ (settleD j d).pend = none := by
  unfold settleD
  split
  · refine ⟨?_, rfl⟩
    unfold DiskM.flush
    rw [hp]
  · exact ⟨rfl, hp⟩
/-- What sagas may have cost at most. -/
def capSum (l : List SagaM) : Int := (l.map fun g => 2 * (g.steps.length : Int) + 1).sum
theorem capSum_ins (g : SagaM) (l : List SagaM) : capSum (insSaga g l) = 2 * (g.steps.length : Int) + 1 + capSum l := by
  induction l with
  | nil => simp [insSaga, capSum]
  | cons y r ih =>
    unfold insSaga
    split
    · simp [capSum]
    · simp only [capSum, List.map_cons, List.sum_cons] at ih ⊢
      omega
end Go.Proofs.YtkafmfdipmhleaaGreatDoor

namespace Go.Proofs.YtkafmfdipmhleaaGreatDoor
open Go.RowKit Go.Maps
/-- A saga as a journal knows it. -/
def coreG (g : SagaM) : SagaM := { g with tries := 0, due := 0 }
def coreL (l : List SagaM) : List SagaM := l.map coreG
theorem coreG_moved (g : SagaM) (rp : Int) : coreG (g.moved rp) = (coreG g).moved rp := by
  by_cases h1 : g.st = 1 <;> by_cases h2 : rp = 0 <;> by_cases h3 : (g.steps.length : Int) < g.step + 1 <;> by_cases h4 : g.step - 1 = 0 <;> simp [coreG, SagaM.moved, SagaM.forward, SagaM.backward, h1, h2, h3, h4]
theorem coreG_paused (g : SagaM) (c m : Int) : coreG (g.paused c m) = coreG g := rfl
theorem coreL_set {l : List SagaM} {k : Nat} {g g' : SagaM} (hg : l[k]? = some g) (h : coreG g' = coreG g) : coreL (l.set k g') = coreL l := by
  unfold coreL
  rw [List.map_set, h]
  apply List.ext_getElem?
  intro i
  by_cases e : i = k
  · subst e
    have hl := (List.getElem?_eq_some_iff.1 hg).1
    rw [List.getElem?_set_self (by simpa using hl)]
    simp [hg]
  · rw [List.getElem?_set_ne (fun h => e h.symm)]
theorem coreL_ord {l : List SagaM} (h : l.Pairwise (fun a b => a.id < b.id)) : (coreL l).Pairwise (fun a b => a.id < b.id) := List.pairwise_map.2 (h.imp (fun h => h))
theorem coreL_setMoved {l : List SagaM} (ho : l.Pairwise (fun a b => a.id < b.id)) {k : Nat} {g : SagaM} (hg : l[k]? = some g) (rp : Int) : coreL (l.set k (g.moved rp)) = (coreL l).map (fun x => if x.id = g.id then x.moved rp else x) := by
  have hc : (coreL l)[k]? = some (coreG g) := by unfold coreL; rw [List.getElem?_map, hg]; rfl
  have := map_if_set (coreL_ord ho) hc rp
  rw [show (coreG g).id = g.id from rfl] at this
  rw [this, ← coreG_moved]
  unfold coreL
  rw [List.map_set]
theorem moved_steps (g : SagaM) (rp : Int) : (g.moved rp).steps = g.steps := by
  by_cases h1 : g.st = 1 <;> by_cases h2 : rp = 0 <;> by_cases h3 : (g.steps.length : Int) < g.step + 1 <;> simp [SagaM.moved, SagaM.forward, SagaM.backward, h1, h2, h3]
theorem capSum_set (l : List SagaM) (k : Nat) (g g' : SagaM) (hg : l[k]? = some g) (hs : g'.steps = g.steps) : capSum (l.set k g') = capSum l := by
  induction l generalizing k with
  | nil => simp at hg
  | cons a l ih =>
    cases k with
    | zero =>
      simp at hg
      subst hg
      simp [capSum, hs]
    | succ k =>
      have := ih k (by simpa using hg)
      simp [capSum] at this ⊢
      omega
theorem coreL_capSum (l : List SagaM) : capSum (coreL l) = capSum l := by
  unfold capSum coreL
  rw [List.map_map]; rfl
/-- An engine, and the records of its journal. -/
structure EngJ (s : StM) (evs : List Ev) : Prop where
  je : JE s.d.blocks s.j.epoch evs
  ep : s.j.epoch ≠ 0
  en : s.j.en = 1 + evLen evs
  sg : coreL s.sagas = evs.foldl applyEv []
  cap : (evLen evs : Int) + leftSum s.sagas ≤ capSum s.sagas
def AskM.plain (a : AskM) : Prop := ∀ p c, a.rep p c = 0 ∨ a.rep p c = 1 ∨ a.rep p c = 2
theorem plain_p : askP.plain := by
  intro p c
  show replyM (p.knows c) c.back p.k = 0 ∨ replyM (p.knows c) c.back p.k = 1 ∨ replyM (p.knows c) c.back p.k = 2
  unfold replyM
  (repeat' split) <;> simp
theorem plain_f : askF.plain := fun _ _ => .inr (.inl rfl)
theorem stepA_J {a : AskM} (hp : a.plain) {s : StM} {evs : List Ev} (h : EngJ s evs) (hi : s.inv) (k : Nat) : ∃ evs', EngJ (s.stepA a k) evs' := by
  cases hg : s.sagas[k]? with
  | none => simp only [StM.stepA, hg]; exact ⟨evs, h⟩
  | some g =>
    by_cases hw : g.waits s.clock = false
    · simp only [StM.stepA, hg, hw, if_true]; exact ⟨evs, h⟩
    · have hw' : g.waits s.clock = true := by simpa using hw
      have hmem : g ∈ s.sagas := List.mem_of_getElem? hg
      have hok := hi.ok g hmem
      obtain ⟨hroom, hst⟩ := inv_room hi hg hw'
      obtain ⟨hb, hpd⟩ := settle_same (j := s.j) hi.pend
      by_cases hm : g.moves (a.rep s.p g.call) = false
      · have e : s.stepA a k = { s with sagas := s.sagas.set k (g.paused s.clock s.pause), j := { s.j with fresh := false }, d := settleD s.j s.d, p := a.nxt s.p g.call } := by
          simp [StM.stepA, hg, hw, hm]
        rw [e]
        refine ⟨evs, ⟨by simp only; rw [hb]; exact h.je, h.ep, h.en, by simp only; rw [coreL_set hg (coreG_paused _ _ _)]; exact h.sg, ?_⟩⟩
        simp only
        rw [leftSum_set _ _ g _ hg, capSum_set _ _ g (g.paused s.clock s.pause) hg rfl, show (g.paused s.clock s.pause).left = g.left from rfl]
        have := h.cap; omega
      · have e : s.stepA a k = { s with sagas := s.sagas.set k (g.moved (a.rep s.p g.call)), j := ⟨s.j.epoch, s.j.en + 1, false⟩, d := (settleD s.j s.d).append s.j.epoch s.j.en [⟨4, 0, 0, g.id.toNat, (a.rep s.p g.call).toNat, []⟩], p := a.nxt s.p g.call } := by
          simp [StM.stepA, hg, hw, hm]
        rw [e]
        have hrp := hp s.p g.call
        generalize a.rep s.p g.call = rp at hrp hm ⊢
        have hen := h.en
        obtain ⟨hmo, hml⟩ := hok.moved hst rp
        have hevok : EvOk (evs.foldl applyEv []) (.moved g.id rp) := by
          refine ⟨by omega, coreG g, ?_, rfl, hst⟩
          rw [← h.sg]; exact List.mem_map.2 ⟨g, hmem, rfl⟩
        have hje := h.je.moved (id := g.id) (rp := rp) ⟨h.ep, hi.epoch⟩ ⟨hok.1, hok.2.1⟩ (by omega) hevok (by omega) hi.size
        obtain ⟨hb2, hp2⟩ := append_one (d := settleD s.j s.d) hpd s.j.epoch s.j.en ⟨4, 0, 0, g.id.toNat, rp.toNat, []⟩
        have hev : evLen (evs ++ [.moved g.id rp]) = evLen evs + 1 := evLen_snoc _ _
        refine ⟨evs ++ [.moved g.id rp], ⟨?_, h.ep, by simp only; rw [hen, hev]; omega, ?_, ?_⟩⟩
        · simp only
          rw [hb2, hb, hen]; exact hje
        · simp only
          rw [coreL_setMoved hi.ord hg, h.sg, List.foldl_append]; rfl
        · simp only
          rw [leftSum_set _ _ g _ hg, capSum_set _ _ g _ hg (moved_steps g rp), hev]
          have := h.cap; omega
theorem foldA_J {a : AskM} (hp : a.plain) (ha : a.good) (l : List Nat) (s : StM) {evs : List Ev} {m : Nat} (h : EngJ s evs) (hi : s.inv) (hf : s.fineV (m + l.length)) : ∃ evs', EngJ (l.foldl (StM.stepA a) s) evs' := by
  induction l generalizing s evs with
  | nil => exact ⟨evs, h⟩
  | cons x l ih =>
    obtain ⟨h1, h2, h3, h4⟩ := stepA_inv ha (k := x) (m := m + l.length) hi (by simpa [Nat.add_assoc] using hf)
    obtain ⟨evs', h'⟩ := stepA_J hp h hi x
    exact ih _ h' h1 h2
theorem tickA_J {a : AskM} (hp : a.plain) (ha : a.good) {s : StM} {evs : List Ev} {m : Nat} (h : EngJ s evs) (hi : s.inv) (hf : s.fineV (m + s.sagas.length)) : ∃ evs', EngJ (s.tickA a) evs' :=
  foldA_J hp ha _ { s with clock := s.clock + 1 } ⟨h.je, h.ep, h.en, h.sg, h.cap⟩ (inv_clock hi _) (by rw [List.length_range]; exact hf)
theorem coreL_ins (id : Int) (st : List (ByteArray × ByteArray)) (l : List SagaM) : coreL (insSaga (SagaM.new id st) l) = insSaga (SagaM.new id st) (coreL l) := by
  induction l with
  | nil => rfl
  | cons y r ih =>
    have e : (coreG y).id = y.id := rfl
    simp only [coreL, List.map_cons, insSaga, e] at ih ⊢
    split
    · rfl
    · simp only [List.map_cons, ih]
theorem core_any {l : List SagaM} {id : Int} (hn : ∀ x ∈ l, x.id ≠ id) : ∀ x ∈ coreL l, x.id ≠ id := by
  intro x hx
  obtain ⟨y, hy, rfl⟩ := List.mem_map.1 hx
  exact hn y hy
theorem submit_J {s : StM} {evs : List Ev} {id : Int} {l : List (ByteArray × ByteArray)} (h : EngJ s evs) (hi : s.inv) (hw : wholeB id l = true) (hn : ∀ x ∈ s.sagas, x.id ≠ id) (hroom : (s.j.en : Int) + (2 + (2 * l.length - 1) + leftSum s.sagas) ≤ s.d.blocks.length) : EngJ (s.submit id l) (evs ++ [.taken id l]) := by
  obtain ⟨w1, w2, w3⟩ := whole_small hw
  have hen := h.en
  have hln := leftSum_nonneg s.sagas hi.ok
  have hl1 := w3.1
  obtain ⟨hb, hpd⟩ := settle_same (j := s.j) hi.pend
  have hevok : EvOk (evs.foldl applyEv []) (.taken id l) := by
    refine ⟨?_, w1, w2, w3⟩
    rw [← h.sg]; exact core_any hn
  have hje := h.je.taken (id := id) (l := l) ⟨h.ep, hi.epoch⟩ hevok (by omega) hi.size
  have hev : evLen (evs ++ [.taken id l]) = evLen evs + 2 := evLen_snoc _ _
  obtain ⟨hb2, hp2⟩ := append_two (d := settleD s.j s.d) s.j.epoch s.j.en (bodyRec id l) (takenRec id)
  refine ⟨?_, h.ep, ?_, ?_, ?_⟩
  · show JE ((settleD s.j s.d).append s.j.epoch s.j.en [bodyRec id l, takenRec id]).blocks s.j.epoch _
    rw [hb2, hb, hen]; exact hje
  · show s.j.en + 2 = 1 + evLen _
    rw [hev, hen]; omega
  · show coreL (insSaga (SagaM.new id l) s.sagas) = _
    rw [coreL_ins, h.sg, List.foldl_append]; rfl
  · show (evLen _ : Int) + leftSum (insSaga (SagaM.new id l) s.sagas) ≤ capSum (insSaga (SagaM.new id l) s.sagas)
    rw [insSaga_sum, capSum_ins, new_left, hev]
    have := h.cap
    show ((evLen evs + 2 : Nat) : Int) + (2 * (l.length : Int) - 1 + leftSum s.sagas) ≤ 2 * (l.length : Int) + 1 + capSum s.sagas
    omega
end Go.Proofs.YtkafmfdipmhleaaGreatDoor

namespace Go.Proofs.YtkafmfdipmhleaaGreatDoor
open Go.RowKit Go.Maps
/-- A slice whose steps (the reference's) read as l. -/
def StpR (w : World) (v : Value) (l : List (ByteArray × ByteArray)) : Prop :=
  (l = [] ∧ ∃ a c, v = .slice a 0 c) ∨ ∃ b cap c, v = .slice (some ⟨b, 0, none⟩) l.length cap ∧ w.heap[b]? = some (.cells c 192 (0, 0)) ∧ ∀ j, j < 2 * l.length → c[j]? = (stepCells l)[j]?
/-- A slice of one state. -/
def MayR (w : World) (v : Value) (st step : Int) : Prop := ∃ b cap c, v = .slice (some ⟨b, 0, none⟩) 1 cap ∧ w.heap[b]? = some (.cells c 220 (0, 0)) ∧ c[0]? = some (.int .i64 st) ∧ c[1]? = some (.int .i64 step)
theorem own_frS {w w' : World} {B e size n : Nat} {v : Value} {xs : List Value} {S : Nat → Prop} (h : w.ownsRow B e size v n xs) (hf : Fr S w w') (hS : ∀ k, v.ownBlock = some k → ¬ S k) : w'.ownsRow B e size v n xs := by
  obtain ⟨h1, h2⟩ := h
  refine ⟨h1, ?_⟩
  rcases h2 with h2 | ⟨g, cap, cur, hv, hg, hh, r⟩
  · exact .inl h2
  · exact .inr ⟨g, cap, cur, hv, hg, hf.get hh (hS g (by rw [hv]; rfl)), r⟩
abbrev RefM := SagaM × Value × Value
def rCells (r : RefM) : List Value := [.int .i64 r.1.id, r.2.1, .int .i64 r.1.st, .int .i64 r.1.step, .int .i64 r.1.tries, .int .i64 r.1.due, r.2.2]
def RefOk (w : World) (r : RefM) : Prop := StpR w r.2.1 r.1.steps ∧ MayR w r.2.2 r.1.st r.1.step
def allR (R : List RefM) : List Value := R.flatMap rCells
structure RefAt (w : World) (B : Nat) (v : Value) (R : List RefM) : Prop where
  own : w.ownsRow B 223 7 v R.length (allR R)
  ok : ∀ r ∈ R, RefOk w r
def sagasOf (R : List RefM) : List SagaM := R.map (·.1)
theorem StpR.shape {w : World} {v : Value} {l : List (ByteArray × ByteArray)} (h : StpR w v l) : ∃ a c, v = .slice a l.length c := by
  rcases h with ⟨rfl, a, c, rfl⟩ | ⟨b, cap, _, e, _⟩
  · exact ⟨a, c, rfl⟩
  · exact ⟨_, _, e⟩
theorem StpR.fr {w w' : World} {v : Value} {l : List (ByteArray × ByteArray)} {S : Nat → Prop} (h : StpR w v l) (hf : Fr S w w') (hS : ∀ k, S k → ∃ o, w.heap[k]? = some o ∧ kindOf o ≠ 193) : StpR w' v l := by
  rcases h with h | ⟨b, cap, c, h1, h2, h3⟩
  · exact .inl h
  · refine .inr ⟨b, cap, c, h1, hf.get h2 (fun hs => ?_), h3⟩
    obtain ⟨o, ho, hk⟩ := hS b hs
    rw [h2] at ho; cases ho
    exact hk rfl
theorem StpR.new {w w' : World} {v : Value} {l : List (ByteArray × ByteArray)} (h : StpR w v l) (hf : New w w') : StpR w' v l := h.fr hf (fun _ f => f.elim)
theorem MayR.fr {w w' : World} {v : Value} {a b : Int} {S : Nat → Prop} (h : MayR w v a b) (hf : Fr S w w') (hS : ∀ k, S k → ∃ o, w.heap[k]? = some o ∧ kindOf o ≠ 221) : MayR w' v a b := by
  obtain ⟨g, cap, c, h1, h2, h3⟩ := h
  refine ⟨g, cap, c, h1, hf.get h2 (fun hs => ?_), h3⟩
  obtain ⟨o, ho, hk⟩ := hS g hs
  rw [h2] at ho; cases ho
  exact hk rfl
theorem MayR.new {w w' : World} {v : Value} {a b : Int} (h : MayR w v a b) (hf : New w w') : MayR w' v a b := h.fr hf (fun _ f => f.elim)
theorem RefOk.fr {w w' : World} {r : RefM} {S : Nat → Prop} (h : RefOk w r) (hf : Fr S w w') (hS : ∀ k, S k → ∃ o, w.heap[k]? = some o ∧ kindOf o ∉ [193, 221]) : RefOk w' r :=
  ⟨h.1.fr hf (fun k hk => by obtain ⟨o, h1, h2⟩ := hS k hk; exact ⟨o, h1, by simp at h2; omega⟩), h.2.fr hf (fun k hk => by obtain ⟨o, h1, h2⟩ := hS k hk; exact ⟨o, h1, by simp at h2; omega⟩)⟩
theorem RefAt.fr {w w' : World} {B : Nat} {v : Value} {R : List RefM} {S : Nat → Prop} (h : RefAt w B v R) (hf : Fr S w w') (hS : ∀ k, S k → ∃ o, w.heap[k]? = some o ∧ kindOf o ∉ [193, 221]) (hv : ∀ k, v.ownBlock = some k → ¬ S k) : RefAt w' B v R :=
  ⟨own_frS h.own hf hv, fun r hr => (h.ok r hr).fr hf hS⟩
theorem RefAt.new {w w' : World} {B : Nat} {v : Value} {R : List RefM} (h : RefAt w B v R) (hf : New w w') : RefAt w' B v R := h.fr hf (fun _ f => f.elim) (fun _ _ f => f)
theorem allR_len (R : List RefM) : (allR R).length = R.length * 7 := by
  induction R with
  | nil => rfl
  | cons a R ih => simp [allR, rCells] at ih ⊢; omega
theorem allR_get (R : List RefM) (i : Nat) (r : RefM) (hr : R[i]? = some r) (j : Nat) (u : Value) (hu : (rCells r)[j]? = some u) : (allR R)[i * 7 + j]? = some u := by
  have hj : j < 7 := by
    have := (List.getElem?_eq_some_iff.1 hu).1
    simpa [rCells] using this
  induction R generalizing i with
  | nil => simp at hr
  | cons a R ih =>
    have h7 : (rCells a).length = 7 := rfl
    have hc : allR (a :: R) = rCells a ++ allR R := by simp [allR]
    rw [hc]
    cases i with
    | zero =>
      simp at hr; subst hr
      rw [Nat.zero_mul, Nat.zero_add, List.getElem?_append_left (by omega)]
      exact hu
    | succ i =>
      rw [List.getElem?_append_right (by omega), h7, show (i + 1) * 7 + j - 7 = i * 7 + j by omega]
      exact ih i (by simpa using hr)
theorem RefAt.shape {w : World} {B : Nat} {v : Value} {R : List RefM} (h : RefAt w B v R) : ∃ a c, v = .slice a R.length c := by
  rcases h.own.2 with ⟨h1, h2⟩ | ⟨g, cap, cur, h1, _⟩
  · exact ⟨none, 0, by rw [h1, h2]⟩
  · exact ⟨_, _, h1⟩
/-- The cells of a saga. -/
theorem RefAt.at {w : World} {B n : Nat} {a : Option Addr} {c : Nat} {R : List RefM} (h : RefAt w B (.slice a n c) R) (i : Nat) (r : RefM) (hr : R[i]? = some r) :
    ∃ g, a = some ⟨g, 0, none⟩ ∧ w.cell? ⟨g, i * 7, none⟩ = some (.int .i64 r.1.id) ∧ w.cell? ⟨g, i * 7 + 1, none⟩ = some r.2.1 ∧ w.cell? ⟨g, i * 7 + 2, none⟩ = some (.int .i64 r.1.st) ∧ w.cell? ⟨g, i * 7 + 3, none⟩ = some (.int .i64 r.1.step) ∧ w.cell? ⟨g, i * 7 + 4, none⟩ = some (.int .i64 r.1.tries) ∧ w.cell? ⟨g, i * 7 + 5, none⟩ = some (.int .i64 r.1.due) ∧ w.cell? ⟨g, i * 7 + 6, none⟩ = some r.2.2 := by
  have hi := (List.getElem?_eq_some_iff.1 hr).1
  rcases h.own.2 with ⟨h1, h2⟩ | ⟨g, cap, cur, h1, hg, hh, hn, hq1, hq2, htk⟩
  · omega
  · simp only [Value.slice.injEq] at h1
    have key : ∀ j u, (rCells r)[j]? = some u → w.cell? ⟨g, i * 7 + j, none⟩ = some u := by
      intro j u hu
      have hx := allR_get R i r hr j u hu
      have hlt := (List.getElem?_eq_some_iff.1 hx).1
      rw [allR_len] at hlt
      rw [cellv, hh, cellOf_cells]
      rw [← htk, List.getElem?_take_of_lt (by omega)] at hx
      simpa using hx
    exact ⟨g, h1.1, key 0 _ rfl, key 1 _ rfl, key 2 _ rfl, key 3 _ rfl, key 4 _ rfl, key 5 _ rfl, key 6 _ rfl⟩
/-- Where a saga stands, or would. -/
def findI (L : List SagaM) (x : Int) : Nat := (L.takeWhile fun g => decide (g.id < x)).length
theorem findI_le (L : List SagaM) (x : Int) : findI L x ≤ L.length := by
  unfold findI
  have := (List.takeWhile_prefix (fun g : SagaM => decide (g.id < x)) (l := L)).length_le
  exact this
def thereB (L : List SagaM) (x : Int) : Bool := L.any fun g => decide (g.id = x)
theorem find_lt (L : List SagaM) (x : Int) (k : Nat) (hk : k ≤ L.length) (h : ∀ i g, i < k → L[i]? = some g → g.id < x) : k ≤ findI L x := by
  induction L generalizing k with
  | nil => simp at hk; omega
  | cons a L ih =>
    cases k with
    | zero => omega
    | succ k =>
      have h0 := h 0 a (by omega) rfl
      have := ih k (by simpa using hk) (fun i g hi hg => h (i + 1) g (by omega) (by simpa using hg))
      unfold findI at this ⊢
      rw [List.takeWhile_cons, if_pos (by simpa using h0)]
      simp; omega
theorem find_ge (L : List SagaM) (x : Int) (k : Nat) (g : SagaM) (hg : L[k]? = some g) (hx : x ≤ g.id) : findI L x ≤ k := by
  induction L generalizing k with
  | nil => simp at hg
  | cons a L ih =>
    unfold findI at ih ⊢
    rw [List.takeWhile_cons]
    split
    · rename_i ha
      cases k with
      | zero =>
        simp at hg; subst hg
        simp at ha; omega
      | succ k =>
        have := ih k (by simpa using hg)
        simp; omega
    · simp
theorem there_at {L : List SagaM} (ho : L.Pairwise (fun a b => a.id < b.id)) {x : Int} {k : Nat} {g : SagaM} (hk : findI L x = k) (hg : L[k]? = some g) (hx : x ≤ g.id) : thereB L x = decide (g.id = x) := by
  by_cases e : g.id = x
  · rw [decide_eq_true e]
    unfold thereB
    rw [List.any_eq_true]
    exact ⟨g, List.mem_of_getElem? hg, by simpa using e⟩
  · rw [decide_eq_false e]
    unfold thereB
    rw [List.any_eq_false]
    intro y hy
    simp only [decide_eq_true_eq]
    intro hyx
    obtain ⟨i, hi⟩ := List.getElem?_of_mem hy
    have h1 := find_ge L x i y hi (by omega)
    obtain ⟨p1, q1⟩ := List.getElem?_eq_some_iff.1 hi
    obtain ⟨p2, q2⟩ := List.getElem?_eq_some_iff.1 hg
    by_cases e2 : i = k
    · subst e2
      rw [hi] at hg; cases hg
      exact e hyx
    · have hpw := List.pairwise_iff_getElem.1 ho k i p2 p1 (by omega)
      rw [q1, q2] at hpw
      omega
theorem there_none {L : List SagaM} {x : Int} (h : findI L x = L.length) : thereB L x = false := by
  unfold thereB
  rw [List.any_eq_false]
  intro y hy
  simp only [decide_eq_true_eq]
  intro hyx
  obtain ⟨i, hi⟩ := List.getElem?_of_mem hy
  have h1 := find_ge L x i y hi (by omega)
  have := (List.getElem?_eq_some_iff.1 hi).1
  omega
theorem there_get {L : List SagaM} (ho : L.Pairwise (fun a b => a.id < b.id)) {x : Int} (h : thereB L x = true) : ∃ g, L[findI L x]? = some g ∧ g.id = x := by
  unfold thereB at h
  rw [List.any_eq_true] at h
  obtain ⟨y, hy, hyx⟩ := h
  simp at hyx
  obtain ⟨i, hi⟩ := List.getElem?_of_mem hy
  have h1 := find_ge L x i y hi (by omega)
  obtain ⟨p1, q1⟩ := List.getElem?_eq_some_iff.1 hi
  have h2 := find_lt L x i (by omega) (fun j g hj hg => by
    obtain ⟨p2, q2⟩ := List.getElem?_eq_some_iff.1 hg
    have hpw := List.pairwise_iff_getElem.1 ho j i p2 p1 hj
    rw [q1, q2] at hpw
    omega)
  exact ⟨y, by rw [show findI L x = i by omega]; exact hi, hyx⟩
def engV (pause clock : Int) (lv : Value) : Value := .agg #[.int .i64 pause, .int .i64 clock, .bool false, lv]
def FindPost (w : World) (L : List SagaM) (x : Int) (e : Ending) (w' : World) : Prop := e = .returned (.tuple #[.int .i64 (findI L x : Nat), .bool (thereB L x)]) ∧ New w w'
set_option maxRecDepth 100000 in
set_option maxHeartbeats 2000000 in
/-- Find. -/
theorem Find_calls {w : World} {B : Nat} {lv : Value} {R : List RefM} (h : RefAt w B lv R) (ho : (sagasOf R).Pairwise (fun a b => a.id < b.id)) (hl : R.length ≤ 1000) (pause clock x : Int) :
    Calls Tryz.prog 135 #[engV pause clock lv, .int .i64 x] w (FindPost w (sagasOf R) x) := by
  obtain ⟨a, c, rfl⟩ := h.shape
  have hN : New w (w.alloc (.cells #[.int .i64 pause, .int .i64 clock, .bool false, .slice a R.length c] 163)) := (Fr.refl _ w).alloc _
  have hb := heap_alloc_new w (.cells #[.int .i64 pause, .int .i64 clock, .bool false, .slice a R.length c] 163)
  have H1 := Lib.hid (h.new hN)
  have HN := Lib.hid hN
  have Ho := Lib.hid ho
  have Hl := Lib.hid hl
  have hsl : (sagasOf R).length = R.length := by simp [sagasOf]
  have Hsl := Lib.hid hsl
  unfold engV
  clear h hN ho hl hsl
  go_enter Tryz.func135, Tryz.ntmps135
  go_upto_region 1 with fail
  generalize w.alloc (.cells #[.int .i64 pause, .int .i64 clock, .bool false, .slice a R.length c] 163) = w1 at H1 HN hb ⊢
  have Hb := Lib.hid hb
  clear hb
  go_wp2_with fail
  go_loopw [6] (fun i wr => ∃ k : Nat, k ≤ R.length ∧ i = .int .i64 k ∧ (∀ j g, j < k → (sagasOf R)[j]? = some g → g.id < x) ∧ New w1 wr) (fun i _ => R.length - (intOf i).toNat)
  case atStart => exact ⟨0, Nat.zero_le _, rfl, fun j g hj => by omega, Fr.refl _ _⟩
  case round =>
    obtain ⟨k, hk, rfl, hbe, hf⟩ := hrel
    have Hbe := Lib.hid hbe
    have Hf := Lib.hid hf
    have hbx := hf.get Hb.out (fun f => f)
    have hl30 : R.length ≤ 1000 := Hl.out
    clear hbe hf
    have hcv := cellv wr
    by_cases hkl : k < R.length
    · obtain ⟨r, hr⟩ : ∃ r, R[k]? = some r := ⟨R[k], List.getElem?_eq_getElem hkl⟩
      have hg : (sagasOf R)[k]? = some r.1 := by unfold sagasOf; rw [List.getElem?_map, hr]; rfl
      obtain ⟨g, rfl, c0, c1, c2, c3, c4, c5, c6⟩ := (H1.out.new Hf.out).at k r hr
      have Hg := Lib.hid hg
      have Hkl := Lib.hid hkl
      have hkI : (k : Int) < R.length := by omega
      have hk0 : (0 : Int) ≤ k := by omega
      clear c1 c2 c3 c4 c5 c6 hg hr
      rw [hcv] at c0
      by_cases hx : x ≤ r.1.id
      · have Hx := Lib.hid hx
        go_upto_region 5 with fail
        go_quiet (fail)
        have hf2 := Hf.out.trans ((Fr.refl _ wr).drewN nq)
        clear c0 hcv hbx
        generalize wr.drewN nq = w2 at hf2 ⊢
        go_wp2_with fail
        go_ret2
        have hfi : findI (sagasOf R) x = k := by
          have h1 := find_ge (sagasOf R) x k r.1 Hg.out Hx.out
          have h2 := find_lt (sagasOf R) x k (by have := Hsl.out; have := Hkl.out; omega) Hbe.out
          omega
        refine ⟨?_, HN.out.trans hf2⟩
        rw [hfi, there_at Ho.out hfi Hg.out Hx.out]
        first | rfl | (by_cases e : r.1.id = x <;> simp [e])
      · have Hx := Lib.hid hx
        go_wp2_with fail
        go_roundw
        case rel =>
          refine ⟨k + 1, Hkl.out, by go_num, fun j g' hj hg' => ?_, Hf.out⟩
          by_cases e : j = k
          · subst e
            have := Hg.out
            rw [this] at hg'; cases hg'
            have := Hx.out; omega
          · exact Hbe.out j g' (by omega) hg'
        case measure => have := Hkl.out; simp [intOf]; omega
    · obtain rfl : k = R.length := by omega
      have hkI : ¬ ((R.length : Int) < R.length) := by omega
      go_wp2_with fail
      go_ret2
      have hfi : findI (sagasOf R) x = R.length := by
        have h1 := findI_le (sagasOf R) x
        have h2 := find_lt (sagasOf R) x R.length (by have := Hsl.out; omega) Hbe.out
        have := Hsl.out
        omega
      refine ⟨?_, HN.out.trans Hf.out⟩
      rw [hfi, there_none (by rw [hfi]; exact Hsl.out.symm)]
      rfl
set_option maxRecDepth 100000 in
set_option maxHeartbeats 2000000 in
/-- Has. -/
theorem Has_calls {w : World} {v : Value} {st step : Int} (h : MayR w v st step) :
    Calls Tryz.prog 133 #[v, .agg #[.int .i64 st, .int .i64 step]] w fun e w' => e = .returned (.bool true) ∧ New w w' := by
  obtain ⟨b, cap, c, rfl, hb, h0, h1⟩ := h
  have hN : New w (w.alloc (.cells #[.int .i64 st, .int .i64 step] 220)) := (Fr.refl _ w).alloc _
  have hbb := heap_alloc_new w (.cells #[.int .i64 st, .int .i64 step] 220)
  have hb1 := hN.get hb (fun f => f)
  have HN := Lib.hid hN
  clear hb hN
  go_enter Tryz.func133, Tryz.ntmps133
  go_upto_region 1 with fail
  generalize w.alloc (.cells #[.int .i64 st, .int .i64 step] 220) = w1 at HN hbb hb1 ⊢
  generalize w.heap.size = x at hbb ⊢
  have c0 : w1.cell? ⟨b, 0, none⟩ = some (.int .i64 st) := by rw [cellv, hb1, cellOf_cells]; exact h0
  have c1 : w1.cell? ⟨b, 1, none⟩ = some (.int .i64 step) := by rw [cellv, hb1, cellOf_cells]; exact h1
  have d0 : w1.cell? ⟨x, 0, none⟩ = some (.int .i64 st) := by rw [cellv, hbb]; rfl
  have d1 : w1.cell? ⟨x, 1, none⟩ = some (.int .i64 step) := by rw [cellv, hbb]; rfl
  clear hb1 hbb h0 h1
  go_wp2_with fail
  refine wp_loop_rounds 1 ?_
  rw [rounds_succ]
  go_upto_region 4 with fail
  go_quiet (fail)
  go_wp2_with fail
  go_ret
  exact ⟨rfl, HN.out.trans ((Fr.refl _ w1).drewN nq)⟩
end Go.Proofs.YtkafmfdipmhleaaGreatDoor

namespace Go.Proofs.YtkafmfdipmhleaaGreatDoor
open Go.RowKit Go.Maps
theorem tl_ne {a b : ByteArray} (h : a ≠ b) : (a.toList == b.toList) = false := by
  rw [beq_eq_false_iff_ne]
  exact fun e => h ((ba_toList a b).1 e)
def needM (R : List RefM) : Int := (R.map fun r => 2 * (r.1.steps.length : Int) + 2).sum
theorem needM_take (R : List RefM) (k : Nat) (r : RefM) (h : R[k]? = some r) : needM (R.take (k + 1)) = needM (R.take k) + (2 * (r.1.steps.length : Int) + 2) := by
  have hk := (List.getElem?_eq_some_iff.1 h).1
  rw [List.take_succ_eq_append_getElem hk]
  rw [List.getElem?_eq_getElem hk] at h
  cases h
  unfold needM
  rw [List.map_append, List.sum_append]
  simp
theorem needM_le (R : List RefM) (h : ∀ r ∈ R, r.1.steps.length ≤ 6) : 0 ≤ needM R ∧ needM R ≤ 14 * R.length := by
  induction R with
  | nil => simp [needM]
  | cons a R ih =>
    have h1 := h a (by simp)
    have h2 := ih (fun r hr => h r (by simp [hr]))
    simp [needM] at h2 ⊢
    omega
set_option maxRecDepth 100000 in
set_option maxHeartbeats 2000000 in
/-- Room. -/
theorem RoomR_calls {w : World} {B : Nat} {lv : Value} {R : List RefM} (h : RefAt w B lv R) (hl : R.length ≤ 1000) (h6 : ∀ r ∈ R, r.1.steps.length ≤ 6) (pause clock n s : Int) (hs : 0 ≤ s ∧ s ≤ 1000) :
    Calls Tryz.prog 142 #[engV pause clock lv, .int .i64 n, .int .i64 s] w fun e w' => e = .returned (.bool (decide (6 + 2 * s + needM R ≤ n))) ∧ New w w' := by
  obtain ⟨a, c, rfl⟩ := h.shape
  have hN : New w (w.alloc (.cells #[.int .i64 pause, .int .i64 clock, .bool false, .slice a R.length c] 163)) := (Fr.refl _ w).alloc _
  have hb := heap_alloc_new w (.cells #[.int .i64 pause, .int .i64 clock, .bool false, .slice a R.length c] 163)
  have H1 := Lib.hid (h.new hN)
  have HN := Lib.hid hN
  have Hl := Lib.hid hl
  have H6 := Lib.hid h6
  have u1 : wrap64 (2 * s) = 2 * s := wrap_in _ (by omega)
  have u2 : wrap64 (4 + 2 * s) = 4 + 2 * s := wrap_in _ (by omega)
  have u3 : wrap64 (4 + 2 * s + 2) = 4 + 2 * s + 2 := wrap_in _ (by omega)
  have Hs := Lib.hid hs
  unfold engV
  clear h hN hl h6 hs
  go_enter Tryz.func142, Tryz.ntmps142
  go_upto_region 1 with fail
  generalize w.alloc (.cells #[.int .i64 pause, .int .i64 clock, .bool false, .slice a R.length c] 163) = w1 at H1 HN hb ⊢
  generalize w.heap.size = N at hb ⊢
  have Hb := Lib.hid hb
  have hcv0 := cellv w1
  go_wp2_with fail
  clear u1 u2 u3 hb hcv0
  go_loopw [7, 8] (fun nv i wr => ∃ k : Nat, k ≤ R.length ∧ i = .int .i64 k ∧ nv = .int .i64 (4 + 2 * s + 2 + needM (R.take k)) ∧ New w1 wr) (fun _ i _ => R.length - (intOf i).toNat)
  case atStart => exact ⟨0, Nat.zero_le _, rfl, by have := Hs.out; simp [needM]; exact wrap_in _ (by omega), Fr.refl _ _⟩
  case round =>
    obtain ⟨k, hk, rfl, rfl, hf⟩ := hrel
    have Hf := Lib.hid hf
    have hbx := hf.get Hb.out (fun f => f)
    have hl30 : R.length ≤ 1000 := Hl.out
    have hnt := needM_le (R.take k) (fun r hr => H6.out r (List.mem_of_mem_take hr))
    rw [List.length_take, Nat.min_eq_left hk] at hnt
    clear hf
    have hcv := cellv wr
    by_cases hkl : k < R.length
    · obtain ⟨r, hr⟩ : ∃ r, R[k]? = some r := ⟨R[k], List.getElem?_eq_getElem hkl⟩
      have hst := needM_take R k r hr
      have hr6 := H6.out r (List.mem_of_getElem? hr)
      obtain ⟨g, rfl, c0, c1, c2, c3, c4, c5, c6⟩ := (H1.out.new Hf.out).at k r hr
      obtain ⟨sa, sc, hsv⟩ := ((H1.out.ok r (List.mem_of_getElem? hr)).1).shape
      rw [hsv] at c1
      have Hst := Lib.hid hst
      have Hkl := Lib.hid hkl
      have hkI : (k : Int) < R.length := by omega
      have hk0 : (0 : Int) ≤ k := by omega
      have hs' := Hs.out
      have q1 : wrap64 (2 * (r.1.steps.length : Int)) = 2 * (r.1.steps.length : Int) := wrap_in _ (by omega)
      generalize needM (R.take k) = A at hnt Hst ⊢
      generalize r.1.steps.length = L at *
      have q2 : wrap64 (4 + 2 * s + 2 + A + 2 * (L : Int)) = 4 + 2 * s + 2 + A + 2 * (L : Int) := wrap_in _ (by omega)
      have q3 : wrap64 (4 + 2 * s + 2 + A + 2 * (L : Int) + 2) = 4 + 2 * s + 2 + A + 2 * (L : Int) + 2 := wrap_in _ (by omega)
      clear c0 c2 c3 c4 c5 c6 hst hr hsv hs' hnt
      rw [hcv] at c1
      go_wp2_with fail
      go_roundw
      case rel => exact ⟨k + 1, Hkl.out, by go_num, by rw [Hst.out]; congr 1; omega, Hf.out⟩
      case measure => have := Hkl.out; simp [intOf]; omega
    · obtain rfl : k = R.length := by omega
      have hkI : ¬ ((R.length : Int) < R.length) := by omega
      rw [List.take_length]
      clear hnt
      by_cases hn : 6 + 2 * s + needM R ≤ n
      · have hn2 : 4 + 2 * s + 2 + needM R ≤ n := by omega
        have Hd : Hid (decide (6 + 2 * s + needM R ≤ n) = true) := decide_eq_true hn
        clear hn
        go_wp2_with fail
        go_ret
        exact ⟨by rw [Hd.out]; rfl, HN.out.trans Hf.out⟩
      · have hn2 : ¬ 4 + 2 * s + 2 + needM R ≤ n := by omega
        have Hd : Hid (decide (6 + 2 * s + needM R ≤ n) = false) := decide_eq_false hn
        clear hn
        go_wp2_with fail
        go_ret
        exact ⟨by rw [Hd.out]; rfl, HN.out.trans Hf.out⟩
theorem StpR.at {w : World} {v : Value} {l : List (ByteArray × ByteArray)} (h : StpR w v l) (i : Nat) (p : ByteArray × ByteArray) (hp : l[i]? = some p) : ∃ b cap, v = .slice (some ⟨b, 0, none⟩) l.length cap ∧ w.cell? ⟨b, i * 2, none⟩ = some (.string p.1) ∧ w.cell? ⟨b, i * 2 + 1, none⟩ = some (.string p.2) := by
  have hi := (List.getElem?_eq_some_iff.1 hp).1
  rcases h with ⟨rfl, _⟩ | ⟨b, cap, c, h1, h2, h3⟩
  · simp at hi
  · have key : ∀ (l : List (ByteArray × ByteArray)) (i : Nat) (p : ByteArray × ByteArray), l[i]? = some p → (stepCells l)[i * 2]? = some (.string p.1) ∧ (stepCells l)[i * 2 + 1]? = some (.string p.2) := by
      intro l
      induction l with
      | nil => intro i p h; simp at h
      | cons a l ih =>
        intro i p h
        have e : stepCells (a :: l) = .string a.1 :: .string a.2 :: stepCells l := by simp [stepCells]
        rw [e]
        cases i with
        | zero => simp at h; subst h; exact ⟨rfl, rfl⟩
        | succ i =>
          have := ih i p (by simpa using h)
          rw [show (i + 1) * 2 = i * 2 + 2 by omega]
          simpa using this
    obtain ⟨k1, k2⟩ := key l i p hp
    exact ⟨b, cap, h1, by rw [cellv, h2, cellOf_cells, h3 _ (by omega)]; exact k1, by rw [cellv, h2, cellOf_cells, h3 _ (by omega)]; exact k2⟩
set_option maxRecDepth 100000 in
set_option maxHeartbeats 2000000 in
/-- Same. -/
theorem SameR_calls {w : World} {va vb : Value} {la lb : List (ByteArray × ByteArray)} (ha : StpR w va la) (hb : StpR w vb lb) (hla : la.length ≤ 100000) (hlb : lb.length ≤ 100000) :
    Calls Tryz.prog 136 #[va, vb] w fun e w' => e = .returned (.bool (decide (la = lb))) ∧ New w w' := by
  obtain ⟨aa, ac, rfl⟩ := ha.shape
  obtain ⟨ba, bc, rfl⟩ := hb.shape
  have Ha := Lib.hid ha
  have Hb := Lib.hid hb
  have Hla := Lib.hid hla
  clear ha hb
  by_cases hlen : la.length = lb.length
  · have hne : ((la.length : Int) != lb.length) = false := by simp; omega
    have Hlen := Lib.hid hlen
    clear hlen hla hlb
    go_enter Tryz.func136, Tryz.ntmps136
    go_wp2_with fail
    go_loopw [5] (fun i wr => ∃ k : Nat, k ≤ la.length ∧ i = .int .i64 k ∧ la.take k = lb.take k ∧ New w wr) (fun i _ => la.length - (intOf i).toNat)
    case atStart => exact ⟨0, Nat.zero_le _, rfl, rfl, Fr.refl _ _⟩
    case round =>
      obtain ⟨k, hk, rfl, htk, hf⟩ := hrel
      have Htk := Lib.hid htk
      have Hf := Lib.hid hf
      clear htk hf
      have hla : la.length ≤ 100000 := Hla.out
      by_cases hlt : k < la.length
      · obtain ⟨p, hp⟩ : ∃ p, la[k]? = some p := ⟨la[k], List.getElem?_eq_getElem hlt⟩
        have hlt2 : k < lb.length := by have := Hlen.out; omega
        obtain ⟨q, hq⟩ : ∃ q, lb[k]? = some q := ⟨lb[k], List.getElem?_eq_getElem hlt2⟩
        obtain ⟨ga, ca, e1, x0,x1⟩ := (Ha.out.new Hf.out).at k p hp
        obtain ⟨gb, cb, e2, y0,y1⟩ := (Hb.out.new Hf.out).at k q hq
        simp only [Value.slice.injEq] at e1 e2
        obtain ⟨rfl, _, _⟩ := e1
        obtain ⟨rfl, _, _⟩ := e2
        have hltI : (k : Int) < la.length := by omega
        have hltS : (k : Int) < lb.length := by omega
        have hk0 : (0 : Int) ≤ k := by omega
        have Hsn1 : Hid (la.take (k + 1) = la.take k ++ [p]) := by
          show _ = _
          rw [List.take_succ_eq_append_getElem hlt]; rw [List.getElem?_eq_getElem hlt] at hp; cases hp; rfl
        have Hsn2 : Hid (lb.take (k + 1) = lb.take k ++ [q]) := by
          show _ = _
          rw [List.take_succ_eq_append_getElem hlt2]; rw [List.getElem?_eq_getElem hlt2] at hq; cases hq; rfl
        have Hne : Hid (p ≠ q → la ≠ lb) := by
          intro h e
          subst e
          rw [hp] at hq; cases hq; exact h rfl
        have Hlt := Lib.hid hlt
        obtain ⟨p1, p2⟩ := p
        obtain ⟨q1, q2⟩ := q
        simp only at x0 x1 y0 y1
        clear hp hq hlt hlt2
        by_cases e1 : p1 = q1
        · by_cases e2 : p2 = q2
          · subst e1 e2
            go_wp2_with fail
            go_quiet (fail)
            clear x0 x1 y0 y1
            go_wp2_with fail
            go_roundw
            case rel => exact ⟨k + 1, Hlt.out, by go_num, by rw [Hsn1.out, Hsn2.out, Htk.out], Hf.out.drewN _⟩
            case measure => have := Hlt.out; simp [intOf]; omega
          · have t2 := tl_ne e2
            have Hd : Hid (decide (la = lb) = false) := decide_eq_false (Hne.out (by simpa using fun _ => e2))
            subst e1
            clear e2
            go_wp2_with fail
            go_quiet (fail)
            clear x0 x1 y0 y1
            go_wp2_with fail
            go_ret
            exact ⟨by rw [Hd.out]; rfl, Hf.out.drewN _⟩
        · have t1 := tl_ne e1
          have Hd : Hid (decide (la = lb) = false) := decide_eq_false (Hne.out (by simpa using fun h => absurd h e1))
          clear e1
          go_wp2_with fail
          go_quiet (fail)
          clear x0 x1 y0 y1
          go_wp2_with fail
          go_ret
          exact ⟨by rw [Hd.out]; rfl, Hf.out.drewN _⟩
      · obtain rfl : k = la.length := by omega
        have hkI : ¬ ((la.length : Int) < la.length) := by omega
        go_wp2_with fail
        go_ret
        have he : la = lb := by
          have := Htk.out
          rw [List.take_length, List.take_of_length_le (by have := Hlen.out; omega)] at this
          exact this
        exact ⟨by rw [decide_eq_true he]; rfl, Hf.out⟩
  · have hne : ((la.length : Int) != lb.length) = true := by simp; omega
    have Hd : Hid (decide (la = lb) = false) := decide_eq_false (fun e => hlen (by rw [e]))
    clear hlen
    go_enter Tryz.func136, Tryz.ntmps136
    go_wp2_with fail
    go_ret
    exact ⟨by rw [Hd.out]; rfl, Fr.refl _ _⟩
set_option maxRecDepth 100000 in
set_option maxHeartbeats 2000000 in
/-- The reference's Whole. -/
theorem WholeR_calls {w : World} {v : Value} {l : List (ByteArray × ByteArray)} (id : Int) (h : StpR w v l) (hl : l.length ≤ 100000) :
    Calls Tryz.prog 156 #[.int .i64 id, v] w fun e w' => e = .returned (.bool (wholeB id l)) ∧ New w w' := by
  obtain ⟨a, c, rfl⟩ := h.shape
  have H := Lib.hid h
  clear h
  by_cases h1 : id < 1
  · have Hd : Hid (wholeB id l = false) := by show _ = _; simp [wholeB]; omega
    go_enter Tryz.func156, Tryz.ntmps156
    go_wp2_with fail
    go_ret
    exact ⟨by rw [Hd.out]; rfl, Fr.refl _ _⟩
  by_cases h2 : 1000 < id
  · have Hd : Hid (wholeB id l = false) := by show _ = _; simp [wholeB]; omega
    go_enter Tryz.func156, Tryz.ntmps156
    go_wp2_with fail
    go_ret
    exact ⟨by rw [Hd.out]; rfl, Fr.refl _ _⟩
  by_cases h3 : (l.length : Int) < 1
  · have Hd : Hid (wholeB id l = false) := by show _ = _; simp [wholeB]; omega
    go_enter Tryz.func156, Tryz.ntmps156
    go_wp2_with fail
    go_ret
    exact ⟨by rw [Hd.out]; rfl, Fr.refl _ _⟩
  by_cases h4 : (6 : Int) < l.length
  · have Hd : Hid (wholeB id l = false) := by show _ = _; simp [wholeB]; omega
    go_enter Tryz.func156, Tryz.ntmps156
    go_wp2_with fail
    go_ret
    exact ⟨by rw [Hd.out]; rfl, Fr.refl _ _⟩
  have Hw : Hid (wholeB id l = !anyLong l) := by
    show _ = _
    have e1 : decide (1 ≤ id) = true := by simp; omega
    have e2 : decide (id ≤ 1000) = true := by simp; omega
    have e3 : decide (1 ≤ l.length) = true := by simp; omega
    have e4 : decide (l.length ≤ 6) = true := by simp; omega
    simp only [wholeB, e1, e2, e3, e4, Bool.true_and]
  go_enter Tryz.func156, Tryz.ntmps156
  go_wp2_with fail
  clear h1 h2 h3
  go_loopw [5] (fun i wr => ∃ k : Nat, k ≤ l.length ∧ i = .int .i64 k ∧ (l.take k).any longB = false ∧ New w wr) (fun i _ => l.length - (intOf i).toNat)
  case atStart => exact ⟨0, Nat.zero_le _, rfl, rfl, Fr.refl _ _⟩
  case round =>
    obtain ⟨k, hk, rfl, hno, hf⟩ := hrel
    have Hno := Lib.hid hno
    have Hf := Lib.hid hf
    clear hno hf
    by_cases hlt : k < l.length
    · obtain ⟨p, hp⟩ : ∃ p, l[k]? = some p := ⟨l[k], List.getElem?_eq_getElem hlt⟩
      obtain ⟨g, cap, e1, x0,x1⟩ := (H.out.new Hf.out).at k p hp
      simp only [Value.slice.injEq] at e1
      obtain ⟨rfl, _, _⟩ := e1
      have hltI : (k : Int) < l.length := by omega
      have hk0 : (0 : Int) ≤ k := by omega
      have Hsn : Hid ((l.take (k + 1)).any longB = ((l.take k).any longB || longB p)) := by
        show _ = _
        rw [List.take_succ_eq_append_getElem hlt, List.any_append]
        rw [List.getElem?_eq_getElem hlt] at hp; cases hp; simp
      have Hyes : Hid (longB p = true → anyLong l = true) := by
        intro h
        unfold anyLong
        rw [List.any_eq_true]
        exact ⟨p, List.mem_of_getElem? hp, h⟩
      have Hlt := Lib.hid hlt
      obtain ⟨p1, p2⟩ := p
      simp only at x0 x1
      clear hp hlt
      by_cases g1 : (8 : Int) < p1.size
      · have Hd : Hid (wholeB id l = false) := by show _ = _; rw [Hw.out, Hyes.out (by simp [longB]; omega)]; rfl
        go_wp2_with fail
        go_ret
        exact ⟨by rw [Hd.out]; rfl, Hf.out⟩
      by_cases g2 : (8 : Int) < p2.size
      · have Hd : Hid (wholeB id l = false) := by show _ = _; rw [Hw.out, Hyes.out (by simp [longB]; omega)]; rfl
        go_wp2_with fail
        go_ret
        exact ⟨by rw [Hd.out]; rfl, Hf.out⟩
      · have Hlo : Hid (longB (p1, p2) = false) := by show _ = _; simp [longB]; omega
        go_wp2_with fail
        go_roundw
        case rel => exact ⟨k + 1, Hlt.out, by go_num, by rw [Hsn.out, Hno.out, Hlo.out]; rfl, Hf.out⟩
        case measure => have := Hlt.out; simp [intOf]; omega
    · obtain rfl : k = l.length := by omega
      have hkI : ¬ ((l.length : Int) < l.length) := by omega
      have Hd : Hid (wholeB id l = true) := by
        show _ = _
        rw [Hw.out]
        have := Hno.out
        rw [List.take_length] at this
        unfold anyLong
        rw [this]; rfl
      go_wp2_with fail
      go_ret
      exact ⟨by rw [Hd.out]; rfl, Hf.out⟩
end Go.Proofs.YtkafmfdipmhleaaGreatDoor

namespace Go.Proofs.YtkafmfdipmhleaaGreatDoor
open Go.RowKit Go.Maps
def beyS : ByteArray := ⟨#[98, 101, 121, 111, 110, 100]⟩
/-- A saga's steps as they are handed in: two more lie beyond. -/
def StpH (w : World) (g : Nat) (l : List (ByteArray × ByteArray)) : Prop :=
  ∃ c, w.heap[g]? = some (.cells c 54 (0, 0)) ∧ (∀ j, j < 2 * l.length → c[j]? = (stepCells l)[j]?) ∧ c[2 * l.length]? = some (.string beyS) ∧ (∃ s, c[2 * l.length + 1]? = some (.string s)) ∧ c[2 * l.length + 2]? = some (.string beyS) ∧ ∃ s, c[2 * l.length + 3]? = some (.string s)
theorem made54 (n : Nat) : (madeCells (Value.agg #[.string ⟨#[]⟩, .string ⟨#[]⟩]).cells (n * 2)) = Array.replicate (n * 2) (.string ⟨#[]⟩) := by
  apply Array.ext
  · rw [size_madeCells]; simp
  · intro i h1 h2
    rw [size_madeCells] at h1
    simp only [madeCells, Array.getElem_map, Array.getElem_range, Array.getElem_replicate]
    have : (Value.agg #[.string ⟨#[]⟩, .string ⟨#[]⟩]).cells = #[.string ⟨#[]⟩, .string ⟨#[]⟩] := rfl
    rw [this]
    have h2 : i % 2 = 0 ∨ i % 2 = 1 := by omega
    rcases h2 with e | e <;> simp [e]
theorem set2_get {c : Array Value} {i : Nat} {a b : Value} (h : i + 1 < c.size) (j : Nat) : ((c.setIfInBounds i a).setIfInBounds (i + 1) b)[j]? = if j = i then some a else if j = i + 1 then some b else c[j]? := by
  by_cases h1 : j = i
  · subst h1
    rw [if_pos rfl, Array.getElem?_setIfInBounds, if_neg (by omega), Array.getElem?_setIfInBounds, if_pos rfl, if_pos (by omega)]
  · rw [if_neg h1]
    by_cases h2 : j = i + 1
    · subst h2
      rw [if_pos rfl, Array.getElem?_setIfInBounds, if_pos rfl, if_pos (by simp; omega)]
    · rw [if_neg h2, Array.getElem?_setIfInBounds, if_neg (by omega), Array.getElem?_setIfInBounds, if_neg (by omega)]
theorem stepCells_at (l : List (ByteArray × ByteArray)) (i : Nat) (p : ByteArray × ByteArray) (h : l[i]? = some p) : (stepCells l)[i * 2]? = some (.string p.1) ∧ (stepCells l)[i * 2 + 1]? = some (.string p.2) := by
  induction l generalizing i with
  | nil => simp at h
  | cons a l ih =>
    have e : stepCells (a :: l) = .string a.1 :: .string a.2 :: stepCells l := by simp [stepCells]
    rw [e]
    cases i with
    | zero => simp at h; subst h; exact ⟨rfl, rfl⟩
    | succ i =>
      have := ih i (by simpa using h)
      rw [show (i + 1) * 2 = i * 2 + 2 by omega]
      simpa using this
set_option maxRecDepth 100000 in
set_option maxHeartbeats 2000000 in
theorem stepsR_calls {w : World} {v : Value} {l : List (ByteArray × ByteArray)} (h : StpR w v l) (hl : l.length ≤ 100000) :
    Calls Tryz.prog 137 #[v] w fun e w' => e = .returned (.slice (some ⟨w.heap.size, 0, none⟩) l.length (l.length + 2)) ∧ StpH w' w.heap.size l ∧ New w w' := by
  obtain ⟨a, c, rfl⟩ := h.shape
  have H := Lib.hid h
  have Hl := Lib.hid hl
  obtain ⟨i0, hi, hz0, hz1, hz2⟩ := info_parts Tryz.info54
  have ec : ((l.length + 2 : Nat) : Int) = (l.length : Int) + 2 := by omega
  have hmk : ∀ w, (Instr.makeSlice 34 (.int .i64 ((l.length : Int) + 2)) (.int .i64 ((l.length : Int) + 2))).run Tryz.prog w = .ok (.slice (some ⟨w.heap.size, 0, none⟩) (l.length + 2) (l.length + 2)) (w.alloc (.cells (Array.replicate ((l.length + 2) * 2) (.string ⟨#[]⟩)) 54)) := by
    intro w
    have := run_make (P := Tryz.prog) w 34 54 i0 _ Tryz.underlying34 hi hz0 .i64 .i64 ((l.length + 2 : Nat) : Int) ((l.length + 2 : Nat) : Int) (by omega) (Int.le_refl _) (by rw [hz2]; omega) (by omega)
    rw [hz1, Int.toNat_natCast, made54, ec] at this
    exact this
  clear h hi hz0 hz1 hz2 ec
  go_enter Tryz.func137, Tryz.ntmps137
  go_wp2_with fail
  have hN0 : New w (w.alloc (.cells (Array.replicate ((l.length + 2) * 2) (.string ⟨#[]⟩)) 54)) := (Fr.refl _ w).alloc _
  have hb0 := heap_alloc_new w (.cells (Array.replicate ((l.length + 2) * 2) (.string ⟨#[]⟩)) 54)
  generalize w.alloc (.cells (Array.replicate ((l.length + 2) * 2) (.string ⟨#[]⟩)) 54) = W0 at hN0 hb0 ⊢
  have HszN : Hid (w.heap.size = w.heap.size) := rfl
  have HNw : Hid (∀ k, k < w.heap.size → k ≠ w.heap.size) := fun k h => by omega
  have HN0 := Lib.hid hN0
  have Hb0 := Lib.hid hb0
  clear hmk hN0 hb0
  go_loopw [5] (fun i wr => ∃ k : Nat, k ≤ l.length ∧ i = .int .i64 k ∧ (∃ c : Array Value, wr.heap[w.heap.size]? = some (.cells c 54 (0, 0)) ∧ c.size = (l.length + 2) * 2 ∧ (∀ j, j < 2 * k → c[j]? = (stepCells l)[j]?) ∧ ∀ j, j < (l.length + 2) * 2 → ∃ s, c[j]? = some (.string s)) ∧ New w wr) (fun i _ => l.length - (intOf i).toNat)
  case atStart =>
    refine ⟨0, Nat.zero_le _, rfl, ⟨_, Hb0.out, by simp, fun j hj => by omega, fun j hj => ⟨⟨#[]⟩, ?_⟩⟩, HN0.out⟩
    rw [Array.getElem?_replicate, if_pos hj]
  case round =>
    obtain ⟨k, hk, rfl, ⟨cc, hcb, hcs, hcj, hcs2⟩, hf⟩ := hrel
    have Hf := Lib.hid hf
    have Hcb := Lib.hid hcb
    have Hcs := Lib.hid hcs
    have Hcj := Lib.hid hcj
    have Hcs2 := Lib.hid hcs2
    clear hf hcs hcj
    by_cases hlt : k < l.length
    · obtain ⟨p, hp⟩ : ∃ p, l[k]? = some p := ⟨l[k], List.getElem?_eq_getElem hlt⟩
      obtain ⟨g, cap, e1, x0,x1⟩ := (H.out.new Hf.out).at k p hp
      simp only [Value.slice.injEq] at e1
      obtain ⟨rfl, _, _⟩ := e1
      have hltI : (k : Int) < l.length := by omega
      have hlt2 : (k : Int) < (l.length : Int) + 2 := by omega
      have hk0 : (0 : Int) ≤ k := by omega
      obtain ⟨s0, hs0⟩ := hcs2 (k * 2) (by omega)
      obtain ⟨s1, hs1⟩ := hcs2 (k * 2 + 1) (by omega)
      have y0 : wr.cell? ⟨w.heap.size, k * 2, none⟩ = some (.string s0) := by rw [cellv, hcb, cellOf_cells]; exact hs0
      have y1 : wr.cell? ⟨w.heap.size, k * 2 + 1, none⟩ = some (.string s1) := by rw [cellv, hcb, cellOf_cells]; exact hs1
      have z0 : wr.frozen? ⟨w.heap.size, k * 2, none⟩ = false := by rw [frozv, hcb]; rfl
      have z1 : wr.frozen? ⟨w.heap.size, k * 2 + 1, none⟩ = false := by rw [frozv, hcb]; rfl
      have Hlt := Lib.hid hlt
      have Hp := Lib.hid hp
      obtain ⟨p1, p2⟩ := p
      simp only at x0 x1
      clear hp hlt hcs2 hs0 hs1 hcb
      go_upto_region 6 with fail
      go_region
      have hcw : (((wr.setCell ⟨w.heap.size, k * 2, none⟩ (.string p1)).setCell ⟨w.heap.size, k * 2 + 1, none⟩ (.string p2)).drew).heap[w.heap.size]? = some (.cells ((cc.setIfInBounds (k * 2) (.string p1)).setIfInBounds (k * 2 + 1) (.string p2)) 54 (0, 0)) := by
        show ((wr.setCell ⟨w.heap.size, k * 2, none⟩ (.string p1)).setCell ⟨w.heap.size, k * 2 + 1, none⟩ (.string p2)).heap[w.heap.size]? = _
        rw [hp_setCell, if_pos rfl, hp_setCell, if_pos rfl, Hcb.out]; rfl
      have hfw : New w (((wr.setCell ⟨w.heap.size, k * 2, none⟩ (.string p1)).setCell ⟨w.heap.size, k * 2 + 1, none⟩ (.string p2)).drew) := ((Hf.out.setCell (fun h => absurd h (Nat.lt_irrefl _)) _ _).setCell (fun h => absurd h (Nat.lt_irrefl _)) _ _).drew
      generalize ((wr.setCell ⟨w.heap.size, k * 2, none⟩ (.string p1)).setCell ⟨w.heap.size, k * 2 + 1, none⟩ (.string p2)).drew = W2 at hcw hfw ⊢
      have Hcw := Lib.hid hcw
      have Hfw := Lib.hid hfw
      clear x0 x1 y0 y1 z0 z1 hcw hfw
      go_wp2_with fail
      go_roundw
      case rel =>
        have hsz := Hcs.out
        have hkl := Hlt.out
        obtain ⟨q1, q2⟩ := stepCells_at l k (p1, p2) Hp.out
        refine ⟨k + 1, Hlt.out, by go_num, ⟨_, Hcw.out, by simp; omega, fun j hj => ?_, fun j hj => ?_⟩, Hfw.out⟩
        · rw [set2_get (by omega)]
          by_cases h1 : j = k * 2
          · rw [if_pos h1, h1, q1]
          · rw [if_neg h1]
            by_cases h2 : j = k * 2 + 1
            · rw [if_pos h2, h2, q2]
            · rw [if_neg h2]; exact Hcj.out j (by omega)
        · rw [set2_get (by omega)]
          by_cases h1 : j = k * 2
          · exact ⟨p1, by rw [if_pos h1]⟩
          · rw [if_neg h1]
            by_cases h2 : j = k * 2 + 1
            · exact ⟨p2, by rw [if_pos h2]⟩
            · rw [if_neg h2]; exact Hcs2.out j hj
      case measure => have := Hlt.out; simp [intOf]; omega
    · obtain rfl : k = l.length := by omega
      have hkI : ¬ ((l.length : Int) < l.length) := by omega
      have hlt2 : (l.length : Int) < (l.length : Int) + 2 := by omega
      have hlt3 : (l.length : Int) + 1 < (l.length : Int) + 2 := by omega
      have hl0 : (0 : Int) ≤ l.length := by omega
      have hl1 : (0 : Int) ≤ (l.length : Int) + 1 := by omega
      obtain ⟨s0, hs0⟩ := hcs2 (l.length * 2) (by omega)
      obtain ⟨s1, hs1⟩ := hcs2 (l.length * 2 + 1) (by omega)
      have y0 : wr.cell? ⟨w.heap.size, l.length * 2, none⟩ = some (.string s0) := by rw [cellv, hcb, cellOf_cells]; exact hs0
      have y1 : wr.cell? ⟨w.heap.size, l.length * 2 + 1, none⟩ = some (.string s1) := by rw [cellv, hcb, cellOf_cells]; exact hs1
      have z0 : wr.frozen? ⟨w.heap.size, l.length * 2, none⟩ = false := by rw [frozv, hcb]; rfl
      have z1 : wr.frozen? ⟨w.heap.size, l.length * 2 + 1, none⟩ = false := by rw [frozv, hcb]; rfl
      clear hcs2 hs0 hs1 hcb
      go_upto_region 8 with fail
      have hcw : ((wr.setCell ⟨w.heap.size, l.length * 2, none⟩ (.string ⟨#[98, 101, 121, 111, 110, 100]⟩)).setCell ⟨w.heap.size, l.length * 2 + 1, none⟩ (.string ⟨#[]⟩)).heap[w.heap.size]? = some (.cells ((cc.setIfInBounds (l.length * 2) (.string ⟨#[98, 101, 121, 111, 110, 100]⟩)).setIfInBounds (l.length * 2 + 1) (.string ⟨#[]⟩)) 54 (0, 0)) := by
        rw [hp_setCell, if_pos rfl, hp_setCell, if_pos rfl, Hcb.out]; rfl
      have hfw : New w ((wr.setCell ⟨w.heap.size, l.length * 2, none⟩ (.string ⟨#[98, 101, 121, 111, 110, 100]⟩)).setCell ⟨w.heap.size, l.length * 2 + 1, none⟩ (.string ⟨#[]⟩)) := (Hf.out.setCell (fun h => absurd h (Nat.lt_irrefl _)) _ _).setCell (fun h => absurd h (Nat.lt_irrefl _)) _ _
      have hq : ∀ j, ((cc.setIfInBounds (l.length * 2) (.string ⟨#[98, 101, 121, 111, 110, 100]⟩)).setIfInBounds (l.length * 2 + 1) (.string ⟨#[]⟩))[j]? = if j = l.length * 2 then some (.string ⟨#[98, 101, 121, 111, 110, 100]⟩) else if j = l.length * 2 + 1 then some (.string ⟨#[]⟩) else cc[j]? := fun j => set2_get (by have := Hcs.out; omega) j
      have hqs : ((cc.setIfInBounds (l.length * 2) (.string ⟨#[98, 101, 121, 111, 110, 100]⟩)).setIfInBounds (l.length * 2 + 1) (.string ⟨#[]⟩)).size = (l.length + 2) * 2 := by have := Hcs.out; simp; omega
      generalize (cc.setIfInBounds (l.length * 2) (.string ⟨#[98, 101, 121, 111, 110, 100]⟩)).setIfInBounds (l.length * 2 + 1) (.string ⟨#[]⟩) = c2 at hcw hq hqs
      generalize (wr.setCell ⟨w.heap.size, l.length * 2, none⟩ (.string ⟨#[98, 101, 121, 111, 110, 100]⟩)).setCell ⟨w.heap.size, l.length * 2 + 1, none⟩ (.string ⟨#[]⟩) = W2 at hcw hfw ⊢
      obtain ⟨s2, hs2⟩ : ∃ s, c2[(l.length + 1) * 2]? = some (.string s) := by
        rw [hq, if_neg (by omega), if_neg (by omega)]; exact Hcs2.out _ (by omega)
      obtain ⟨s3, hs3⟩ : ∃ s, c2[(l.length + 1) * 2 + 1]? = some (.string s) := by
        rw [hq, if_neg (by omega), if_neg (by omega)]; exact Hcs2.out _ (by omega)
      have y2 : W2.cell? ⟨w.heap.size, (l.length + 1) * 2, none⟩ = some (.string s2) := by rw [cellv, hcw, cellOf_cells]; exact hs2
      have y3 : W2.cell? ⟨w.heap.size, (l.length + 1) * 2 + 1, none⟩ = some (.string s3) := by rw [cellv, hcw, cellOf_cells]; exact hs3
      have z2 : W2.frozen? ⟨w.heap.size, (l.length + 1) * 2, none⟩ = false := by rw [frozv, hcw]; rfl
      have z3 : W2.frozen? ⟨w.heap.size, (l.length + 1) * 2 + 1, none⟩ = false := by rw [frozv, hcw]; rfl
      have Hcw := Lib.hid hcw
      have Hfw := Lib.hid hfw
      have Hq := Lib.hid hq
      have Hqs := Lib.hid hqs
      have hlc : l.length ≤ l.length + 2 := by omega
      clear hcw hfw hq hqs hs2 hs3 y0 y1 z0 z1
      go_wp2_with fail
      go_ret
      have hsz := Hqs.out
      refine ⟨rfl, ⟨(c2.setIfInBounds ((l.length + 1) * 2) (.string ⟨#[98, 101, 121, 111, 110, 100]⟩)).setIfInBounds ((l.length + 1) * 2 + 1) (.string ⟨#[]⟩), ?_, fun j hj => ?_, ?_, ⟨⟨#[]⟩, ?_⟩, ?_, ⟨⟨#[]⟩, ?_⟩⟩, (Hfw.out.setCell (fun h => absurd h (Nat.lt_irrefl _)) _ _).setCell (fun h => absurd h (Nat.lt_irrefl _)) _ _⟩
      · rw [hp_setCell, if_pos rfl, hp_setCell, if_pos rfl, Hcw.out]; rfl
      · rw [set2_get (by omega), if_neg (by omega), if_neg (by omega), Hq.out, if_neg (by omega), if_neg (by omega)]
        exact Hcj.out j hj
      · rw [set2_get (by omega), if_neg (by omega), if_neg (by omega), Hq.out, if_pos (by omega)]; rfl
      · rw [set2_get (by omega), if_neg (by omega), if_neg (by omega), Hq.out, if_neg (by omega), if_pos (by omega)]
      · rw [set2_get (by omega), if_pos (by omega)]; rfl
      · rw [set2_get (by omega), if_neg (by omega), if_pos (by omega)]
theorem StpH.size {w : World} {g : Nat} {l : List (ByteArray × ByteArray)} (h : StpH w g l) : ∃ c, w.heap[g]? = some (.cells c 54 (0, 0)) ∧ (l.length + 2) * 2 ≤ c.size := by
  obtain ⟨c, h1, _, _, _, _, s, h2⟩ := h
  have := (Array.getElem?_eq_some_iff.1 h2).1
  exact ⟨c, h1, by omega⟩
theorem StpH.at {w : World} {g : Nat} {l : List (ByteArray × ByteArray)} (h : StpH w g l) (i : Nat) (p : ByteArray × ByteArray) (hp : l[i]? = some p) : w.cell? ⟨g, i * 2, none⟩ = some (.string p.1) ∧ w.cell? ⟨g, i * 2 + 1, none⟩ = some (.string p.2) := by
  obtain ⟨c, h1, h2, _⟩ := h
  have hi := (List.getElem?_eq_some_iff.1 hp).1
  obtain ⟨q1, q2⟩ := stepCells_at l i p hp
  constructor
  · rw [cellv, h1, cellOf_cells, h2 _ (by omega)]; exact q1
  · rw [cellv, h1, cellOf_cells, h2 _ (by omega)]; exact q2
theorem StpH.new {w w' : World} {g : Nat} {l : List (ByteArray × ByteArray)} (h : StpH w g l) (hf : New w w') : StpH w' g l := by
  obtain ⟨c, h1, r⟩ := h
  exact ⟨c, hf.get h1 (fun f => f), r⟩
set_option maxRecDepth 100000 in
set_option maxHeartbeats 2000000 in
theorem still_calls {w : World} {g : Nat} {v : Value} {l : List (ByteArray × ByteArray)} (hg : StpH w g l) (h : StpR w v l) (hl : l.length ≤ 100000) :
    Calls Tryz.prog 138 #[.slice (some ⟨g, 0, none⟩) l.length (l.length + 2), v] w fun e w' => e = .returned (.bool true) ∧ Fr (· = g) w w' := by
  obtain ⟨a, c, rfl⟩ := h.shape
  have H := Lib.hid h
  have HG := Lib.hid hg
  obtain ⟨cc, hcb, hcj, hb0, ⟨t0, hb1⟩, hb2, t1, hb3⟩ := hg
  have y0 : w.cell? ⟨g, l.length * 2, none⟩ = some (.string ⟨#[98, 101, 121, 111, 110, 100]⟩) := by rw [cellv, hcb, cellOf_cells, show l.length * 2 = 2 * l.length by omega]; exact hb0
  have y2 : w.cell? ⟨g, (l.length + 1) * 2, none⟩ = some (.string ⟨#[98, 101, 121, 111, 110, 100]⟩) := by rw [cellv, hcb, cellOf_cells, show (l.length + 1) * 2 = 2 * l.length + 2 by omega]; exact hb2
  have hne : ((l.length : Int) != l.length) = false := by simp
  have hlc : l.length ≤ l.length + 2 := by omega
  have hl0 : (0 : Int) ≤ l.length := by omega
  have hl1 : (0 : Int) ≤ (l.length : Int) + 1 := by omega
  have hl2 : (0 : Int) ≤ (l.length : Int) + 2 := by omega
  have hlt2 : (l.length : Int) < (l.length : Int) + 2 := by omega
  have hlt3 : (l.length : Int) + 1 < (l.length : Int) + 2 := by omega
  have Hl := Lib.hid hl
  clear h hcb hcj hb0 hb1 hb2 hb3
  go_enter Tryz.func138, Tryz.ntmps138
  go_wp2_with fail
  clear y0 y2 hne
  go_loopw [7, 8] (fun okv i wr => ∃ k : Nat, k ≤ l.length ∧ i = .int .i64 k ∧ okv = .bool true ∧ New w wr) (fun _ i _ => l.length - (intOf i).toNat)
  case atStart => exact ⟨0, Nat.zero_le _, rfl, rfl, Fr.refl _ _⟩
  case round =>
    obtain ⟨k, hk, rfl, rfl, hf⟩ := hrel
    have Hf := Lib.hid hf
    clear hf
    by_cases hlt : k < l.length
    · obtain ⟨p, hp⟩ : ∃ p, l[k]? = some p := ⟨l[k], List.getElem?_eq_getElem hlt⟩
      obtain ⟨ga, cap, e1, x0,x1⟩ := (H.out.new Hf.out).at k p hp
      simp only [Value.slice.injEq] at e1
      obtain ⟨rfl, _, _⟩ := e1
      obtain ⟨y0,y1⟩ := (HG.out.new Hf.out).at k p hp
      have hltI : (k : Int) < l.length := by omega
      have hltJ : (k : Int) < (l.length : Int) + 2 := by omega
      have hk0 : (0 : Int) ≤ k := by omega
      have Hlt := Lib.hid hlt
      obtain ⟨p1, p2⟩ := p
      simp only at x0 x1 y0 y1
      clear hp hlt
      go_wp2_with fail
      go_quiet (fail)
      clear x0 x1 y0 y1
      go_wp2_with fail
      go_roundw
      case rel => exact ⟨k + 1, Hlt.out, by go_num, rfl, Hf.out.drewN _⟩
      case measure => have := Hlt.out; simp [intOf]; omega
    · obtain rfl : k = l.length := by omega
      have hkI : ¬ ((l.length : Int) < l.length) := by omega
      obtain ⟨cs, hcs, hsz⟩ := (HG.out.new Hf.out).size
      have Hcs := Lib.hid hcs
      have Hsz := Lib.hid hsz
      clear hcs hsz
      go_wp2_with fail
      obtain ⟨w1, hw1⟩ : ∃ w1, w1 = wr := ⟨_, rfl⟩
      subst hw1
      go_loopw [9] (fun i w2 => ∃ k : Nat, k ≤ l.length + 2 ∧ i = .int .i64 k ∧ Fr (· = g) w1 w2 ∧ ∃ c, w2.heap[g]? = some (.cells c 54 (0, 0)) ∧ (l.length + 2) * 2 ≤ c.size) (fun i _ => l.length + 2 - (intOf i).toNat)
      case atStart => exact ⟨0, Nat.zero_le _, rfl, Fr.refl _ _, cs, Hcs.out, Hsz.out⟩
      case round =>
        obtain ⟨k, hk, rfl, hf2, c2, hc2, hs2⟩ := hrel
        have Hf2 := Lib.hid hf2
        have Hc2 := Lib.hid hc2
        have Hs2 := Lib.hid hs2
        clear hf2
        by_cases hlt : k < l.length + 2
        · have hltJ : (k : Int) < (l.length : Int) + 2 := by omega
          have hk0 : (0 : Int) ≤ k := by omega
          obtain ⟨v0, hv0⟩ : ∃ v0, c2[k * 2]? = some v0 := ⟨_, Array.getElem?_eq_getElem (by omega)⟩
          obtain ⟨v1, hv1⟩ : ∃ v1, c2[k * 2 + 1]? = some v1 := ⟨_, Array.getElem?_eq_getElem (by omega)⟩
          have y0 : wr.cell? ⟨g, k * 2, none⟩ = some v0 := by rw [cellv, hc2, cellOf_cells]; exact hv0
          have y1 : wr.cell? ⟨g, k * 2 + 1, none⟩ = some v1 := by rw [cellv, hc2, cellOf_cells]; exact hv1
          have z0 : wr.frozen? ⟨g, k * 2, none⟩ = false := by rw [frozv, hc2]; rfl
          have z1 : wr.frozen? ⟨g, k * 2 + 1, none⟩ = false := by rw [frozv, hc2]; rfl
          have Hlt := Lib.hid hlt
          clear hv0 hv1 hc2 hlt
          go_wp2_with fail
          go_roundw
          case rel =>
            have := Hs2.out
            refine ⟨k + 1, Hlt.out, by go_num, (Hf2.out.setCell (fun _ => rfl) _ _).setCell (fun _ => rfl) _ _, (c2.setIfInBounds (k * 2) (.string ⟨#[103, 111, 110, 101]⟩)).setIfInBounds (k * 2 + 1) (.string ⟨#[103, 111, 110, 101]⟩), ?_, by simp; omega⟩
            rw [hp_setCell, if_pos rfl, hp_setCell, if_pos rfl, Hc2.out]; rfl
          case measure => have := Hlt.out; simp [intOf]; omega
        · obtain rfl : k = l.length + 2 := by omega
          have hkI : ¬ ((l.length : Int) + 2 < (l.length : Int) + 2) := by omega
          clear hc2
          go_wp2_with fail
          go_ret
          exact ⟨rfl, (Hf.out.mono (fun _ _ f => f.elim)).trans Hf2.out⟩
end Go.Proofs.YtkafmfdipmhleaaGreatDoor
