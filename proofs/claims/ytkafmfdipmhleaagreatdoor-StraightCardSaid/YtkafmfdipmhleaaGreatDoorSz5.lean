/-
  What is proved: a journal on a disk, with a write that was not flushed, and behind a failure of power; a record more. (No program in sight.) what the turns of a Tick, and a Submit, do to the journal, whatever the disk tells. (No program in sight.) a Submit and a Tick on a disk that tells no errors, and the journal behind a Submit and a Tick on whatever disk. (No program in sight.) what holds of a journal and of a partner, whatever the disk tells and whenever power fails. (No program in sight.) many sagas end, at a pause of one. (No program in sight.)
-/
import Derived.Test.YtkafmfdipmhleaaGreatDoorSz4

namespace Go.Proofs.YtkafmfdipmhleaaGreatDoor
open Go.RowKit Go.Maps

def rawD (bs : List (List UInt8)) : DiskM := ⟨bs, none, 0, 0, 0, -1, 0, 0⟩
theorem raw_look (bs : List (List UInt8)) (i : Nat) : (rawD bs).look i = bs.getD i [] := rfl
/-- A journal of events, on blocks; junk where it ends. -/
structure JD (bs : List (List UInt8)) (evs : List Ev) : Prop where
  hd : bs.getD 0 [] = hdr
  on : EvsOn (rawD bs) 1 1 evs
  junk : Junk (bs.getD (1 + evLen evs) [])
  zero : ∀ i, 1 + evLen evs < i → i < bs.length → bs.getD i [] = zer
  room : 2 + evLen evs < bs.length
theorem evLen_snoc (evs : List Ev) (e : Ev) : evLen (evs ++ [e]) = evLen evs + e.len := by simp [evLen]
theorem EvOn_congr {d d' : DiskM} {ep i : Nat} {e : Ev} (h : ∀ j, i ≤ j → j < i + e.len → d.look j = d'.look j) (he : EvOn d ep i e) : EvOn d' ep i e := by
  cases e with
  | taken id st =>
    have h1 := h i (Nat.le_refl _) (by show i < i + 2; omega)
    have h2 := h (i + 1) (by omega) (by show i + 1 < i + 2; omega)
    unfold EvOn at he ⊢
    rw [← h1, ← h2]; exact he
  | moved id rp =>
    have h1 := h i (Nat.le_refl _) (by show i < i + 1; omega)
    unfold EvOn at he ⊢
    rw [← h1]; exact he
theorem EvsOn_congr {d d' : DiskM} {ep : Nat} {evs : List Ev} {i : Nat} (h : ∀ j, i ≤ j → j < i + evLen evs → d.look j = d'.look j) (he : EvsOn d ep i evs) : EvsOn d' ep i evs := by
  induction evs generalizing i with
  | nil => trivial
  | cons e r ih =>
    have hl : evLen (e :: r) = e.len + evLen r := by simp [evLen]
    rw [hl] at h
    exact ⟨EvOn_congr (fun j h1 h2 => h j h1 (by omega)) he.1, ih (fun j h1 h2 => h j (by omega) (by omega)) he.2⟩
theorem EvsOn_snoc {d : DiskM} {ep : Nat} {evs : List Ev} {i : Nat} {e : Ev} (h : EvsOn d ep i evs) (he : EvOn d ep (i + evLen evs) e) : EvsOn d ep i (evs ++ [e]) := by
  induction evs generalizing i with
  | nil => exact ⟨he, trivial⟩
  | cons a r ih =>
    have hl : evLen (a :: r) = a.len + evLen r := by simp [evLen]
    rw [hl, ← Nat.add_assoc] at he
    exact ⟨h.1, ih h.2 he⟩
theorem EvsOk_snoc {l : List SagaM} {evs : List Ev} {e : Ev} (h : EvsOk l evs) (he : EvOk (evs.foldl applyEv l) e) : EvsOk l (evs ++ [e]) := by
  induction evs generalizing l with
  | nil => exact ⟨he, trivial⟩
  | cons a r ih => exact ⟨h.1, ih h.2 he⟩
theorem getD_set_ne (bs : List (List UInt8)) (i j : Nat) (X : List UInt8) (h : i ≠ j) : (bs.set i X).getD j [] = bs.getD j [] := by
  rw [List.getD_eq_getElem?_getD, List.getElem?_set_ne h, ← List.getD_eq_getElem?_getD]
theorem getD_set_self (bs : List (List UInt8)) (i : Nat) (X : List UInt8) (h : i < bs.length) : (bs.set i X).getD i [] = X := by
  rw [List.getD_eq_getElem?_getD, List.getElem?_set_self h]; rfl
theorem JD.moved {bs : List (List UInt8)} {evs : List Ev} {id rp : Int} {X : List UInt8} {r : RecM} (h : JD bs evs) (hX : parseM X = some (r, true)) (h1 : r.epoch = 1) (h2 : r.index = 1 + evLen evs) (h3 : r.kind = 4) (h4 : r.saga = id.toNat) (h5 : r.reply = rp.toNat) (hr : 3 + evLen evs < bs.length) :
    JD (bs.set (1 + evLen evs) X) (evs ++ [.moved id rp]) := by
  have hl : evLen (evs ++ [.moved id rp]) = evLen evs + 1 := evLen_snoc _ _
  refine ⟨?_, ?_, ?_, ?_, ?_⟩
  · rw [getD_set_ne _ _ _ _ (by omega)]; exact h.hd
  · refine EvsOn_snoc (EvsOn_congr (fun j h1 h2 => ?_) h.on) ⟨r, ?_, h1, h2, h3, h4, h5⟩
    · rw [raw_look, raw_look, getD_set_ne _ _ _ _ (by omega)]
    · rw [raw_look, getD_set_self _ _ _ (by have := h.room; omega)]; exact hX
  · rw [hl, getD_set_ne _ _ _ _ (by omega), h.zero _ (by omega) (by omega)]; exact junk_zer
  · rw [hl, List.length_set]
    intro i h1 h2
    rw [getD_set_ne _ _ _ _ (by omega)]; exact h.zero i (by omega) h2
  · rw [hl, List.length_set]; omega
theorem JD.junked {bs : List (List UInt8)} {evs : List Ev} {X : List UInt8} (h : JD bs evs) (hX : Junk X) : JD (bs.set (1 + evLen evs) X) evs := by
  refine ⟨?_, EvsOn_congr (fun j h1 h2 => ?_) h.on, ?_, ?_, ?_⟩
  · rw [getD_set_ne _ _ _ _ (by omega)]; exact h.hd
  · rw [raw_look, raw_look, getD_set_ne _ _ _ _ (by omega)]
  · rw [getD_set_self _ _ _ (by have := h.room; omega)]; exact hX
  · rw [List.length_set]
    intro i h1 h2
    rw [getD_set_ne _ _ _ _ (by omega)]; exact h.zero i h1 h2
  · rw [List.length_set]; exact h.room
theorem JD.taken {bs : List (List UInt8)} {evs : List Ev} {id : Int} {n : Nat} {X : List UInt8} {r : RecM} (h : JD bs evs) (hi : 1 ≤ id ∧ id ≤ 3) (hn : 1 ≤ n ∧ n ≤ 6) (hb : bs.getD (1 + evLen evs) [] = bod id n (1 + evLen evs)) (hX : parseM X = some (r, true)) (h1 : r.epoch = 1) (h2 : r.index = 1 + evLen evs + 1) (h3 : r.kind = 3) (h4 : r.saga = id.toNat)
    (hr : 4 + evLen evs < bs.length) (hx : bs.length ≤ 1000) : JD (bs.set (1 + evLen evs + 1) X) (evs ++ [.taken id (kSteps id n)]) := by
  have hl : evLen (evs ++ [.taken id (kSteps id n)]) = evLen evs + 2 := evLen_snoc _ _
  refine ⟨?_, ?_, ?_, ?_, ?_⟩
  · rw [getD_set_ne _ _ _ _ (by omega)]; exact h.hd
  · refine EvsOn_snoc (EvsOn_congr (fun j h1 h2 => ?_) h.on) ⟨bRec id n (1 + evLen evs), r, ?_, rfl, rfl, rfl, rfl, rfl, ?_, h1, h2, h3, h4⟩
    · rw [raw_look, raw_look, getD_set_ne _ _ _ _ (by omega)]
    · rw [raw_look, getD_set_ne _ _ _ _ (by omega), hb]; exact parse_bod id n _ hi hn (by omega)
    · rw [raw_look, getD_set_self _ _ _ (by omega)]; exact hX
  · rw [hl, getD_set_ne _ _ _ _ (by omega), h.zero _ (by omega) (by omega)]; exact junk_zer
  · rw [hl, List.length_set]
    intro i h1 h2
    rw [getD_set_ne _ _ _ _ (by omega)]; exact h.zero i (by omega) h2
  · rw [hl, List.length_set]; omega
theorem JD.stop {bs : List (List UInt8)} {evs : List Ev} {d : DiskM} (h : JD bs evs) (hl : ∀ i, d.look i = bs.getD i []) (hn : d.blocks.length = bs.length) :
    (∃ r0, parseM (d.look 0) = some (r0, true) ∧ r0.kind = 1 ∧ r0.epoch = 1) ∧ EvsOn d 1 1 evs ∧ JStop d 1 (1 + evLen evs) := by
  refine ⟨by rw [hl, h.hd]; exact parse_hdr, EvsOn_congr (fun j _ _ => by rw [hl, raw_look]) h.on, ?_⟩
  obtain ⟨r, ok, hr, hk⟩ := junk_parse h.junk
  obtain ⟨rz, hz⟩ := parse_zer
  refine ⟨r, ok, by rw [hl]; exact hr, ?_⟩
  by_cases h2 : r.kind = 2
  · exact .inr (.inr ⟨h2, by rw [hn]; have := h.room; omega, rz, false, by rw [hl, h.zero _ (by omega) (by have := h.room; omega)]; exact hz, .inl rfl⟩)
  · exact .inr (.inl ⟨hk, h2⟩)
/-- What a reader sees. -/
def DiskM.seen (d : DiskM) : List (List UInt8) := match d.pend with | some (i, b) => d.blocks.set i b | none => d.blocks
theorem seen_len (d : DiskM) : d.seen.length = d.blocks.length := by
  unfold DiskM.seen; split <;> simp
theorem seen_look {d : DiskM} (h : d.wf) (i : Nat) : d.look i = d.seen.getD i [] := by
  unfold DiskM.look DiskM.seen
  cases hp : d.pend with
  | none => rfl
  | some p =>
    obtain ⟨j, b⟩ := p
    have := (h.2 _ hp).1
    simp only
    by_cases e : j = i
    · subst e; rw [if_pos rfl, getD_set_self _ _ _ this]
    · rw [if_neg e, getD_set_ne _ _ _ _ e]
/-- A disk with a journal: what is sure, and what is seen. -/
structure DJ (d : DiskM) (evs0 evs : List Ev) : Prop where
  sure : JD d.blocks evs0
  seen : JD d.seen evs
  ok0 : EvsOk [] evs0
  ok : EvsOk [] evs
  clean : d.pend = none → evs0 = evs
  after : ∀ ks, JD (d.after ks).blocks evs0 ∨ JD (d.after ks).blocks evs
theorem DJ.mk_clean {d : DiskM} {evs : List Ev} (h : JD d.blocks evs) (hp : d.pend = none) (hok : EvsOk [] evs) : DJ d evs evs := by
  have hs : d.seen = d.blocks := by unfold DiskM.seen; rw [hp]
  refine ⟨h, by rw [hs]; exact h, hok, hok, fun _ => rfl, fun ks => .inl ?_⟩
  have : (d.after ks).blocks = d.blocks := by simp [DiskM.after, hp]
  rw [this]; exact h
theorem DJ.flush {d : DiskM} {evs0 evs : List Ev} (h : DJ d evs0 evs) : DJ d.flush evs evs := by
  refine DJ.mk_clean ?_ rfl h.ok
  have : d.flush.blocks = d.seen := rfl
  rw [this]; exact h.seen
theorem DJ.same {d d' : DiskM} {evs0 evs : List Ev} (h : DJ d evs0 evs) (hb : d'.blocks = d.blocks) (hp : d'.pend = d.pend) : DJ d' evs0 evs := by
  have hs : d'.seen = d.seen := by unfold DiskM.seen; rw [hp, hb]
  have ha : ∀ ks, (d'.after ks).blocks = (d.after ks).blocks := fun ks => by simp only [DiskM.after, hp, hb]
  exact ⟨by rw [hb]; exact h.sure, by rw [hs]; exact h.seen, h.ok0, h.ok, fun e => h.clean (by rw [← hp]; exact e), fun ks => by rw [ha]; exact h.after ks⟩
theorem DJ.count {d : DiskM} {evs0 evs : List Ev} (h : DJ d evs0 evs) : DJ d.count evs0 evs := h.same rfl rfl
theorem DJ.put_blocks {d : DiskM} {evs : List Ev} (h : DJ d evs evs) (hp : d.pend = none) : JD d.blocks evs := h.sure
/-- A write is on its way. -/
theorem DJ.put {d : DiskM} {evs evs' : List Ev} {i : Nat} {l : List UInt8} (h : JD d.blocks evs) (ho : EvsOk [] evs) (ho' : EvsOk [] evs') (h1 : JD (d.blocks.set i (padB l)) evs') (h2 : ∀ k, JD (d.blocks.set i (tearB (d.blocks.getD i []) (padB l) k 4)) evs ∨ JD (d.blocks.set i (tearB (d.blocks.getD i []) (padB l) k 4)) evs') :
    DJ (d.put i l) evs evs' := by
  refine ⟨h, h1, ho, ho', fun e => by (cases e), fun ks => ?_⟩
  cases ks with
  | nil => exact .inl h
  | cons k ks => exact h2 k
theorem set_same2 (l : List (List UInt8)) (i : Nat) (x : List UInt8) (h : l.getD i [] = x) (hi : i < l.length) : l.set i x = l := by
  subst h
  rw [List.getD_eq_getElem?_getD, List.getElem?_eq_getElem hi, Option.getD_some, List.set_getElem_self]
/-- A record that moves a saga. -/
theorem DJ.moved {d : DiskM} {evs : List Ev} {id rp : Int} (h : DJ d evs evs) (hp : d.pend = none) (ho : EvsOk [] (evs ++ [.moved id rp])) (hr : (⟨4, 1, 1 + evLen evs, id.toNat, rp.toNat, []⟩ : RecM).ok) (hl : 3 + evLen evs < d.blocks.length) :
    DJ (d.put (1 + evLen evs) (recBytes ⟨4, 1, 1 + evLen evs, id.toNat, rp.toNat, []⟩)) evs (evs ++ [.moved id rp]) := by
  refine DJ.put h.sure h.ok ho ?_ (fun k => ?_)
  · refine h.sure.moved (r := ⟨4, 1, 1 + evLen evs, id.toNat, rp.toNat, []⟩) ?_ rfl rfl rfl rfl rfl hl
    rw [pad_short _ (by show (4 : Nat) ≠ 2; decide)]
    exact parse_short _ _ hr (by show (4 : Nat) ≠ 2; decide) (by show 1 ≤ 4 ∧ 4 ≤ 4; decide)
  · rcases junk_short h.sure.junk ⟨4, 1, 1 + evLen evs, id.toNat, rp.toNat, []⟩ hr (.inr (.inr rfl)) k with e | e
    · exact .inr (h.sure.moved e rfl rfl rfl rfl rfl hl)
    · exact .inl (h.sure.junked e)
theorem DJ.bodied {d : DiskM} {evs : List Ev} {id : Int} {n : Nat} (h : DJ d evs evs) (hp : d.pend = none) (hi : 1 ≤ id ∧ id ≤ 3) (hn : 1 ≤ n ∧ n ≤ 6) :
    DJ (d.put (1 + evLen evs) (recBytes (bRec id n (1 + evLen evs)))) evs evs :=
  DJ.put h.sure h.ok h.ok (h.sure.junked (junk_bod id n _ hi hn)) (fun k => .inl (h.sure.junked (junk_body h.sure.junk id n _ hi hn k)))
theorem DJ.taken {d : DiskM} {evs : List Ev} {id : Int} {n : Nat} (h : DJ d evs evs) (hp : d.pend = none) (hb : d.blocks.getD (1 + evLen evs) [] = bod id n (1 + evLen evs)) (hi : 1 ≤ id ∧ id ≤ 3) (hn : 1 ≤ n ∧ n ≤ 6) (ho : EvsOk [] (evs ++ [.taken id (kSteps id n)])) (hl : 4 + evLen evs < d.blocks.length) (hx : d.blocks.length ≤ 1000) :
    DJ (d.put (1 + evLen evs + 1) (recBytes ⟨3, 1, 1 + evLen evs + 1, id.toNat, 0, []⟩)) evs (evs ++ [.taken id (kSteps id n)]) := by
  have hr : (⟨3, 1, 1 + evLen evs + 1, id.toNat, 0, []⟩ : RecM).ok := ⟨by show 3 < 256; omega, by show 1 < 2 ^ 32; omega, by show 1 + evLen evs + 1 < 65536; omega, by show id.toNat < 65536; omega, by show 0 < 256; omega, fun _ => rfl, fun h => by (cases h)⟩
  have hz := h.sure.zero (1 + evLen evs + 1) (by omega) (by omega)
  refine DJ.put h.sure h.ok ho ?_ (fun k => ?_)
  · refine h.sure.taken (r := ⟨3, 1, 1 + evLen evs + 1, id.toNat, 0, []⟩) hi hn hb ?_ rfl rfl rfl rfl hl hx
    rw [pad_short _ (by show (3 : Nat) ≠ 2; decide)]
    exact parse_short _ _ hr (by show (3 : Nat) ≠ 2; decide) (by show 1 ≤ 3 ∧ 3 ≤ 4; decide)
  · rw [hz, zer_two, pad_two _ (by show (3 : Nat) ≠ 2; decide), tear_two _ _ _ _ _ rfl (secS_len _) rfl rfl]
    have e2 : (if bitK k 1 = true then z32 else z32) = z32 := by split <;> rfl
    rw [e2]
    by_cases h0 : bitK k 0 = true
    · rw [if_pos h0]
      refine .inr (h.sure.taken (r := ⟨3, 1, 1 + evLen evs + 1, id.toNat, 0, []⟩) hi hn hb ?_ rfl rfl rfl rfl hl hx)
      unfold two
      rw [List.append_assoc]
      exact parse_short _ _ hr (by show (3 : Nat) ≠ 2; decide) (by show 1 ≤ 3 ∧ 3 ≤ 4; decide)
    · rw [if_neg h0, ← zer_two, set_same2 _ _ zer hz (by omega)]
      exact .inl h.sure
end Go.Proofs.YtkafmfdipmhleaaGreatDoor

namespace Go.Proofs.YtkafmfdipmhleaaGreatDoor
open Go.RowKit Go.Maps

/-- What a journal knows of a saga. -/
def SagaM.core (g : SagaM) : Int × Int × Int × List (ByteArray × ByteArray) := (g.id, g.st, g.step, g.steps)
theorem core_id {g f : SagaM} (h : g.core = f.core) : g.id = f.id := congrArg (·.1) h
theorem core_st {g f : SagaM} (h : g.core = f.core) : g.st = f.st := congrArg (·.2.1) h
theorem core_moved {g f : SagaM} (h : g.core = f.core) (rp : Int) : g.moved rp = f.moved rp := by
  obtain ⟨a1, a2, a3, a4, a5, a6⟩ := g
  obtain ⟨b1, b2, b3, b4, b5, b6⟩ := f
  simp only [SagaM.core, Prod.mk.injEq] at h
  obtain ⟨rfl, rfl, rfl, rfl⟩ := h
  rfl
theorem core_get {F S : List SagaM} (h : F.map SagaM.core = S.map SagaM.core) (i : Nat) {x : SagaM} (hx : S[i]? = some x) : ∃ f, F[i]? = some f ∧ f.core = x.core := by
  have h1 : (F.map SagaM.core)[i]? = (S.map SagaM.core)[i]? := by rw [h]
  rw [List.getElem?_map, List.getElem?_map, hx] at h1
  cases hf : F[i]? with
  | none => rw [hf] at h1; cases h1
  | some f => rw [hf] at h1; exact ⟨f, rfl, Option.some.inj h1⟩
theorem core_ids {F S : List SagaM} (h : F.map SagaM.core = S.map SagaM.core) : F.map (·.id) = S.map (·.id) := by
  have h1 : (F.map SagaM.core).map (·.1) = (S.map SagaM.core).map (·.1) := by rw [h]
  rw [List.map_map, List.map_map] at h1
  exact h1
theorem ord_ne2 {S : List SagaM} (ho : S.Pairwise (fun a b => a.id < b.id)) {i k : Nat} {x g : SagaM} (hx : S[i]? = some x) (hg : S[k]? = some g) (h : i ≠ k) : x.id ≠ g.id := by
  obtain ⟨p1, q1⟩ := List.getElem?_eq_some_iff.1 hx
  obtain ⟨p2, q2⟩ := List.getElem?_eq_some_iff.1 hg
  have hpw := List.pairwise_iff_getElem.1 ho
  rcases Nat.lt_or_ge i k with h3 | h3
  · have := hpw i k p1 p2 h3
    rw [q1, q2] at this; omega
  · have := hpw k i p2 p1 (by omega)
    rw [q1, q2] at this; omega
theorem core_apply {F S : List SagaM} (h : F.map SagaM.core = S.map SagaM.core) (ho : S.Pairwise (fun a b => a.id < b.id)) {k : Nat} {g : SagaM} (hg : S[k]? = some g) (rp : Int) :
    (applyEv F (.moved g.id rp)).map SagaM.core = (S.set k (g.moved rp)).map SagaM.core := by
  apply List.ext_getElem?
  intro i
  have hl : F.length = S.length := by simpa using congrArg List.length h
  show ((F.map (fun x => if x.id = g.id then x.moved rp else x)).map SagaM.core)[i]? = _
  rw [List.getElem?_map, List.getElem?_map, List.getElem?_map]
  by_cases e : i = k
  · subst e
    obtain ⟨f, hf, hc⟩ := core_get h i hg
    rw [List.getElem?_set_self (List.getElem?_eq_some_iff.1 hg).1, hf]
    show some (SagaM.core (if f.id = g.id then f.moved rp else f)) = some (SagaM.core (g.moved rp))
    rw [if_pos (core_id hc), core_moved hc]
  · rw [List.getElem?_set_ne (fun h => e h.symm)]
    cases hx : S[i]? with
    | none =>
      have : F[i]? = none := by
        rw [List.getElem?_eq_none_iff] at hx ⊢; omega
      rw [this]; rfl
    | some x =>
      obtain ⟨f, hf, hc⟩ := core_get h i hx
      rw [hf]
      show some (SagaM.core (if f.id = g.id then f.moved rp else f)) = some (SagaM.core x)
      have hne := ord_ne2 ho hx hg e
      rw [if_neg (by rw [core_id hc]; exact hne), hc]
theorem core_pause {S : List SagaM} {k : Nat} {g g' : SagaM} (hg : S[k]? = some g) (hc : g'.core = g.core) : (S.set k g').map SagaM.core = S.map SagaM.core := by
  apply List.ext_getElem?
  intro i
  rw [List.getElem?_map, List.getElem?_map]
  by_cases e : i = k
  · subst e
    rw [List.getElem?_set_self (List.getElem?_eq_some_iff.1 hg).1, hg]
    show some g'.core = some g.core
    rw [hc]
  · rw [List.getElem?_set_ne (fun h => e h.symm)]
theorem core_ins {F S : List SagaM} (h : F.map SagaM.core = S.map SagaM.core) (g : SagaM) : (insSaga g F).map SagaM.core = (insSaga g S).map SagaM.core := by
  induction F generalizing S with
  | nil =>
    cases S with
    | nil => rfl
    | cons x S => cases h
  | cons f F ih =>
    cases S with
    | nil => cases h
    | cons x S =>
      simp only [List.map_cons, List.cons.injEq] at h
      have hid := core_id h.1
      simp only [insSaga]
      rw [hid]
      split
      · simp only [List.map_cons, h.1, h.2]
      · simp only [List.map_cons, h.1, ih h.2]
/-- An engine and its journal. -/
structure JS (s : StM) (evs0 evs : List Ev) : Prop where
  dj : DJ s.d evs0 evs
  ep : s.j.epoch = 1
  en : s.j.en = 1 + evLen evs
  core : (evs.foldl applyEv []).map SagaM.core = s.sagas.map SagaM.core
theorem DJ.sureG {d : DiskM} {evs evs' : List Ev} {i : Nat} {l : List UInt8} (h : DJ d evs evs) (hp : DJ (d.put i l) evs evs') :
    ((d.sureG i l).2 = true → DJ (d.sureG i l).1 evs' evs' ∧ (d.sureG i l).1.blocks = d.blocks.set i (padB l)) ∧ ((d.sureG i l).2 = false → DJ (d.sureG i l).1 evs evs ∨ DJ (d.sureG i l).1 evs evs') := by
  unfold DiskM.sureG
  split
  · exact ⟨fun h => by (cases h), fun _ => .inl h.count⟩
  · split
    · exact ⟨fun h => by (cases h), fun _ => .inr hp.count⟩
    · exact ⟨fun _ => ⟨hp.flush, rfl⟩, fun h => by (cases h)⟩
theorem JS.settle {s : StM} {evs0 evs : List Ev} (h : JS s evs0 evs) (hi : s.inv0) : DJ (settleD s.j s.d) evs evs ∧ (settleD s.j s.d).pend = none := by
  refine ⟨?_, settle_pend' _ _ hi.pend⟩
  unfold settleD
  split
  · exact h.dj.flush
  · rename_i h1
    have h2 := h.dj.clean (hi.pend (by simpa using h1))
    have h3 := h.dj
    rw [h2] at h3; exact h3
theorem JS.keep {s t : StM} {evs0 evs : List Ev} (h : JS s evs0 evs) (h1 : t.j.epoch = s.j.epoch) (h2 : t.j.en = s.j.en) (h3 : t.sagas.map SagaM.core = s.sagas.map SagaM.core) {e0 : List Ev} (hd : DJ t.d e0 evs) : JS t e0 evs :=
  ⟨hd, by rw [h1]; exact h.ep, by rw [h2]; exact h.en, by rw [h3]; exact h.core⟩
theorem moved_ok {s : StM} {evs0 evs : List Ev} (h : JS s evs0 evs) {k : Nat} {g : SagaM} (hg : s.sagas[k]? = some g) (hst : g.st = 1 ∨ g.st = 2) {rp : Int} (hr : 0 ≤ rp) : EvsOk [] (evs ++ [.moved g.id rp]) := by
  refine EvsOk_snoc h.dj.ok ⟨hr, ?_⟩
  obtain ⟨f, hf, hc⟩ := core_get h.core k hg
  exact ⟨f, List.mem_of_getElem? hf, core_id hc, by rw [core_st hc]; exact hst⟩
theorem reply_cases {g : SagaM} {p : PartM} (hm : g.moves (g.reply p) = true) : g.reply p = 0 ∨ g.reply p = 2 := by
  simp [SagaM.moves] at hm
  exact hm.imp id (fun h => h.1)
theorem appendA_one {d : DiskM} {en : Nat} {r : RecM} : d.appendA ⟨1, en, false⟩ [r] = ((d.sureG en (recBytes (placed r 1 en))).1, (d.sureG en (recBytes (placed r 1 en))).2) := by
  unfold DiskM.appendA
  rw [if_neg (by rintro ⟨h, _⟩; cases h)]
  simp only [settleD, DiskM.appendG, Bool.false_eq_true, if_false]
  split
  · rename_i h; rw [h]
  · rename_i h; simp at h; rw [h]
/-- A saga's turn. -/
theorem stepG_JS {s : StM} {k : Nat} {evs0 evs : List Ev} (h : JS s evs0 evs) (hi : s.inv0) (hl : 3 + evLen evs < s.d.blocks.length) :
    ∃ e0 e1, DJ (s.stepG k).1.d e0 e1 ∧ ((s.stepG k).2 = true → JS (s.stepG k).1 e0 e1) ∧ (e0 = evs0 ∨ e0 = evs ∨ e0 = e1) ∧
      (e1 = evs ∨ ∃ g, s.sagas[k]? = some g ∧ g.waits s.clock = true ∧ g.moves (g.reply s.p) = true ∧ e1 = evs ++ [.moved g.id (g.reply s.p)]) := by
  cases hg : s.sagas[k]? with
  | none => simp only [StM.stepG, hg]; exact ⟨evs0, evs, h.dj, fun _ => h, .inl rfl, .inl rfl⟩
  | some g =>
    by_cases hw : g.waits s.clock = false
    · simp only [StM.stepG, hg, hw, if_true]; exact ⟨evs0, evs, h.dj, fun _ => h, .inl rfl, .inl rfl⟩
    · have hw : g.waits s.clock = true := by simpa using hw
      by_cases hset : s.j.fresh = true ∧ s.d.bad = true
      · rw [stepG_unset hg hw hset]
        exact ⟨evs0, evs, h.dj.count, fun h => by (cases h), .inl rfl, .inl rfl⟩
      have hset : s.j.fresh = false ∨ s.d.bad = false := by
        cases h1 : s.j.fresh
        · exact .inl rfl
        · cases h2 : s.d.bad
          · exact .inr rfl
          · exact absurd ⟨h1, h2⟩ hset
      have hmem : g ∈ s.sagas := List.mem_of_getElem? hg
      have hgo := hi.ok g hmem
      have hst := waits_st hgo hw
      obtain ⟨hd, hp⟩ := h.settle hi
      by_cases hm : g.moves (g.reply s.p) = false
      · rw [stepG_vain hg hw hset hm]
        exact ⟨evs, evs, hd, fun _ => ⟨hd, h.ep, h.en, h.core.trans (core_pause (g' := g.paused s.clock s.pause) hg rfl).symm⟩, .inr (.inl rfl), .inl rfl⟩
      · have hm : g.moves (g.reply s.p) = true := by simpa using hm
        rw [stepG_moved hg hw hset hm]
        have hrp := reply_cases hm
        generalize hrpe : g.reply s.p = rp at hrp ⊢
        have hids := And.intro hgo.1 hgo.2.1
        have ho := moved_ok h hg hst (rp := rp) (by omega)
        have hlen : (settleD s.j s.d).blocks.length = s.d.blocks.length := settle_len' _ _
        have hix : 1 + evLen evs < 65536 := by have := hi.size; omega
        have hput := DJ.moved hd hp ho ⟨by show 4 < 256; omega, by show 1 < 2 ^ 32; omega, hix, by show g.id.toNat < 65536; omega, by show rp.toNat < 256; omega, fun _ => rfl, fun h => by (cases h)⟩ (by rw [hlen]; exact hl)
        obtain ⟨s1, s2⟩ := hd.sureG hput
        have hA : (settleD s.j s.d).appendA ⟨s.j.epoch, s.j.en, false⟩ [⟨4, 0, 0, g.id.toNat, rp.toNat, []⟩] = (((settleD s.j s.d).sureG (1 + evLen evs) (recBytes ⟨4, 1, 1 + evLen evs, g.id.toNat, rp.toNat, []⟩)).1, ((settleD s.j s.d).sureG (1 + evLen evs) (recBytes ⟨4, 1, 1 + evLen evs, g.id.toNat, rp.toNat, []⟩)).2) := by
          rw [h.ep, h.en]; exact appendA_one
        by_cases hok : ((settleD s.j s.d).sureG (1 + evLen evs) (recBytes ⟨4, 1, 1 + evLen evs, g.id.toNat, rp.toNat, []⟩)).2 = true
        · rw [movedG_ok (by rw [hA]; exact hok)]
          have hd1 := (s1 hok).1
          have hd2 : DJ ((settleD s.j s.d).appendA ⟨s.j.epoch, s.j.en, false⟩ [⟨4, 0, 0, g.id.toNat, rp.toNat, []⟩]).1 (evs ++ [.moved g.id rp]) (evs ++ [.moved g.id rp]) := by rw [hA]; exact hd1
          refine ⟨evs ++ [.moved g.id rp], evs ++ [.moved g.id rp], hd2, fun _ => ⟨hd2, h.ep, ?_, ?_⟩, .inr (.inr rfl), .inr ⟨g, rfl, hw, hm, by rw [hrpe]⟩⟩
          · show s.j.en + 1 = _
            rw [evLen_snoc, h.en]; rfl
          · rw [List.foldl_append]
            exact core_apply h.core hi.ord hg rp
        · have hok : ((settleD s.j s.d).sureG (1 + evLen evs) (recBytes ⟨4, 1, 1 + evLen evs, g.id.toNat, rp.toNat, []⟩)).2 = false := by simpa using hok
          rw [movedG_bad (by rw [hA]; exact hok)]
          rcases s2 hok with hd1 | hd1
          · refine ⟨evs, evs, ?_, fun h => by (cases h), .inr (.inl rfl), .inl rfl⟩
            show DJ ((settleD s.j s.d).appendA ⟨s.j.epoch, s.j.en, false⟩ [⟨4, 0, 0, g.id.toNat, rp.toNat, []⟩]).1 evs evs
            rw [hA]; exact hd1
          · refine ⟨evs, evs ++ [.moved g.id rp], ?_, fun h => by (cases h), .inr (.inl rfl), .inr ⟨g, rfl, hw, hm, by rw [hrpe]⟩⟩
            show DJ ((settleD s.j s.d).appendA ⟨s.j.epoch, s.j.en, false⟩ [⟨4, 0, 0, g.id.toNat, rp.toNat, []⟩]).1 evs _
            rw [hA]; exact hd1
end Go.Proofs.YtkafmfdipmhleaaGreatDoor

namespace Go.Proofs.YtkafmfdipmhleaaGreatDoor
open Go.RowKit Go.Maps

theorem sureG_quiet {d : DiskM} (h : d.quiet) (i : Nat) (l : List UInt8) : d.sureG i l = (d.sure i l, true) := by
  unfold DiskM.sureG
  rw [h.bad, (h.put i l).bad]; rfl
theorem appendG_quiet {d : DiskM} (h : d.quiet) (ep ix : Nat) (rs : List RecM) : d.appendG ep ix rs = (d.append ep ix rs, true) := by
  induction rs generalizing d ix with
  | nil => rfl
  | cons r rs ih =>
    simp only [DiskM.appendG, sureG_quiet h, if_true]
    rw [ih (d := d.sure ix _) ((h.put _ _).flush)]; rfl
theorem appendA_quiet {d : DiskM} (h : d.quiet) (j : JnM) (rs : List RecM) : d.appendA j rs = ((settleD j d).append j.epoch j.en rs, true) := by
  unfold DiskM.appendA
  rw [if_neg (by rintro ⟨_, e⟩; rw [h.bad] at e; cases e), appendG_quiet (settle_quiet _ _ h)]
theorem submitG_quiet {s : StM} (h : s.d.quiet) (id : Int) (l : List (ByteArray × ByteArray)) : s.submitG id l = s.submit id l := by
  unfold StM.submitG StM.submit
  rw [appendA_quiet h]
theorem stepG_quiet {s : StM} (h : s.d.quiet) (k : Nat) : s.stepG k = (s.stepOne k, true) := by
  cases hg : s.sagas[k]? with
  | none => simp only [StM.stepG, StM.stepOne, hg]
  | some g =>
    by_cases hw : g.waits s.clock = false
    · simp only [StM.stepG, StM.stepOne, hg, hw, if_true]
    · have hw : g.waits s.clock = true := by simpa using hw
      have hset : s.j.fresh = false ∨ s.d.bad = false := .inr h.bad
      by_cases hm : g.moves (g.reply s.p) = false
      · rw [stepG_vain hg hw hset hm]
        simp only [StM.stepOne, hg, hw, hm, Bool.true_eq_false, if_false, if_true]
      · have hm : g.moves (g.reply s.p) = true := by simpa using hm
        have hA := appendA_quiet (settle_quiet s.j _ h) ⟨s.j.epoch, s.j.en, false⟩ [⟨4, 0, 0, g.id.toNat, (g.reply s.p).toNat, []⟩]
        have hst : ∀ d : DiskM, settleD ⟨s.j.epoch, s.j.en, false⟩ d = d := fun _ => rfl
        rw [hst] at hA
        rw [stepG_moved hg hw hset hm, movedG_ok (by rw [hA]), hA]
        simp only [StM.stepOne, hg, hw, hm, Bool.true_eq_false, if_false]
theorem runG_quiet {s : StM} {m : Nat} (h : s.inv) (k : Nat) (hf : s.fine (m + k)) : s.runG (List.range k) = ((List.range k).foldl StM.stepOne s, true) := by
  induction k generalizing m with
  | zero => rfl
  | succ k ih =>
    have h1 := ih (m := m + 1) (by rw [show m + 1 + k = m + (k + 1) by omega]; exact hf)
    have h2 := fold_inv (m := m + 1) (List.range k) s h (by rw [List.length_range, show m + 1 + k = m + (k + 1) by omega]; exact hf)
    rw [runG_succ s k (by rw [h1]), h1, List.range_succ, List.foldl_append]
    exact stepG_quiet h2.1.quiet k
theorem tickG_quiet {s : StM} {m : Nat} (h : s.inv) (hf : s.fine (m + s.sagas.length)) : s.tickG = (s.tick, true) :=
  runG_quiet (s := { s with clock := s.clock + 1 }) (inv_clock h _) _ hf
/-- A Submit. -/
theorem submitG_JS {s : StM} {id : Int} {n : Nat} {evs0 evs : List Ev} (h : JS s evs0 evs) (hi : s.inv0) (hid : 1 ≤ id ∧ id ≤ 3) (hn : 1 ≤ n ∧ n ≤ 6) (hnew : ∀ x ∈ s.sagas, x.id ≠ id) (hl : 4 + evLen evs < s.d.blocks.length) :
    ∃ e0 e1, DJ (s.d.appendA s.j [bodyRec id (kSteps id n), takenRec id]).1 e0 e1 ∧ ((s.d.appendA s.j [bodyRec id (kSteps id n), takenRec id]).2 = true → JS (s.submitG id (kSteps id n)) e0 e1 ∧ e1 = evs ++ [.taken id (kSteps id n)]) ∧ (e0 = evs0 ∨ e0 = evs ∨ e0 = e1) ∧
      (e1 = evs ∨ e1 = evs ++ [.taken id (kSteps id n)]) := by
  by_cases hset : s.j.fresh = true ∧ s.d.bad = true
  · have hA : s.d.appendA s.j [bodyRec id (kSteps id n), takenRec id] = (s.d.count, false) := by unfold DiskM.appendA; rw [if_pos hset]
    rw [hA]
    exact ⟨evs0, evs, h.dj.count, fun h => by (cases h), .inl rfl, .inl rfl⟩
  · obtain ⟨hd, hp⟩ := h.settle hi
    have hlen : (settleD s.j s.d).blocks.length = s.d.blocks.length := settle_len' _ _
    have hbx := hi.size
    have hA : s.d.appendA s.j [bodyRec id (kSteps id n), takenRec id] = (settleD s.j s.d).appendG 1 (1 + evLen evs) [bodyRec id (kSteps id n), takenRec id] := by
      unfold DiskM.appendA; rw [if_neg hset, h.ep, h.en]
    have ho : EvsOk [] (evs ++ [.taken id (kSteps id n)]) := by
      refine EvsOk_snoc h.dj.ok ⟨fun x hx => ?_, by omega, by omega, (whole_small (kSteps_whole id n (by omega) hn)).2.2⟩
      have h1 : x.id ∈ s.sagas.map (·.id) := by
        rw [← core_ids h.core]; exact List.mem_map_of_mem hx
      obtain ⟨y, hy, hxy⟩ := List.mem_map.1 h1
      rw [← hxy]; exact hnew y hy
    have hput := DJ.bodied (id := id) (n := n) hd hp hid hn
    obtain ⟨s1, s2⟩ := hd.sureG hput
    have hb1 : recBytes (placed (bodyRec id (kSteps id n)) 1 (1 + evLen evs)) = recBytes (bRec id n (1 + evLen evs)) := rfl
    have hb2 : recBytes (placed (takenRec id) 1 (1 + evLen evs + 1)) = recBytes ⟨3, 1, 1 + evLen evs + 1, id.toNat, 0, []⟩ := rfl
    have hbod : padB (recBytes (bRec id n (1 + evLen evs))) = bod id n (1 + evLen evs) := rfl
    by_cases hok : ((settleD s.j s.d).sureG (1 + evLen evs) (recBytes (bRec id n (1 + evLen evs)))).2 = true
    · obtain ⟨hd1, hbl⟩ := s1 hok
      have hp1 := sureG_pend _ _ _ hok
      have hl1 := sureG_len (settleD s.j s.d) (1 + evLen evs) (recBytes (bRec id n (1 + evLen evs)))
      have hA2 : s.d.appendA s.j [bodyRec id (kSteps id n), takenRec id] =
          ((((settleD s.j s.d).sureG (1 + evLen evs) (recBytes (bRec id n (1 + evLen evs)))).1.sureG (1 + evLen evs + 1) (recBytes ⟨3, 1, 1 + evLen evs + 1, id.toNat, 0, []⟩)).1,
           (((settleD s.j s.d).sureG (1 + evLen evs) (recBytes (bRec id n (1 + evLen evs)))).1.sureG (1 + evLen evs + 1) (recBytes ⟨3, 1, 1 + evLen evs + 1, id.toNat, 0, []⟩)).2) := by
        rw [hA]
        simp only [DiskM.appendG, hb1, hb2, hok, if_true]
        split
        · rename_i h; rw [h]
        · rename_i h; simp at h; rw [h]
      generalize ((settleD s.j s.d).sureG (1 + evLen evs) (recBytes (bRec id n (1 + evLen evs)))).1 = d1 at hd1 hbl hp1 hl1 hA2
      have hput2 := DJ.taken (id := id) (n := n) hd1 hp1 (by rw [hbl, getD_set_self _ _ _ (by omega)]; exact hbod) hid hn ho (by omega) (by omega)
      obtain ⟨t1, t2⟩ := hd1.sureG hput2
      rw [hA2]
      by_cases hok2 : (d1.sureG (1 + evLen evs + 1) (recBytes ⟨3, 1, 1 + evLen evs + 1, id.toNat, 0, []⟩)).2 = true
      · have hd2 := (t1 hok2).1
        refine ⟨_, _, hd2, fun _ => ⟨⟨?_, h.ep, ?_, ?_⟩, rfl⟩, .inr (.inr rfl), .inr rfl⟩
        · show DJ (s.d.appendA s.j [bodyRec id (kSteps id n), takenRec id]).1 _ _
          rw [hA2]; exact hd2
        · show s.j.en + 2 = _
          rw [evLen_snoc, h.en]; rfl
        · rw [List.foldl_append]
          exact core_ins h.core _
      · have hok2 : (d1.sureG (1 + evLen evs + 1) (recBytes ⟨3, 1, 1 + evLen evs + 1, id.toNat, 0, []⟩)).2 = false := by simpa using hok2
        rcases t2 hok2 with hd2 | hd2
        · exact ⟨evs, evs, hd2, fun h => by (rw [hok2] at h; cases h), .inr (.inl rfl), .inl rfl⟩
        · exact ⟨evs, _, hd2, fun h => by (rw [hok2] at h; cases h), .inr (.inl rfl), .inr rfl⟩
    · have hok : ((settleD s.j s.d).sureG (1 + evLen evs) (recBytes (bRec id n (1 + evLen evs)))).2 = false := by simpa using hok
      have hA2 : s.d.appendA s.j [bodyRec id (kSteps id n), takenRec id] = (((settleD s.j s.d).sureG (1 + evLen evs) (recBytes (bRec id n (1 + evLen evs)))).1, false) := by
        rw [hA]
        simp only [DiskM.appendG, hb1, hok, Bool.false_eq_true, if_false]
      rw [hA2]
      refine ⟨evs, evs, ?_, fun h => by (cases h), .inr (.inl rfl), .inl rfl⟩
      rcases s2 hok with hd1 | hd1 <;> exact hd1
theorem stepG_len {s : StM} {k : Nat} : (s.stepG k).1.d.blocks.length = s.d.blocks.length := by
  unfold StM.stepG StM.movedG
  cases s.sagas[k]? with
  | none => rfl
  | some g =>
    simp only
    split
    · rfl
    · split
      · rfl
      · split
        · exact settle_len' _ _
        · split
          · simp only; rw [appendA_len, settle_len']
          · simp only; rw [appendA_len, settle_len']
theorem runG_len {s : StM} (k : Nat) : (s.runG (List.range k)).1.d.blocks.length = s.d.blocks.length := by
  induction k with
  | zero => rfl
  | succ k ih =>
    by_cases h : (s.runG (List.range k)).2 = true
    · rw [runG_succ s k h, stepG_len, ih]
    · rw [runG_stop s k (k + 1) (by omega) (by simpa using h), ih]
/-- Turns, one behind the other: what holds of the journal's events, if a move more keeps it. -/
theorem runG_JS {s : StM} {m : Nat} {evs0 evs : List Ev} (P : Nat → List Ev → Prop) (h : JS s evs0 evs) (hi : s.inv0) (hr : s.roomy) (k : Nat) (hf : s.fine (m + k)) (hP : ∀ j e, P j e → P (j + 1) e) (hPm : ∀ j e id rp, P j e → P (j + 1) (e ++ [.moved id rp]))
    (hlen : ∀ j e, j ≤ k → P j e → 3 + evLen e < s.d.blocks.length) (h0 : P 0 evs0) (h1 : P 0 evs) :
    ∃ e0 e1, DJ (s.runG (List.range k)).1.d e0 e1 ∧ ((s.runG (List.range k)).2 = true → JS (s.runG (List.range k)).1 e0 e1) ∧ P k e0 ∧ P k e1 := by
  induction k generalizing m with
  | zero => exact ⟨evs0, evs, h.dj, fun _ => h, h0, h1⟩
  | succ k ih =>
    obtain ⟨e0, e1, i1, i2, i3, i4⟩ := ih (m := m + 1) (by rw [show m + 1 + k = m + (k + 1) by omega]; exact hf) (fun j e hj => hlen j e (by omega))
    by_cases hok : (s.runG (List.range k)).2 = true
    · have hJ := i2 hok
      have hinv := runG_inv (m := m + 1) hi hr k (by rw [show m + 1 + k = m + (k + 1) by omega]; exact hf) hok
      rw [runG_succ s k hok]
      obtain ⟨f0, f1, j1, j2, j3, j4⟩ := stepG_JS (k := k) hJ hinv.1 (by rw [runG_len]; exact hlen k e1 (by omega) i4)
      have p1 : P (k + 1) f1 := by
        rcases j4 with rfl | ⟨g, _, _, _, rfl⟩
        · exact hP _ _ i4
        · exact hPm _ _ _ _ i4
      refine ⟨f0, f1, j1, j2, ?_, p1⟩
      rcases j3 with rfl | rfl | rfl
      · exact hP _ _ i3
      · exact hP _ _ i4
      · exact p1
    · have hok : (s.runG (List.range k)).2 = false := by simpa using hok
      rw [runG_stop s k (k + 1) (by omega) hok]
      exact ⟨e0, e1, i1, fun h => by (rw [hok] at h; cases h), hP _ _ i3, hP _ _ i4⟩
end Go.Proofs.YtkafmfdipmhleaaGreatDoor

namespace Go.Proofs.YtkafmfdipmhleaaGreatDoor
open Go.RowKit Go.Maps

/-- The sagas that a journal tells of. -/
def folded (evs : List Ev) : List SagaM := evs.foldl applyEv []
theorem folded_snoc (evs : List Ev) (e : Ev) : folded (evs ++ [e]) = applyEv (folded evs) e := by unfold folded; rw [List.foldl_append]; rfl
theorem folded_ok {evs : List Ev} (h : EvsOk [] evs) : SgsOk (folded evs) := by
  have := sgsOk_take h evs.length
  rw [List.take_length] at this; exact this
theorem ord_uniq {l : List SagaM} (ho : l.Pairwise (fun a b => a.id < b.id)) {g f : SagaM} (hg : g ∈ l) (hf : f ∈ l) (h : g.id = f.id) : g = f := by
  obtain ⟨i, hi⟩ := List.getElem?_of_mem hg
  obtain ⟨k, hk⟩ := List.getElem?_of_mem hf
  by_cases e : i = k
  · subst e; rw [hi] at hk; exact Option.some.inj hk
  · exact absurd h (ord_ne2 ho hi hk e)
theorem left_core {g f : SagaM} (h : g.core = f.core) : g.left = f.left := by
  obtain ⟨a1, a2, a3, a4, a5, a6⟩ := g
  obtain ⟨b1, b2, b3, b4, b5, b6⟩ := f
  simp only [SagaM.core, Prod.mk.injEq] at h
  obtain ⟨rfl, rfl, rfl, rfl⟩ := h
  rfl
theorem leftSum_core {F S : List SagaM} (h : F.map SagaM.core = S.map SagaM.core) : leftSum F = leftSum S := by
  induction F generalizing S with
  | nil => cases S with
    | nil => rfl
    | cons x S => cases h
  | cons f F ih => cases S with
    | nil => cases h
    | cons x S =>
      simp only [List.map_cons, List.cons.injEq] at h
      have := ih h.2
      simp only [leftSum, List.map_cons, List.sum_cons] at this ⊢
      rw [left_core h.1, this]
theorem mv_steps (g : SagaM) (rp : Int) : (g.moved rp).steps = g.steps := by
  by_cases h1 : g.st = 1 <;> by_cases h2 : rp = 0 <;> by_cases h3 : (g.steps.length : Int) < g.step + 1 <;> simp [SagaM.moved, SagaM.forward, SagaM.backward, h1, h2, h3]
theorem core_step {g f : SagaM} (h : g.core = f.core) : g.step = f.step := congrArg (·.2.2.1) h
theorem core_steps {g f : SagaM} (h : g.core = f.core) : g.steps = f.steps := congrArg (·.2.2.2) h
/-- A journal, and what its partner has done; what was told of it. -/
structure Good (n : Int → Nat) (last : Int → Int) (evs : List Ev) (p : PartM) : Prop where
  ok : EvsOk [] evs
  ids : ∀ g ∈ folded evs, (1 ≤ g.id ∧ g.id ≤ 3) ∧ g.steps = kSteps g.id (n g.id)
  agree : ∀ g ∈ folded evs, Agree (n g.id) g.st g.step (mineOf p.effs g.id)
  none : ∀ id, (∀ g ∈ folded evs, g.id ≠ id) → mineOf p.effs id = []
  last : ∀ id, last id ≠ 0 → ∃ g ∈ folded evs, g.id = id ∧ (3 ≤ last id → g.st = last id)
  tries : ∀ g ∈ folded evs, g.tries = 0
  len : (evLen evs : Int) + leftSum (folded evs) ≤ 13 * (folded evs).length
theorem Good.count {n : Int → Nat} {last : Int → Int} {evs : List Ev} {p : PartM} (h : Good n last evs p) : (folded evs).length ≤ 3 := by
  have h1 := folded_ok h.ok
  have := len_of_ord (folded evs) 0 3 h1.ord (fun g hg => by have := (h.ids g hg).1; omega) (by omega)
  omega
theorem Good.ev {n : Int → Nat} {last : Int → Int} {evs : List Ev} {p : PartM} (h : Good n last evs p) : evLen evs ≤ 39 ∧ (evLen evs : Int) + leftSum (folded evs) ≤ 39 := by
  have h1 := h.count
  have h2 := h.len
  have h3 := leftSum_nonneg (folded evs) (folded_ok h.ok).ok
  omega
theorem Good.empty (n : Int → Nat) (p : PartM) (hp : p.effs = []) : Good n (fun _ => 0) [] p := by
  have hf : folded [] = [] := rfl
  refine ⟨trivial, ?_, ?_, ?_, ?_, ?_, ?_⟩
  · rw [hf]; intro g hg; simp at hg
  · rw [hf]; intro g hg; simp at hg
  · intro id _; rw [hp]; rfl
  · intro id h; exact absurd rfl h
  · rw [hf]; intro g hg; simp at hg
  · rw [hf]; simp [evLen, leftSum]
theorem Good.turn {n : Int → Nat} {last : Int → Int} {evs : List Ev} {p : PartM} {f g : SagaM} (h : Good n last evs p) (hf : f ∈ folded evs) (hc : g.core = f.core) (hst : g.st = 1 ∨ g.st = 2) :
    Agree (n g.id) g.st g.step (mineOf (p.ask g.call).effs g.id) ∧ (g.moves (g.reply p) = true → Agree (n g.id) (g.moved (g.reply p)).st (g.moved (g.reply p)).step (mineOf (p.ask g.call).effs g.id)) := by
  have e1 := core_id hc
  have hl : g.steps.length = n g.id := by rw [core_steps hc, (h.ids f hf).2, kSteps_len, e1]
  have hA := h.agree f hf
  rw [← e1, ← core_st hc, ← core_step hc] at hA
  rw [← hl] at hA ⊢
  obtain ⟨a1, a2, _⟩ := agree_ask g p hA hst
  exact ⟨a1, a2⟩
theorem Good.asked {n : Int → Nat} {last : Int → Int} {evs : List Ev} {p : PartM} {f g : SagaM} (h : Good n last evs p) (hf : f ∈ folded evs) (hc : g.core = f.core) (hst : g.st = 1 ∨ g.st = 2) : Good n last evs (p.ask g.call) := by
  have hord := (folded_ok h.ok).ord
  have e1 := core_id hc
  refine ⟨h.ok, h.ids, fun x hx => ?_, fun id hid => ?_, h.last, h.tries, h.len⟩
  · by_cases e : x.id = g.id
    · have : x = f := ord_uniq hord hx hf (e.trans e1)
      subst this
      have := (h.turn hf hc hst).1
      rw [e1, core_st hc, core_step hc] at this; exact this
    · rw [mine_other _ _ _ (show g.call.saga ≠ x.id from fun he => e he.symm)]
      exact h.agree x hx
  · rw [mine_other _ _ _ (show g.call.saga ≠ id from fun he => hid f hf (e1.symm.trans he))]
    exact h.none id hid
theorem Good.moved {n : Int → Nat} {last : Int → Int} {evs : List Ev} {p : PartM} {f g : SagaM} (h : Good n last evs p) (hf : f ∈ folded evs) (hc : g.core = f.core) (hst : g.st = 1 ∨ g.st = 2) (hm : g.moves (g.reply p) = true) (hok : EvsOk [] (evs ++ [.moved g.id (g.reply p)])) :
    Good n last (evs ++ [.moved g.id (g.reply p)]) (p.ask g.call) := by
  have hsg := folded_ok h.ok
  have e1 := core_id hc
  have hst' : f.st = 1 ∨ f.st = 2 := by rw [← core_st hc]; exact hst
  obtain ⟨i, hi⟩ := List.getElem?_of_mem hf
  have hfo : folded (evs ++ [.moved g.id (g.reply p)]) = (folded evs).set i (f.moved (g.reply p)) := by
    rw [folded_snoc]
    show (folded evs).map (fun x => if x.id = g.id then x.moved (g.reply p) else x) = _
    rw [e1]; exact map_if_set hsg.ord hi _
  have hold := h.asked hf hc hst
  have ht := (h.turn hf hc hst).2 hm
  have hfm : f.moved (g.reply p) ∈ (folded evs).set i (f.moved (g.reply p)) := List.mem_of_getElem? (List.getElem?_set_self (List.getElem?_eq_some_iff.1 hi).1)
  have hback : ∀ x ∈ folded evs, x ∈ (folded evs).set i (f.moved (g.reply p)) ∨ x = f := by
    intro x hx
    obtain ⟨k, hk⟩ := List.getElem?_of_mem hx
    by_cases e : i = k
    · subst e; rw [hi] at hk; exact .inr (Option.some.inj hk).symm
    · exact .inl (List.mem_of_getElem? (by rw [List.getElem?_set_ne e]; exact hk))
  refine ⟨hok, ?_, ?_, ?_, ?_, ?_, ?_⟩
  · rw [hfo]; intro x hx
    rcases mem_set_cases hx with rfl | hx
    · rw [moved_id, mv_steps]; exact h.ids f hf
    · exact h.ids x hx
  · rw [hfo]; intro x hx
    rcases mem_set_cases hx with rfl | hx
    · rw [moved_id, ← e1, ← core_moved hc]; exact ht
    · exact hold.agree x hx
  · rw [hfo]; intro id hid
    refine hold.none id (fun x hx => ?_)
    rcases hback x hx with h1 | rfl
    · exact hid x h1
    · have := hid _ hfm; rw [moved_id] at this; exact this
  · rw [hfo]; intro id hid
    obtain ⟨x, hx, hxi, hxs⟩ := h.last id hid
    rcases hback x hx with h1 | rfl
    · exact ⟨x, h1, hxi, hxs⟩
    · exact ⟨_, hfm, by rw [moved_id]; exact hxi, fun h3 => by have := hxs h3; omega⟩
  · rw [hfo]; intro x hx
    rcases mem_set_cases hx with rfl | hx
    · exact moved_tries _ _
    · exact h.tries x hx
  · rw [hfo, evLen_snoc, List.length_set, leftSum_set _ _ f _ hi]
    have h1 := ((hsg.ok f hf).moved hst' (g.reply p)).2
    have h2 := h.len
    have h3 : (Ev.moved g.id (g.reply p)).len = 1 := rfl
    rw [h3]
    omega
theorem Good.taken {n : Int → Nat} {last : Int → Int} {evs : List Ev} {p : PartM} {id : Int} (h : Good n last evs p) (hid : 1 ≤ id ∧ id ≤ 3) (hn : 1 ≤ n id ∧ n id ≤ 6) (hnew : ∀ g ∈ folded evs, g.id ≠ id) (hok : EvsOk [] (evs ++ [.taken id (kSteps id (n id))])) :
    Good n last (evs ++ [.taken id (kSteps id (n id))]) p := by
  have hfo : folded (evs ++ [.taken id (kSteps id (n id))]) = insSaga (SagaM.new id (kSteps id (n id))) (folded evs) := folded_snoc _ _
  refine ⟨hok, ?_, ?_, ?_, ?_, ?_, ?_⟩
  · rw [hfo]; intro x hx
    rcases insSaga_mem.1 hx with rfl | hx
    · exact ⟨hid, rfl⟩
    · exact h.ids x hx
  · rw [hfo]; intro x hx
    rcases insSaga_mem.1 hx with rfl | hx
    · refine .inl ⟨rfl, 0, rfl, ?_, .inl ?_⟩
      · show 0 < n id; omega
      · exact h.none id hnew
    · exact h.agree x hx
  · rw [hfo]; intro i hi
    exact h.none i (fun x hx => hi x (insSaga_mem.2 (.inr hx)))
  · rw [hfo]; intro i hi
    obtain ⟨x, hx, h1⟩ := h.last i hi
    exact ⟨x, insSaga_mem.2 (.inr hx), h1⟩
  · rw [hfo]; intro x hx
    rcases insSaga_mem.1 hx with rfl | hx
    · rfl
    · exact h.tries x hx
  · rw [hfo, evLen_snoc, insSaga_len, insSaga_sum, new_left, kSteps_len]
    have h2 := h.len
    have h3 : (Ev.taken id (kSteps id (n id))).len = 2 := rfl
    rw [h3]
    omega
/-- What is told, and sure, is noted. -/
theorem Good.noted {n : Int → Nat} {last : Int → Int} {evs : List Ev} {p : PartM} {g : SagaM} (h : Good n last evs p) (hg : g ∈ folded evs) {id : Int} (hid : g.id = id) : Good n (fun i => if i = id then g.st else last i) evs p := by
  refine ⟨h.ok, h.ids, h.agree, h.none, fun i hi => ?_, h.tries, h.len⟩
  by_cases e : i = id
  · subst e
    exact ⟨g, hg, hid, fun _ => by simp⟩
  · simp only [if_neg e] at hi ⊢
    exact h.last i hi
/-- A disk's counts grow by k at most. -/
def Grew (k : Nat) (d d' : DiskM) : Prop := (0 ≤ d.calls → d.calls + k ≤ 2 ^ 41 → 0 ≤ d'.calls ∧ d'.calls ≤ d.calls + k) ∧ d'.off = d.off
theorem Grew.refl (d : DiskM) : Grew 0 d d := ⟨fun h _ => ⟨h, by omega⟩, rfl⟩
theorem Grew.trans {a b : Nat} {d e f : DiskM} (h1 : Grew a d e) (h2 : Grew b e f) : Grew (a + b) d f :=
  ⟨fun h0 h => by
    obtain ⟨a1, a2⟩ := h1.1 h0 (by omega)
    obtain ⟨b1, b2⟩ := h2.1 a1 (by omega)
    exact ⟨b1, by omega⟩, h2.2.trans h1.2⟩
theorem Grew.mono {a b : Nat} {d e : DiskM} (h : Grew a d e) (hab : a ≤ b) : Grew b d e :=
  ⟨fun h0 h1 => by obtain ⟨a1, a2⟩ := h.1 h0 (by omega); exact ⟨a1, by omega⟩, h.2⟩
theorem Grew.count (d : DiskM) : Grew 1 d d.count := ⟨fun h0 h => by
  have : d.count.calls = d.calls + 1 := wrap_in _ (by omega)
  rw [this]; omega, rfl⟩
theorem Grew.put (d : DiskM) (i : Nat) (l : List UInt8) : Grew 1 d (d.put i l) := Grew.count d
theorem Grew.flush (d : DiskM) : Grew 1 d d.flush := Grew.count d
theorem Grew.settle (j : JnM) (d : DiskM) : Grew 1 d (settleD j d) := by
  unfold settleD; split
  · exact Grew.flush d
  · exact (Grew.refl d).mono (by omega)
theorem Grew.sureG (d : DiskM) (i : Nat) (l : List UInt8) : Grew 2 d (d.sureG i l).1 := by
  unfold DiskM.sureG; split
  · exact (Grew.count d).mono (by omega)
  · split
    · exact (Grew.put d i l).trans (Grew.count _)
    · exact (Grew.put d i l).trans (Grew.flush _)
theorem Grew.appendG (d : DiskM) (ep ix : Nat) (rs : List RecM) : Grew (2 * rs.length) d (d.appendG ep ix rs).1 := by
  induction rs generalizing d ix with
  | nil => exact Grew.refl d
  | cons r rs ih =>
    simp only [DiskM.appendG]
    split
    · exact ((Grew.sureG d ix _).trans (ih _ _)).mono (by rw [List.length_cons]; omega)
    · exact (Grew.sureG d ix _).mono (by rw [List.length_cons]; omega)
theorem Grew.appendA (d : DiskM) (j : JnM) (rs : List RecM) : Grew (1 + 2 * rs.length) d (d.appendA j rs).1 := by
  unfold DiskM.appendA; split
  · exact (Grew.count d).mono (by omega)
  · exact (Grew.settle j d).trans (Grew.appendG _ _ _ _)
theorem Grew.stepG (s : StM) (k : Nat) : Grew 10 s.d (s.stepG k).1.d := by
  unfold StM.stepG StM.movedG
  cases s.sagas[k]? with
  | none => exact (Grew.refl _).mono (by omega)
  | some g =>
    simp only
    split
    · exact (Grew.refl _).mono (by omega)
    · split
      · exact (Grew.count _).mono (by omega)
      · split
        · exact (Grew.settle _ _).mono (by omega)
        · split
          · exact ((Grew.settle s.j s.d).trans (Grew.appendA _ _ _)).mono (show 1 + (1 + 2 * 1) ≤ 10 by omega)
          · exact ((Grew.settle s.j s.d).trans (Grew.appendA _ _ _)).mono (show 1 + (1 + 2 * 1) ≤ 10 by omega)
/-- There is room in the numbers for m more questions. -/
def PF (p : PartM) (m : Nat) : Prop := p.log.length + m < 2 ^ 30 ∧ p.effs.length + m < 2 ^ 30 ∧ p.l.length < 2 ^ 30 ∧ 0 ≤ p.at_ ∧ p.at_ + m < 2 ^ 30
theorem PF.less {p : PartM} {m k : Nat} (h : PF p m) (hk : k ≤ m) : PF p k := by
  obtain ⟨h1, h2, h3, h4, h5⟩ := h
  exact ⟨by omega, by omega, h3, h4, by omega⟩
theorem PF.ask {p : PartM} {m : Nat} (h : PF p (m + 1)) (c : CallM) : PF (p.ask c) m := by
  obtain ⟨h1, h2, h3, h4, h5⟩ := h
  obtain ⟨a1, a2, a3, a4, a5, _⟩ := ask_fine (c := c) h1 h2 h4 h5
  exact ⟨a1, a2, by rw [a3]; exact h3, a4, a5⟩
/-- A disk, its journal and the partner, engine or none: m: what may yet be done; b: it is not cut off. -/
structure Liv (n : Int → Nat) (last : Int → Int) (m : Nat) (b : Bool) (lo : Nat) (d : DiskM) (p : PartM) (e0 e1 : List Ev) : Prop where
  dj : DJ d e0 e1
  g0 : Good n last e0 p
  g1 : Good n last e1 p
  len : d.blocks.length = 120
  pf : PF p m
  lo : p.lo = lo
  cal : 0 ≤ d.calls ∧ d.calls + 20000 * m ≤ 2 ^ 40
  off : b = true → d.off = -1
theorem Liv.less {n : Int → Nat} {last : Int → Int} {m k : Nat} {b : Bool} {lo : Nat} {d : DiskM} {p : PartM} {e0 e1 : List Ev} (h : Liv n last m b lo d p e0 e1) (hk : k ≤ m) : Liv n last k b lo d p e0 e1 :=
  ⟨h.dj, h.g0, h.g1, h.len, h.pf.less hk, h.lo, ⟨h.cal.1, by have := h.cal.2; omega⟩, h.off⟩
/-- Another disk and partner. -/
theorem Liv.next {n : Int → Nat} {last : Int → Int} {m k : Nat} {b : Bool} {lo : Nat} {d d' : DiskM} {p p' : PartM} {e0 e1 f0 f1 : List Ev} (h : Liv n last (m + 1) b lo d p e0 e1) (hg : Grew k d d') (hk : k ≤ 20000) (hl : d'.blocks.length = d.blocks.length) (hj : DJ d' f0 f1) (h0 : Good n last f0 p') (h1 : Good n last f1 p') (hp : PF p' m) (hlo : p'.lo = p.lo) : Liv n last m b lo d' p' f0 f1 := by
  obtain ⟨c1, c2⟩ := h.cal
  obtain ⟨g1, g2⟩ := hg.1 c1 (by omega)
  exact ⟨hj, h0, h1, hl.trans h.len, hp, hlo.trans h.lo, ⟨g1, by omega⟩, fun hb => hg.2.trans (h.off hb)⟩
/-- An engine that has not failed. -/
structure Alv (n : Int → Nat) (last : Int → Int) (m : Nat) (b : Bool) (lo : Nat) (s : StM) (e0 e1 : List Ev) : Prop where
  js : JS s e0 e1
  inv : s.inv0
  room : s.roomy
  tries : ∀ g ∈ s.sagas, g.tries ≤ s.p.log.length
  clk : 0 ≤ s.clock ∧ s.clock + m ≤ 100000
  liv : Liv n last m b lo s.d s.p e0 e1
theorem Alv.less {n : Int → Nat} {last : Int → Int} {m k : Nat} {b : Bool} {lo : Nat} {s : StM} {e0 e1 : List Ev} (h : Alv n last m b lo s e0 e1) (hk : k ≤ m) : Alv n last k b lo s e0 e1 :=
  ⟨h.js, h.inv, h.room, h.tries, ⟨h.clk.1, by have := h.clk.2; omega⟩, h.liv.less hk⟩
theorem Alv.fine {n : Int → Nat} {last : Int → Int} {m : Nat} {b : Bool} {lo : Nat} {s : StM} {e0 e1 : List Ev} (h : Alv n last m b lo s e0 e1) : s.fine m := by
  obtain ⟨h1, h2, h3, h4, h5⟩ := h.liv.pf
  exact ⟨h1, h2, h3, h4, h5, h.tries⟩
theorem Alv.count {n : Int → Nat} {last : Int → Int} {m : Nat} {b : Bool} {lo : Nat} {s : StM} {e0 e1 : List Ev} (h : Alv n last m b lo s e0 e1) : s.sagas.length ≤ 3 := by
  have h1 := h.liv.g1.count
  have h2 := congrArg List.length h.js.core
  simp at h2
  unfold folded at h1
  omega
theorem stepG_settled {s : StM} {k : Nat} {g : SagaM} (hg : s.sagas[k]? = some g) (hw : g.waits s.clock = true) (hset : s.j.fresh = false ∨ s.d.bad = false) :
    (StM.stepG { s with j := ⟨s.j.epoch, s.j.en, false⟩, d := settleD s.j s.d } k).1.d = (s.stepG k).1.d ∧ ((s.stepG k).2 = true → StM.stepG { s with j := ⟨s.j.epoch, s.j.en, false⟩, d := settleD s.j s.d } k = s.stepG k) := by
  by_cases hm : g.moves (g.reply s.p) = false
  · have h1 := stepG_vain (s := { s with j := ⟨s.j.epoch, s.j.en, false⟩, d := settleD s.j s.d }) (k := k) hg hw (.inl rfl) hm
    have h2 := stepG_vain (k := k) hg hw hset hm
    have e : StM.stepG { s with j := ⟨s.j.epoch, s.j.en, false⟩, d := settleD s.j s.d } k = s.stepG k := by rw [h2]; exact h1
    exact ⟨by rw [e], fun _ => e⟩
  · have hm : g.moves (g.reply s.p) = true := by simpa using hm
    have hst : ∀ d : DiskM, settleD ⟨s.j.epoch, s.j.en, false⟩ d = d := fun _ => rfl
    rw [stepG_moved hg hw hset hm, stepG_moved (s := { s with j := ⟨s.j.epoch, s.j.en, false⟩, d := settleD s.j s.d }) hg hw (.inl rfl) hm]
    unfold StM.movedG
    simp only [hst]
    split
    · exact ⟨rfl, fun _ => rfl⟩
    · exact ⟨rfl, fun h => by (cases h)⟩
theorem stepG_p {s : StM} {k : Nat} {g : SagaM} (hg : s.sagas[k]? = some g) (hw : g.waits s.clock = true) (hset : s.j.fresh = false ∨ s.d.bad = false) : (s.stepG k).1.p = s.p.ask g.call := by
  by_cases hm : g.moves (g.reply s.p) = false
  · rw [stepG_vain hg hw hset hm]
  · have hm : g.moves (g.reply s.p) = true := by simpa using hm
    rw [stepG_moved hg hw hset hm]
    unfold StM.movedG
    split <;> rfl
theorem stepG_law {n : Int → Nat} {last : Int → Int} {m : Nat} {b : Bool} {lo : Nat} {s : StM} {e0 e1 : List Ev} (h : Alv n last (m + 1) b lo s e0 e1) (k : Nat) :
    ∃ f0 f1, Liv n last m b lo (s.stepG k).1.d (s.stepG k).1.p f0 f1 ∧ ((s.stepG k).2 = true → Alv n last m b lo (s.stepG k).1 f0 f1) := by
  have h' := h.less (k := m) (by omega)
  cases hg : s.sagas[k]? with
  | none => simp only [StM.stepG, hg]; exact ⟨e0, e1, h'.liv, fun _ => h'⟩
  | some g =>
    by_cases hw : g.waits s.clock = false
    · simp only [StM.stepG, hg, hw, if_true]; exact ⟨e0, e1, h'.liv, fun _ => h'⟩
    · have hw : g.waits s.clock = true := by simpa using hw
      by_cases hset : s.j.fresh = true ∧ s.d.bad = true
      · rw [stepG_unset hg hw hset]
        exact ⟨e0, e1, h.liv.next (Grew.count _) (by omega) rfl h.liv.dj.count h.liv.g0 h.liv.g1 h'.liv.pf rfl, fun h => by (cases h)⟩
      have hset : s.j.fresh = false ∨ s.d.bad = false := by
        cases h1 : s.j.fresh
        · exact .inl rfl
        · cases h2 : s.d.bad
          · exact .inr rfl
          · exact absurd ⟨h1, h2⟩ hset
      have hmem : g ∈ s.sagas := List.mem_of_getElem? hg
      have hst := waits_st (h.inv.ok g hmem) hw
      obtain ⟨hd, hp⟩ := h.js.settle h.inv
      have hJ' : JS { s with j := ⟨s.j.epoch, s.j.en, false⟩, d := settleD s.j s.d } e1 e1 := ⟨hd, h.js.ep, h.js.en, h.js.core⟩
      have hi' : StM.inv0 { s with j := ⟨s.j.epoch, s.j.en, false⟩, d := settleD s.j s.d } := ⟨fun _ => hp, h.inv.epoch, h.inv.ok, h.inv.ord, by show (settleD s.j s.d).blocks.length ≤ 1000; rw [settle_len']; exact h.inv.size⟩
      obtain ⟨f0, f1, j1, j2, j3, j4⟩ := stepG_JS (k := k) hJ' hi' (by
        show 3 + evLen e1 < (settleD s.j s.d).blocks.length
        rw [settle_len', h.liv.len]; have := h.liv.g1.ev; omega)
      obtain ⟨z1, z2⟩ := stepG_settled hg hw hset
      rw [z1] at j1
      obtain ⟨f, hf, hc⟩ := core_get h.js.core k hg
      have hfm : f ∈ folded e1 := List.mem_of_getElem? hf
      have hA := h.liv.g1.asked hfm hc.symm hst
      have hG1 : Good n last f1 (s.p.ask g.call) := by
        rcases j4 with rfl | ⟨g', hg', _, hm', rfl⟩
        · exact hA
        · have : g' = g := Option.some.inj (hg'.symm.trans hg)
          subst this
          exact h.liv.g1.moved hfm hc.symm hst hm' j1.ok
      have hG0 : Good n last f0 (s.p.ask g.call) := by
        rcases j3 with rfl | rfl | rfl
        · exact hA
        · exact hA
        · exact hG1
      have hP := stepG_p hg hw hset
      have hL : Liv n last m b lo (s.stepG k).1.d (s.stepG k).1.p f0 f1 := by
        rw [hP]
        exact h.liv.next (Grew.stepG s k) (by omega) stepG_len j1 hG0 hG1 (h.liv.pf.ask g.call) rfl
      refine ⟨f0, f1, hL, fun hok => ?_⟩
      obtain ⟨i1, i2, i3, i4, i5⟩ := stepG_inv h.inv h.room h.fine hok
      have hz := z2 hok
      exact ⟨by rw [← hz]; exact j2 (by rw [hz]; exact hok), i1, i2, i3.2.2.2.2.2, by rw [i4]; exact h'.clk, hL⟩
theorem runG_law {n : Int → Nat} {last : Int → Int} {m : Nat} {b : Bool} {lo : Nat} {s : StM} {e0 e1 : List Ev} (k : Nat) (h : Alv n last (m + k) b lo s e0 e1) :
    ∃ f0 f1, Liv n last m b lo (s.runG (List.range k)).1.d (s.runG (List.range k)).1.p f0 f1 ∧ ((s.runG (List.range k)).2 = true → Alv n last m b lo (s.runG (List.range k)).1 f0 f1) := by
  induction k generalizing m with
  | zero => exact ⟨e0, e1, h.liv, fun _ => h⟩
  | succ k ih =>
    obtain ⟨f0, f1, i1, i2⟩ := ih (m := m + 1) (by rw [show m + 1 + k = m + (k + 1) by omega]; exact h)
    by_cases hok : (s.runG (List.range k)).2 = true
    · rw [runG_succ s k hok]
      exact stepG_law (i2 hok) k
    · have hok : (s.runG (List.range k)).2 = false := by simpa using hok
      rw [runG_stop s k (k + 1) (by omega) hok]
      exact ⟨f0, f1, i1.less (by omega), fun h => by (rw [hok] at h; cases h)⟩
theorem tickG_law {n : Int → Nat} {last : Int → Int} {m : Nat} {b : Bool} {lo : Nat} {s : StM} {e0 e1 : List Ev} (h : Alv n last (m + 4) b lo s e0 e1) :
    ∃ f0 f1, Liv n last m b lo s.tickG.1.d s.tickG.1.p f0 f1 ∧ (s.tickG.2 = true → Alv n last m b lo s.tickG.1 f0 f1) := by
  have hc := h.count
  have h1 : Alv n last (m + s.sagas.length) b lo { s with clock := s.clock + 1 } e0 e1 := by
    have h2 := h.less (k := m + s.sagas.length) (by omega)
    exact ⟨⟨h.js.dj, h.js.ep, h.js.en, h.js.core⟩, ⟨h.inv.pend, h.inv.epoch, h.inv.ok, h.inv.ord, h.inv.size⟩, h.room, h.tries, ⟨by show 0 ≤ s.clock + 1; have := h.clk.1; omega, by
      show s.clock + 1 + ((m + s.sagas.length : Nat) : Int) ≤ 100000
      have := h.clk.2; omega⟩, h2.liv⟩
  exact runG_law s.sagas.length h1
theorem submitG_law {n : Int → Nat} {last : Int → Int} {m : Nat} {b : Bool} {lo : Nat} {s : StM} {e0 e1 : List Ev} (h : Alv n last (m + 1) b lo s e0 e1) {id : Int} (hid : 1 ≤ id ∧ id ≤ 3) (hn : 1 ≤ n id ∧ n id ≤ 6) (hnew : ∀ x ∈ s.sagas, x.id ≠ id) :
    ∃ f0 f1, Liv n last m b lo (s.d.appendA s.j [bodyRec id (kSteps id (n id)), takenRec id]).1 s.p f0 f1 ∧ ((s.d.appendA s.j [bodyRec id (kSteps id (n id)), takenRec id]).2 = true → Alv n last m b lo (s.submitG id (kSteps id (n id))) f0 f1) := by
  obtain ⟨f0, f1, j1, j2, j3, j4⟩ := submitG_JS h.js h.inv hid hn hnew (by rw [h.liv.len]; have := h.liv.g1.ev; omega)
  have hnew' : ∀ g ∈ folded e1, g.id ≠ id := by
    intro g hg
    have h1 : g.id ∈ s.sagas.map (·.id) := by rw [← core_ids h.js.core]; exact List.mem_map_of_mem hg
    obtain ⟨y, hy, hxy⟩ := List.mem_map.1 h1
    rw [← hxy]; exact hnew y hy
  have hG1 : Good n last f1 s.p := by
    rcases j4 with rfl | rfl
    · exact h.liv.g1
    · exact h.liv.g1.taken hid hn hnew' j1.ok
  have hG0 : Good n last f0 s.p := by
    rcases j3 with rfl | rfl | rfl
    · exact h.liv.g0
    · exact h.liv.g1
    · exact hG1
  have hL : Liv n last m b lo (s.d.appendA s.j [bodyRec id (kSteps id (n id)), takenRec id]).1 s.p f0 f1 := h.liv.next (Grew.appendA _ _ _) (by show 1 + 2 * 2 ≤ 20000; omega) (appendA_len _ _ _) j1 hG0 hG1 (h.liv.pf.less (by omega)) rfl
  refine ⟨f0, f1, hL, fun hok => ?_⟩
  obtain ⟨hJ, he⟩ := j2 hok
  have hw := kSteps_whole id (n id) (by omega) hn
  refine ⟨hJ, ⟨fun _ => ?_, h.inv.epoch, ?_, insSaga_ord _ _ h.inv.ord hnew, ?_⟩, ?_, ?_, ⟨h.clk.1, by
      show s.clock + (m : Int) ≤ 100000
      have := h.clk.2; omega⟩, hL⟩
  · exact appendA_pend _ _ _ h.inv.pend hok
  · intro g hg
    rcases insSaga_mem.1 hg with rfl | hg
    · exact new_ok hw
    · exact h.inv.ok g hg
  · show (s.d.appendA s.j _).1.blocks.length ≤ 1000
    rw [appendA_len]; exact h.inv.size
  · show ((s.j.en + 2 : Nat) : Int) + leftSum (insSaga (SagaM.new id (kSteps id (n id))) s.sagas) ≤ (s.d.appendA s.j _).1.blocks.length
    rw [appendA_len, insSaga_sum, new_left, kSteps_len, h.liv.len, h.js.en, ← leftSum_core h.js.core]
    have h1 := h.liv.g1.ev
    unfold folded at h1
    omega
  · intro g hg
    rcases insSaga_mem.1 hg with rfl | hg
    · show (0 : Int) ≤ s.p.log.length; omega
    · exact h.tries g hg
/-- Behind a failure of power. -/
theorem after_law {n : Int → Nat} {last : Int → Int} {m : Nat} {b : Bool} {lo : Nat} {d : DiskM} {p : PartM} {e0 e1 : List Ev} (h : Liv n last m b lo d p e0 e1) (hm : m ≤ 10000) (ks : List Int) :
    ∃ e, Liv n last m true lo (d.after ks) p e e := by
  have hlen : (d.after ks).blocks.length = 120 := by
    rw [← h.len]
    unfold DiskM.after
    cases d.pend with
    | none => rfl
    | some q => cases ks <;> simp
  have key : ∀ e, JD (d.after ks).blocks e → EvsOk [] e → Good n last e p → Liv n last m true lo (d.after ks) p e e := fun e h1 h2 h3 =>
    ⟨DJ.mk_clean h1 rfl h2, h3, h3, hlen, h.pf, h.lo, ⟨by show (0 : Int) ≤ 0; omega, by show (0 : Int) + 20000 * m ≤ 2 ^ 40; omega⟩, fun _ => rfl⟩
  rcases h.dj.after ks with h1 | h1
  · exact ⟨e0, key e0 h1 h.dj.ok0 h.g0⟩
  · exact ⟨e1, key e1 h1 h.dj.ok h.g1⟩
/-- A disk that is only told otherwise when to fail. -/
theorem Liv.same {n : Int → Nat} {last : Int → Int} {m : Nat} {b c : Bool} {lo : Nat} {d d' : DiskM} {p : PartM} {e0 e1 : List Ev} (h : Liv n last m b lo d p e0 e1) (hb : d'.blocks = d.blocks) (hp : d'.pend = d.pend) (hc : d'.calls = d.calls) (ho : c = true → d'.off = -1) : Liv n last m c lo d' p e0 e1 :=
  ⟨h.dj.same hb hp, h.g0, h.g1, by rw [hb]; exact h.len, h.pf, h.lo, by rw [hc]; exact h.cal, ho⟩
/-- An engine that was just opened. -/
theorem open_law {n : Int → Nat} {last : Int → Int} {m k : Nat} {lo : Nat} {d : DiskM} {p : PartM} {e0 e1 : List Ev} (h : Liv n last (m + 1) true lo d p e0 e1) (hk : k ≤ 10000) (hm : m ≤ 90000) (pause : Int) :
    Alv n last m true lo ⟨pause, 0, folded e1, ⟨1, 1 + evLen e1, true⟩, d.reads k, p⟩ e0 e1 := by
  have hdj : DJ (d.reads k) e0 e1 := h.dj.same rfl rfl
  have hsg := folded_ok h.g1.ok
  have hev := h.g1.ev
  have hlen := h.len
  refine ⟨⟨hdj, rfl, rfl, rfl⟩, ⟨fun h => by (cases h), by show 1 < 2 ^ 32; omega, hsg.ok, hsg.ord, by show d.blocks.length ≤ 1000; omega⟩, ?_, ?_, ⟨by show (0 : Int) ≤ 0; omega, by show (0 : Int) + (m : Int) ≤ 100000; omega⟩,
    ⟨hdj, h.g0, h.g1, hlen, h.pf.less (by omega), h.lo, ?_, h.off⟩⟩
  · show ((1 + evLen e1 : Nat) : Int) + leftSum (folded e1) ≤ d.blocks.length
    omega
  · intro g hg
    show g.tries ≤ (p.log.length : Int)
    have := h.g1.tries g hg
    omega
  · show 0 ≤ d.calls + (k : Int) ∧ d.calls + (k : Int) + 20000 * (m : Int) ≤ 2 ^ 40
    have := h.cal
    omega
end Go.Proofs.YtkafmfdipmhleaaGreatDoor

namespace Go.Proofs.YtkafmfdipmhleaaGreatDoor
open Go.RowKit Go.Maps

/-- Many sagas, and what their partner has done. -/
structure SI (rest : List Int) (C : Int) (s : StM) : Prop where
  ag : ∀ g ∈ s.sagas, Agree g.steps.length g.st g.step (mineOf s.p.effs g.id)
  fresh : ∀ id, (∀ g ∈ s.sagas, g.id ≠ id) → mineOf s.p.effs id = []
  pl : s.p.l = rest
  at_ : s.p.at_ = s.p.log.length
  sum : (s.p.log.length : Int) + leftSum s.sagas ≤ C + min s.p.log.length 60
  due : ∀ g ∈ s.sagas, g.due ≤ s.clock + 1
  clk : 0 ≤ s.clock ∧ s.clock < 2 ^ 40
  pz : s.pause = 1
  told : s.d.told = 0
theorem ord_ne {l : List SagaM} (h : l.Pairwise (fun a b => a.id < b.id)) {i k : Nat} {a b : SagaM} (ha : l[i]? = some a) (hb : l[k]? = some b) (hik : i ≠ k) : a.id ≠ b.id := by
  obtain ⟨p1, q1⟩ := List.getElem?_eq_some_iff.1 ha
  obtain ⟨p2, q2⟩ := List.getElem?_eq_some_iff.1 hb
  have hpw := List.pairwise_iff_getElem.1 h
  rcases Nat.lt_or_ge i k with h3 | h3
  · have := hpw i k p1 p2 h3; rw [q1, q2] at this; omega
  · have := hpw k i p2 p1 (by omega); rw [q1, q2] at this; omega
theorem told_flush (d : DiskM) (hq : d.quiet) (h : d.told = 0) : d.flush.told = 0 := by
  have hb := hq.bad
  simp only [DiskM.flush, DiskM.count, hb]
  cases d.pend <;> simp [h]
theorem told_put (d : DiskM) (hq : d.quiet) (h : d.told = 0) (i : Nat) (l : List UInt8) : (d.put i l).told = 0 := by
  have hb := hq.bad
  simp [DiskM.put, DiskM.count, hb, h]
theorem told_settle (j : JnM) (d : DiskM) (hq : d.quiet) (h : d.told = 0) : (settleD j d).told = 0 := by
  unfold settleD; split
  · exact told_flush d hq h
  · exact h
theorem told_append (d : DiskM) (ep ix : Nat) (l : List RecM) (hq : d.quiet) (h : d.told = 0) : (d.append ep ix l).told = 0 := by
  induction l generalizing d ix with
  | nil => exact h
  | cons a l ih => exact ih (d.sure ix _) _ ((hq.put _ _).flush) (told_flush _ (hq.put _ _) (told_put d hq h _ _))
/-- One saga's turn. -/
theorem si_step {rest r : List Int} {C : Int} {s : StM} {k : Nat} (hr : rest = r ++ List.replicate 300 0) (hrl : r.length ≤ 60) (h : SI rest C s) (hC : C ≤ 200) (hi : s.inv) (htr : ∀ g ∈ s.sagas, g.tries + 1 < 2 ^ 40) :
    SI rest C (s.stepOne k) ∧ s.p.log.length ≤ (s.stepOne k).p.log.length ∧ (∀ i, i ≠ k → (s.stepOne k).sagas[i]? = s.sagas[i]?) ∧
    (∀ g, s.sagas[k]? = some g → ∃ g', (s.stepOne k).sagas[k]? = some g' ∧ g'.id = g.id ∧ g'.steps = g.steps ∧ ((g.st = 3 ∨ g.st = 4) → g' = g) ∧
      ((g.st = 1 ∨ g.st = 2) → g.due ≤ s.clock → g'.left + ((60 - (s.stepOne k).p.log.length : Nat) : Int) + 1 ≤ g.left + ((60 - s.p.log.length : Nat) : Int))) := by
  have hne : s.p.l ≠ [] := by rw [h.pl, hr]; exact app_ne 300 (by omega)
  cases hg : s.sagas[k]? with
  | none =>
    have e : s.stepOne k = s := by simp only [StM.stepOne, hg]
    rw [e]
    exact ⟨h, Nat.le_refl _, fun _ _ => rfl, fun g hg' => by cases hg'⟩
  | some g =>
    have hmem : g ∈ s.sagas := List.mem_of_getElem? hg
    have hok := hi.ok g hmem
    cases hw : g.waits s.clock
    · have e : s.stepOne k = s := by simp only [StM.stepOne, hg, hw, if_true]
      rw [e]
      refine ⟨h, Nat.le_refl _, fun _ _ => rfl, fun g0 hg' => ?_⟩
      cases hg'
      refine ⟨g, hg, rfl, rfl, fun _ => rfl, fun hst hd => ?_⟩
      exfalso
      simp only [SagaM.waits, Bool.and_eq_false_iff, decide_eq_false_iff_not] at hw
      omega
    · have hst : g.st = 1 ∨ g.st = 2 := by
        simp [SagaM.waits] at hw
        obtain ⟨_, _, _, _, h | h⟩ := hok
        · exact h.1
        · omega
      have hkl := (List.getElem?_eq_some_iff.1 hg).1
      obtain ⟨a1, a2, a3, a4⟩ := agree_ask g s.p (h.ag g hmem) hst
      have hat : (s.p.ask g.call).at_ = s.p.at_ + 1 := at_next hne
      have hlog : (s.p.ask g.call).log = s.p.log ++ [(g.call, g.reply s.p)] := rfl
      have hll : (s.p.ask g.call).log.length = s.p.log.length + 1 := by rw [hlog]; simp
      have hln := leftSum_nonneg s.sagas hi.ok
      have hlm := leftSum_mem s.sagas hi.ok g hmem
      have hsum := h.sum
      have hpos := hok.left_pos hst
      have hcs : g.call.saga = g.id := rfl
      have hother : ∀ id, id ≠ g.id → mineOf (s.p.ask g.call).effs id = mineOf s.p.effs id := fun id hid => mine_other s.p g.call id (fun e => hid (e.symm.trans hcs))
      have hsets : ∀ (g' : SagaM), g'.id = g.id → g'.steps = g.steps → Agree g'.steps.length g'.st g'.step (mineOf (s.p.ask g.call).effs g.id) → g'.due ≤ s.clock + 1 →
          (∀ x ∈ s.sagas.set k g', Agree x.steps.length x.st x.step (mineOf (s.p.ask g.call).effs x.id)) ∧ (∀ id, (∀ x ∈ s.sagas.set k g', x.id ≠ id) → mineOf (s.p.ask g.call).effs id = []) ∧ (∀ x ∈ s.sagas.set k g', x.due ≤ s.clock + 1) ∧
          (∀ i, i ≠ k → (s.sagas.set k g')[i]? = s.sagas[i]?) ∧ (s.sagas.set k g')[k]? = some g' := by
        intro g' h1 h2 h3 h4
        refine ⟨fun x hx => ?_, fun id hid => ?_, fun x hx => ?_, fun i hik => List.getElem?_set_ne (fun e => hik e.symm), List.getElem?_set_self hkl⟩
        · obtain ⟨i, hi2⟩ := List.getElem?_of_mem hx
          by_cases e : i = k
          · subst e
            rw [List.getElem?_set_self hkl] at hi2
            cases hi2
            rw [h1]; exact h3
          · rw [List.getElem?_set_ne (fun h => e h.symm)] at hi2
            have hx0 : x ∈ s.sagas := List.mem_of_getElem? hi2
            rw [hother x.id (ord_ne hi.ord hi2 hg e)]
            exact h.ag x hx0
        · have hidg : id ≠ g.id := fun e => hid g' (List.mem_of_getElem? (List.getElem?_set_self hkl)) (h1.trans e.symm)
          rw [hother id hidg]
          refine h.fresh id (fun x hx => ?_)
          obtain ⟨i, hi2⟩ := List.getElem?_of_mem hx
          by_cases e : i = k
          · subst e
            rw [hg] at hi2; cases hi2
            exact fun e => hidg e.symm
          · exact hid x (List.mem_of_getElem? ((List.getElem?_set_ne (fun h => e h.symm)).trans hi2))
        · rcases mem_set_cases hx with rfl | hx
          · exact h4
          · exact h.due x hx
      cases hm : g.moves (g.reply s.p)
      · have hr1 : g.reply s.p = 1 := by
          rcases a4 with e | e | e
          · rw [e] at hm; simp [SagaM.moves] at hm
          · exact e
          · have := a3 e; rw [e] at hm; simp [SagaM.moves, this] at hm
        have hlt : s.p.log.length < 60 := by
          refine Nat.lt_of_not_le (fun hge => ?_)
          have hk := k_zero' hr hrl (by omega) s.p h.pl (by rw [h.at_]; omega) (by rw [h.at_]; omega)
          have : g.reply s.p = 0 := by
            simp only [SagaM.reply, replyM, hk]
            cases s.p.knows g.call <;> simp
          omega
        have htg := htr g hmem
        have hmn : 1 ≤ (2 : Int) ^ (min g.tries 20).toNat := by
          have h2 : 1 ≤ (2 : Nat) ^ (min g.tries 20).toNat := Nat.one_le_two_pow
          have h3 : (((2 : Nat) ^ (min g.tries 20).toNat : Nat) : Int) = (2 : Int) ^ (min g.tries 20).toNat := by simp
          omega
        have hdw : wrap64 (s.clock + min ((2 : Int) ^ (min g.tries 20).toNat) s.pause) = s.clock + 1 := by
          rw [h.pz, Int.min_eq_right hmn]
          exact wrap_in _ (by have := h.clk; omega)
        have e : s.stepOne k = { s with sagas := s.sagas.set k (g.paused s.clock s.pause), j := { s.j with fresh := false }, d := settleD s.j s.d, p := s.p.ask g.call } := by
          simp only [StM.stepOne, hg, hw, hm, if_true]; rfl
        have hpd : (g.paused s.clock s.pause).due = s.clock + 1 := hdw
        have hpl : (g.paused s.clock s.pause).left = g.left := rfl
        obtain ⟨z1, z2, z3, z4, z5⟩ := hsets (g.paused s.clock s.pause) rfl rfl a1 (by rw [hpd]; omega)
        rw [e]
        refine ⟨⟨z1, z2, h.pl, ?_, ?_, z3, h.clk, h.pz, told_settle _ _ hi.quiet h.told⟩, by simp only [hll]; omega, z4, fun g0 hg' => ?_⟩
        · simp only [hat, hll, h.at_]; omega
        · simp only [hll]; rw [leftSum_set _ _ g _ hg, hpl]; omega
        · cases hg'
          refine ⟨_, z5, rfl, rfl, fun h3 => by omega, fun _ _ => ?_⟩
          simp only [hll, hpl]; omega
      · obtain ⟨hmo, hml⟩ := hok.moved hst (g.reply s.p)
        have hr02 : g.reply s.p = 0 ∨ g.reply s.p = 2 := by
          simp [SagaM.moves] at hm
          exact hm.imp id (fun h => h.1)
        obtain ⟨m1, m2, m3, m4⟩ := moved_st g (g.reply s.p) hst hok hr02 a3
        have hsteps : (g.moved (g.reply s.p)).steps = g.steps := by
          by_cases h1 : g.st = 1 <;> by_cases h2 : g.reply s.p = 0 <;> by_cases h3 : (g.steps.length : Int) < g.step + 1 <;> simp [SagaM.moved, SagaM.forward, SagaM.backward, h1, h2, h3]
        have e : s.stepOne k = { s with sagas := s.sagas.set k (g.moved (g.reply s.p)), j := ⟨s.j.epoch, s.j.en + 1, false⟩, d := (settleD s.j s.d).append s.j.epoch s.j.en [⟨4, 0, 0, g.id.toNat, (g.reply s.p).toNat, []⟩], p := s.p.ask g.call } := by
          simp [StM.stepOne, hg, hw, hm]
        have hck := h.clk
        obtain ⟨z1, z2, z3, z4, z5⟩ := hsets (g.moved (g.reply s.p)) (moved_id g _) hsteps (by rw [hsteps]; exact a2 hm) (by rw [m3]; omega)
        rw [e]
        refine ⟨⟨z1, z2, h.pl, ?_, ?_, z3, h.clk, h.pz, told_append _ _ _ _ (settle_quiet _ _ hi.quiet) (told_settle _ _ hi.quiet h.told)⟩, by simp only [hll]; omega, z4, fun g0 hg' => ?_⟩
        · simp only [hat, hll, h.at_]; omega
        · simp only [hll]; rw [leftSum_set _ _ g _ hg]; omega
        · cases hg'
          refine ⟨_, z5, moved_id g _, hsteps, fun h3 => by omega, fun _ _ => ?_⟩
          simp only [hll]; omega
/-- One tick, for each saga. -/
theorem si_tick {rest r : List Int} {C : Int} {s : StM} (hr : rest = r ++ List.replicate 300 0) (hrl : r.length ≤ 60) (h : SI rest C s) (hC : C ≤ 200) (hi : s.inv) (hf : s.fine s.sagas.length) (hck : s.clock + 1 < 2 ^ 40) :
    SI rest C s.tick ∧ (∀ (i : Nat) (g : SagaM), s.sagas[i]? = some g → ∃ g', s.tick.sagas[i]? = some g' ∧ g'.id = g.id ∧ g'.steps = g.steps ∧ ((g.st = 3 ∨ g.st = 4) → g' = g) ∧
      ((g.st = 1 ∨ g.st = 2) → g'.left + ((60 - s.tick.p.log.length : Nat) : Int) + 1 ≤ g.left + ((60 - s.p.log.length : Nat) : Int))) ∧ s.p.log.length ≤ s.tick.p.log.length := by
  have h0 : SI rest C { s with clock := s.clock + 1 } := ⟨h.ag, h.fresh, h.pl, h.at_, h.sum, fun g hg => by have := h.due g hg; simp only; omega, ⟨by have := h.clk; simp only; omega, hck⟩, h.pz, h.told⟩
  have key : ∀ n, n ≤ s.sagas.length → let t := (List.range n).foldl StM.stepOne { s with clock := s.clock + 1 }
      SI rest C t ∧ t.inv ∧ t.fine (s.sagas.length - n) ∧ t.clock = s.clock + 1 ∧ s.p.log.length ≤ t.p.log.length ∧ (∀ i, n ≤ i → t.sagas[i]? = s.sagas[i]?) ∧
      (∀ (i : Nat) (g : SagaM), i < n → s.sagas[i]? = some g → ∃ g', t.sagas[i]? = some g' ∧ g'.id = g.id ∧ g'.steps = g.steps ∧ ((g.st = 3 ∨ g.st = 4) → g' = g) ∧
        ((g.st = 1 ∨ g.st = 2) → g'.left + ((60 - t.p.log.length : Nat) : Int) + 1 ≤ g.left + ((60 - s.p.log.length : Nat) : Int))) := by
    intro n
    induction n with
    | zero => intro _; exact ⟨h0, inv_clock hi _, hf, rfl, Nat.le_refl _, fun _ _ => rfl, fun i g hi => by omega⟩
    | succ n ih =>
      intro hn
      have ihn := ih (by omega)
      simp only [List.range_succ, List.foldl_append, List.foldl_cons, List.foldl_nil] at ihn ⊢
      generalize (List.range n).foldl StM.stepOne { s with clock := s.clock + 1 } = t at ihn ⊢
      obtain ⟨b1, b2, b3, b4, b5, b6, b7⟩ := ihn
      obtain ⟨c1, c2, c3, c4⟩ := si_step (k := n) hr hrl b1 hC b2 (fun g hg => by have := b3.2.2.2.2.2 g hg; have := b3.1; omega)
      obtain ⟨d1, d2, d3, _⟩ := stepOne_inv (k := n) (m := s.sagas.length - (n + 1)) b2 (by rw [show s.sagas.length - (n + 1) + 1 = s.sagas.length - n by omega]; exact b3)
      refine ⟨c1, d1, d2, d3.trans b4, by omega, fun i hi2 => (c3 i (by omega)).trans (b6 i (by omega)), fun i g hin hg => ?_⟩
      by_cases e : i = n
      · subst e
        obtain ⟨g', e1, e2, e3, e4, e5⟩ := c4 g ((b6 i (Nat.le_refl _)).trans hg)
        refine ⟨g', e1, e2, e3, e4, fun hst => ?_⟩
        have := e5 hst (by rw [b4]; exact h.due g (List.mem_of_getElem? hg))
        omega
      · obtain ⟨g', e1, e2, e3, e4, e5⟩ := b7 i g (by omega) hg
        refine ⟨g', (c3 i e).trans e1, e2, e3, e4, fun hst => ?_⟩
        have := e5 hst
        omega
  obtain ⟨k1, _, _, _, k5, _, k7⟩ := key s.sagas.length (Nat.le_refl _)
  exact ⟨k1, fun i g hg => k7 i g (List.getElem?_eq_some_iff.1 hg).1 hg, k5⟩
theorem si_ticks {rest r : List Int} {C : Int} {s : StM} (hr : rest = r ++ List.replicate 300 0) (hrl : r.length ≤ 60) (h : SI rest C s) (hC : C ≤ 200) (hi : s.inv) (t : Nat) (hf : s.fine (t * s.sagas.length)) (hck : s.clock + t < 2 ^ 40) :
    SI rest C (s.ticks t) ∧ (∀ (i : Nat) (g : SagaM), s.sagas[i]? = some g → ∃ g', (s.ticks t).sagas[i]? = some g' ∧ g'.id = g.id ∧ g'.steps = g.steps ∧ ((g'.st = 3 ∨ g'.st = 4) ∨ g'.left + ((60 - (s.ticks t).p.log.length : Nat) : Int) + t ≤ g.left + ((60 - s.p.log.length : Nat) : Int))) := by
  induction t with
  | zero => exact ⟨h, fun i g hg => ⟨g, hg, rfl, rfl, .inr (by simp [StM.ticks])⟩⟩
  | succ t ih =>
    have hf1 : s.fine (t * s.sagas.length) := by
      obtain ⟨b1, b2, b3, b4, b5, b6⟩ := hf
      have : t * s.sagas.length ≤ (t + 1) * s.sagas.length := Nat.mul_le_mul_right _ (by omega)
      exact ⟨by omega, by omega, b3, b4, by omega, b6⟩
    obtain ⟨h1, h2⟩ := ih hf1 (by omega)
    obtain ⟨i1, i2, i3, i4⟩ := ticks_inv (m := s.sagas.length) hi t (by rw [Nat.add_mul, Nat.one_mul] at hf; rw [Nat.add_comm]; exact hf)
    obtain ⟨k1, k2, k3⟩ := si_tick hr hrl h1 hC i1 (by rw [i4]; exact i2) (by rw [i3]; omega)
    refine ⟨k1, fun i g hg => ?_⟩
    obtain ⟨g1, e1, e2, e3, e4⟩ := h2 i g hg
    obtain ⟨g2, f1, f2, f3, f4, f5⟩ := k2 i g1 e1
    refine ⟨g2, f1, f2.trans e2, f3.trans e3, ?_⟩
    have hst := agree_st (h1.ag g1 (List.mem_of_getElem? e1))
    rcases e4 with e4 | e4
    · left; rw [f4 e4]; exact e4
    · rcases hst with q | q | q | q
      · right; have := f5 (.inl q); show _ + (((60 - (s.ticks t).tick.p.log.length : Nat) : Int)) + _ ≤ _; omega
      · right; have := f5 (.inr q); show _ + (((60 - (s.ticks t).tick.p.log.length : Nat) : Int)) + _ ≤ _; omega
      · left; rw [f4 (.inl q)]; exact .inl q
      · left; rw [f4 (.inr q)]; exact .inr q
theorem left_le {g : SagaM} (h : g.ok) : g.left ≤ 12 := by
  obtain ⟨_, _, hsm, _, h⟩ := h
  have := hsm.1
  have := hsm.2.1
  unfold SagaM.left
  split
  · rcases h with h | h <;> omega
  · split
    · rcases h with h | h <;> omega
    · omega
/-- A hundred and twenty ticks are enough for all. -/
theorem si_ends {rest r : List Int} {C : Int} {s : StM} (hr : rest = r ++ List.replicate 300 0) (hrl : r.length ≤ 60) (h : SI rest C s) (hC : C ≤ 200) (hi : s.inv) (hf : s.fine (120 * s.sagas.length)) (hck : s.clock + 120 < 2 ^ 40) :
    SI rest C (s.ticks 120) ∧ ∀ g ∈ (s.ticks 120).sagas, g.st = 3 ∨ g.st = 4 := by
  obtain ⟨h1, h2⟩ := si_ticks hr hrl h hC hi 120 hf hck
  obtain ⟨i1, _, _, i4⟩ := ticks_inv (m := 0) hi 120 (by simpa using hf)
  refine ⟨h1, fun g hg => ?_⟩
  obtain ⟨i, hgi⟩ := List.getElem?_of_mem hg
  have hil := (List.getElem?_eq_some_iff.1 hgi).1
  rw [i4] at hil
  have hg0 : s.sagas[i]? = some s.sagas[i] := List.getElem?_eq_getElem hil
  obtain ⟨g', e1, _, _, e4⟩ := h2 i _ hg0
  rw [hgi] at e1
  cases e1
  rcases e4 with e4 | e4
  · exact e4
  · have hl := left_le (hi.ok _ (List.mem_of_getElem? hg0))
    have := (i1.ok g hg).left_nonneg
    omega
end Go.Proofs.YtkafmfdipmhleaaGreatDoor
