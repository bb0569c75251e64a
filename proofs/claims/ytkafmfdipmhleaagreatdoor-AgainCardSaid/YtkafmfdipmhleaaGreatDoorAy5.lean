/-
  What is proved: a journal on a disk, with a write that was not flushed, and behind a failure of power; a record more. (No program in sight.) what the turns of a Tick, and a Submit, do to the journal, whatever the disk tells. (No program in sight.) a Submit and a Tick on a disk that tells no errors, and the journal behind a Submit and a Tick on whatever disk. (No program in sight.) the engines of Again, and the journal that survives. (No program in sight.) many sagas end, at a pause of one. (No program in sight.) what Spare's engine comes to. (No program in sight.) sagas whose partner does whatever it is asked for go straight on. (No program in sight.)
-/
import Derived.Test.YtkafmfdipmhleaaGreatDoorAy4

namespace Go.Proofs.YtkafmfdipmhleaaGreatDoor
open Go.RowKit Go.Maps

def rawD (bs : List (List UInt8)) : DiskM := ⟨bs, none, 0, 0, 0, -1, 0, 0⟩
theorem raw_look (bs : List (List UInt8)) (i : Nat) : (rawD bs).look i = bs.getD i [] := rfl
/-- A journal of events, on blocks; junk where it ends. -/
structure JD (bs : List (List UInt8)) (evs : List Ev) : Prop where
  hd : bs.getD 0 [] = hdr
  on : EvsOn (rawD bs) 1 1 evs
  junk : Junk (bs.getD (1 + evLen evs) [])
  zero : ∀ i, 1 + evLen evs < i → i < bs.length → bs.getD i [] = zer
  room : 2 + evLen evs < bs.length
theorem evLen_snoc (evs : List Ev) (e : Ev) : evLen (evs ++ [e]) = evLen evs + e.len := by simp [evLen]
theorem EvOn_congr {d d' : DiskM} {ep i : Nat} {e : Ev} (h : ∀ j, i ≤ j → j < i + e.len → d.look j = d'.look j) (he : EvOn d ep i e) : EvOn d' ep i e := by
  cases e with
  | taken id st =>
    have h1 := h i (Nat.le_refl _) (by show i < i + 2; omega)
    have h2 := h (i + 1) (by omega) (by show i + 1 < i + 2; omega)
    unfold EvOn at he ⊢
    rw [← h1, ← h2]; exact he
  | moved id rp =>
    have h1 := h i (Nat.le_refl _) (by show i < i + 1; omega)
    unfold EvOn at he ⊢
    rw [← h1]; exact he
theorem EvsOn_congr {d d' : DiskM} {ep : Nat} {evs : List Ev} {i : Nat} (h : ∀ j, i ≤ j → j < i + evLen evs → d.look j = d'.look j) (he : EvsOn d ep i evs) : EvsOn d' ep i evs := by
  induction evs generalizing i with
  | nil => trivial
  | cons e r ih =>
    have hl : evLen (e :: r) = e.len + evLen r := by simp [evLen]
    rw [hl] at h
    exact ⟨EvOn_congr (fun j h1 h2 => h j h1 (by omega)) he.1, ih (fun j h1 h2 => h j (by omega) (by omega)) he.2⟩
theorem EvsOn_snoc {d : DiskM} {ep : Nat} {evs : List Ev} {i : Nat} {e : Ev} (h : EvsOn d ep i evs) (he : EvOn d ep (i + evLen evs) e) : EvsOn d ep i (evs ++ [e]) := by
  induction evs generalizing i with
  | nil => exact ⟨he, trivial⟩
  | cons a r ih =>
    have hl : evLen (a :: r) = a.len + evLen r := by simp [evLen]
    rw [hl, ← Nat.add_assoc] at he
    exact ⟨h.1, ih h.2 he⟩
theorem EvsOk_snoc {l : List SagaM} {evs : List Ev} {e : Ev} (h : EvsOk l evs) (he : EvOk (evs.foldl applyEv l) e) : EvsOk l (evs ++ [e]) := by
  induction evs generalizing l with
  | nil => exact ⟨he, trivial⟩
  | cons a r ih => exact ⟨h.1, ih h.2 he⟩
theorem getD_set_ne (bs : List (List UInt8)) (i j : Nat) (X : List UInt8) (h : i ≠ j) : (bs.set i X).getD j [] = bs.getD j [] := by
  rw [List.getD_eq_getElem?_getD, List.getElem?_set_ne h, ← List.getD_eq_getElem?_getD]
theorem getD_set_self (bs : List (List UInt8)) (i : Nat) (X : List UInt8) (h : i < bs.length) : (bs.set i X).getD i [] = X := by
  rw [List.getD_eq_getElem?_getD, List.getElem?_set_self h]; rfl
theorem JD.moved {bs : List (List UInt8)} {evs : List Ev} {id rp : Int} {X : List UInt8} {r : RecM} (h : JD bs evs) (hX : parseM X = some (r, true)) (h1 : r.epoch = 1) (h2 : r.index = 1 + evLen evs) (h3 : r.kind = 4) (h4 : r.saga = id.toNat) (h5 : r.reply = rp.toNat) (hr : 3 + evLen evs < bs.length) :
    JD (bs.set (1 + evLen evs) X) (evs ++ [.moved id rp]) := by
  have hl : evLen (evs ++ [.moved id rp]) = evLen evs + 1 := evLen_snoc _ _
  refine ⟨?_, ?_, ?_, ?_, ?_⟩
  · rw [getD_set_ne _ _ _ _ (by omega)]; exact h.hd
  · refine EvsOn_snoc (EvsOn_congr (fun j h1 h2 => ?_) h.on) ⟨r, ?_, h1, h2, h3, h4, h5⟩
    · rw [raw_look, raw_look, getD_set_ne _ _ _ _ (by omega)]
    · rw [raw_look, getD_set_self _ _ _ (by have := h.room; omega)]; exact hX
  · rw [hl, getD_set_ne _ _ _ _ (by omega), h.zero _ (by omega) (by omega)]; exact junk_zer
  · rw [hl, List.length_set]
    intro i h1 h2
    rw [getD_set_ne _ _ _ _ (by omega)]; exact h.zero i (by omega) h2
  · rw [hl, List.length_set]; omega
theorem JD.junked {bs : List (List UInt8)} {evs : List Ev} {X : List UInt8} (h : JD bs evs) (hX : Junk X) : JD (bs.set (1 + evLen evs) X) evs := by
  refine ⟨?_, EvsOn_congr (fun j h1 h2 => ?_) h.on, ?_, ?_, ?_⟩
  · rw [getD_set_ne _ _ _ _ (by omega)]; exact h.hd
  · rw [raw_look, raw_look, getD_set_ne _ _ _ _ (by omega)]
  · rw [getD_set_self _ _ _ (by have := h.room; omega)]; exact hX
  · rw [List.length_set]
    intro i h1 h2
    rw [getD_set_ne _ _ _ _ (by omega)]; exact h.zero i h1 h2
  · rw [List.length_set]; exact h.room
theorem JD.taken {bs : List (List UInt8)} {evs : List Ev} {id : Int} {n : Nat} {X : List UInt8} {r : RecM} (h : JD bs evs) (hi : 1 ≤ id ∧ id ≤ 3) (hn : 1 ≤ n ∧ n ≤ 6) (hb : bs.getD (1 + evLen evs) [] = bod id n (1 + evLen evs)) (hX : parseM X = some (r, true)) (h1 : r.epoch = 1) (h2 : r.index = 1 + evLen evs + 1) (h3 : r.kind = 3) (h4 : r.saga = id.toNat)
    (hr : 4 + evLen evs < bs.length) (hx : bs.length ≤ 1000) : JD (bs.set (1 + evLen evs + 1) X) (evs ++ [.taken id (kSteps id n)]) := by
  have hl : evLen (evs ++ [.taken id (kSteps id n)]) = evLen evs + 2 := evLen_snoc _ _
  refine ⟨?_, ?_, ?_, ?_, ?_⟩
  · rw [getD_set_ne _ _ _ _ (by omega)]; exact h.hd
  · refine EvsOn_snoc (EvsOn_congr (fun j h1 h2 => ?_) h.on) ⟨bRec id n (1 + evLen evs), r, ?_, rfl, rfl, rfl, rfl, rfl, ?_, h1, h2, h3, h4⟩
    · rw [raw_look, raw_look, getD_set_ne _ _ _ _ (by omega)]
    · rw [raw_look, getD_set_ne _ _ _ _ (by omega), hb]; exact parse_bod id n _ hi hn (by omega)
    · rw [raw_look, getD_set_self _ _ _ (by omega)]; exact hX
  · rw [hl, getD_set_ne _ _ _ _ (by omega), h.zero _ (by omega) (by omega)]; exact junk_zer
  · rw [hl, List.length_set]
    intro i h1 h2
    rw [getD_set_ne _ _ _ _ (by omega)]; exact h.zero i (by omega) h2
  · rw [hl, List.length_set]; omega
theorem JD.stop {bs : List (List UInt8)} {evs : List Ev} {d : DiskM} (h : JD bs evs) (hl : ∀ i, d.look i = bs.getD i []) (hn : d.blocks.length = bs.length) :
    (∃ r0, parseM (d.look 0) = some (r0, true) ∧ r0.kind = 1 ∧ r0.epoch = 1) ∧ EvsOn d 1 1 evs ∧ JStop d 1 (1 + evLen evs) := by
  refine ⟨by rw [hl, h.hd]; exact parse_hdr, EvsOn_congr (fun j _ _ => by rw [hl, raw_look]) h.on, ?_⟩
  obtain ⟨r, ok, hr, hk⟩ := junk_parse h.junk
  obtain ⟨rz, hz⟩ := parse_zer
  refine ⟨r, ok, by rw [hl]; exact hr, ?_⟩
  by_cases h2 : r.kind = 2
  · exact .inr (.inr ⟨h2, by rw [hn]; have := h.room; omega, rz, false, by rw [hl, h.zero _ (by omega) (by have := h.room; omega)]; exact hz, .inl rfl⟩)
  · exact .inr (.inl ⟨hk, h2⟩)
/-- What a reader sees. -/
def DiskM.seen (d : DiskM) : List (List UInt8) := match d.pend with | some (i, b) => d.blocks.set i b | none => d.blocks
theorem seen_len (d : DiskM) : d.seen.length = d.blocks.length := by
  unfold DiskM.seen; split <;> simp
theorem seen_look {d : DiskM} (h : d.wf) (i : Nat) : d.look i = d.seen.getD i [] := by
  unfold DiskM.look DiskM.seen
  cases hp : d.pend with
  | none => rfl
  | some p =>
    obtain ⟨j, b⟩ := p
    have := (h.2 _ hp).1
    simp only
    by_cases e : j = i
    · subst e; rw [if_pos rfl, getD_set_self _ _ _ this]
    · rw [if_neg e, getD_set_ne _ _ _ _ e]
/-- A disk with a journal: what is sure, and what is seen. -/
structure DJ (d : DiskM) (evs0 evs : List Ev) : Prop where
  sure : JD d.blocks evs0
  seen : JD d.seen evs
  ok0 : EvsOk [] evs0
  ok : EvsOk [] evs
  clean : d.pend = none → evs0 = evs
  after : ∀ ks, JD (d.after ks).blocks evs0 ∨ JD (d.after ks).blocks evs
theorem DJ.mk_clean {d : DiskM} {evs : List Ev} (h : JD d.blocks evs) (hp : d.pend = none) (hok : EvsOk [] evs) : DJ d evs evs := by
  have hs : d.seen = d.blocks := by unfold DiskM.seen; rw [hp]
  refine ⟨h, by rw [hs]; exact h, hok, hok, fun _ => rfl, fun ks => .inl ?_⟩
  have : (d.after ks).blocks = d.blocks := by simp [DiskM.after, hp]
  rw [this]; exact h
theorem DJ.flush {d : DiskM} {evs0 evs : List Ev} (h : DJ d evs0 evs) : DJ d.flush evs evs := by
  refine DJ.mk_clean ?_ rfl h.ok
  have : d.flush.blocks = d.seen := rfl
  rw [this]; exact h.seen
theorem DJ.same {d d' : DiskM} {evs0 evs : List Ev} (h : DJ d evs0 evs) (hb : d'.blocks = d.blocks) (hp : d'.pend = d.pend) : DJ d' evs0 evs := by
  have hs : d'.seen = d.seen := by unfold DiskM.seen; rw [hp, hb]
  have ha : ∀ ks, (d'.after ks).blocks = (d.after ks).blocks := fun ks => by simp only [DiskM.after, hp, hb]
  exact ⟨by rw [hb]; exact h.sure, by rw [hs]; exact h.seen, h.ok0, h.ok, fun e => h.clean (by rw [← hp]; exact e), fun ks => by rw [ha]; exact h.after ks⟩
theorem DJ.count {d : DiskM} {evs0 evs : List Ev} (h : DJ d evs0 evs) : DJ d.count evs0 evs := h.same rfl rfl
theorem DJ.put_blocks {d : DiskM} {evs : List Ev} (h : DJ d evs evs) (hp : d.pend = none) : JD d.blocks evs := h.sure
/-- A write is on its way. -/
theorem DJ.put {d : DiskM} {evs evs' : List Ev} {i : Nat} {l : List UInt8} (h : JD d.blocks evs) (ho : EvsOk [] evs) (ho' : EvsOk [] evs') (h1 : JD (d.blocks.set i (padB l)) evs') (h2 : ∀ k, JD (d.blocks.set i (tearB (d.blocks.getD i []) (padB l) k 4)) evs ∨ JD (d.blocks.set i (tearB (d.blocks.getD i []) (padB l) k 4)) evs') :
    DJ (d.put i l) evs evs' := by
  refine ⟨h, h1, ho, ho', fun e => by (cases e), fun ks => ?_⟩
  cases ks with
  | nil => exact .inl h
  | cons k ks => exact h2 k
theorem set_same2 (l : List (List UInt8)) (i : Nat) (x : List UInt8) (h : l.getD i [] = x) (hi : i < l.length) : l.set i x = l := by
  subst h
  rw [List.getD_eq_getElem?_getD, List.getElem?_eq_getElem hi, Option.getD_some, List.set_getElem_self]
/-- A record that moves a saga. -/
theorem DJ.moved {d : DiskM} {evs : List Ev} {id rp : Int} (h : DJ d evs evs) (hp : d.pend = none) (ho : EvsOk [] (evs ++ [.moved id rp])) (hr : (⟨4, 1, 1 + evLen evs, id.toNat, rp.toNat, []⟩ : RecM).ok) (hl : 3 + evLen evs < d.blocks.length) :
    DJ (d.put (1 + evLen evs) (recBytes ⟨4, 1, 1 + evLen evs, id.toNat, rp.toNat, []⟩)) evs (evs ++ [.moved id rp]) := by
  refine DJ.put h.sure h.ok ho ?_ (fun k => ?_)
  · refine h.sure.moved (r := ⟨4, 1, 1 + evLen evs, id.toNat, rp.toNat, []⟩) ?_ rfl rfl rfl rfl rfl hl
    rw [pad_short _ (by show (4 : Nat) ≠ 2; decide)]
    exact parse_short _ _ hr (by show (4 : Nat) ≠ 2; decide) (by show 1 ≤ 4 ∧ 4 ≤ 4; decide)
  · rcases junk_short h.sure.junk ⟨4, 1, 1 + evLen evs, id.toNat, rp.toNat, []⟩ hr (.inr (.inr rfl)) k with e | e
    · exact .inr (h.sure.moved e rfl rfl rfl rfl rfl hl)
    · exact .inl (h.sure.junked e)
theorem DJ.bodied {d : DiskM} {evs : List Ev} {id : Int} {n : Nat} (h : DJ d evs evs) (hp : d.pend = none) (hi : 1 ≤ id ∧ id ≤ 3) (hn : 1 ≤ n ∧ n ≤ 6) :
    DJ (d.put (1 + evLen evs) (recBytes (bRec id n (1 + evLen evs)))) evs evs :=
  DJ.put h.sure h.ok h.ok (h.sure.junked (junk_bod id n _ hi hn)) (fun k => .inl (h.sure.junked (junk_body h.sure.junk id n _ hi hn k)))
theorem DJ.taken {d : DiskM} {evs : List Ev} {id : Int} {n : Nat} (h : DJ d evs evs) (hp : d.pend = none) (hb : d.blocks.getD (1 + evLen evs) [] = bod id n (1 + evLen evs)) (hi : 1 ≤ id ∧ id ≤ 3) (hn : 1 ≤ n ∧ n ≤ 6) (ho : EvsOk [] (evs ++ [.taken id (kSteps id n)])) (hl : 4 + evLen evs < d.blocks.length) (hx : d.blocks.length ≤ 1000) :
    DJ (d.put (1 + evLen evs + 1) (recBytes ⟨3, 1, 1 + evLen evs + 1, id.toNat, 0, []⟩)) evs (evs ++ [.taken id (kSteps id n)]) := by
  have hr : (⟨3, 1, 1 + evLen evs + 1, id.toNat, 0, []⟩ : RecM).ok := ⟨by show 3 < 256; omega, by show 1 < 2 ^ 32; omega, by show 1 + evLen evs + 1 < 65536; omega, by show id.toNat < 65536; omega, by show 0 < 256; omega, fun _ => rfl, fun h => by (cases h)⟩
  have hz := h.sure.zero (1 + evLen evs + 1) (by omega) (by omega)
  refine DJ.put h.sure h.ok ho ?_ (fun k => ?_)
  · refine h.sure.taken (r := ⟨3, 1, 1 + evLen evs + 1, id.toNat, 0, []⟩) hi hn hb ?_ rfl rfl rfl rfl hl hx
    rw [pad_short _ (by show (3 : Nat) ≠ 2; decide)]
    exact parse_short _ _ hr (by show (3 : Nat) ≠ 2; decide) (by show 1 ≤ 3 ∧ 3 ≤ 4; decide)
  · rw [hz, zer_two, pad_two _ (by show (3 : Nat) ≠ 2; decide), tear_two _ _ _ _ _ rfl (secS_len _) rfl rfl]
    have e2 : (if bitK k 1 = true then z32 else z32) = z32 := by split <;> rfl
    rw [e2]
    by_cases h0 : bitK k 0 = true
    · rw [if_pos h0]
      refine .inr (h.sure.taken (r := ⟨3, 1, 1 + evLen evs + 1, id.toNat, 0, []⟩) hi hn hb ?_ rfl rfl rfl rfl hl hx)
      unfold two
      rw [List.append_assoc]
      exact parse_short _ _ hr (by show (3 : Nat) ≠ 2; decide) (by show 1 ≤ 3 ∧ 3 ≤ 4; decide)
    · rw [if_neg h0, ← zer_two, set_same2 _ _ zer hz (by omega)]
      exact .inl h.sure
end Go.Proofs.YtkafmfdipmhleaaGreatDoor

namespace Go.Proofs.YtkafmfdipmhleaaGreatDoor
open Go.RowKit Go.Maps

/-- What a journal knows of a saga. -/
def SagaM.core (g : SagaM) : Int × Int × Int × List (ByteArray × ByteArray) := (g.id, g.st, g.step, g.steps)
theorem core_id {g f : SagaM} (h : g.core = f.core) : g.id = f.id := congrArg (·.1) h
theorem core_st {g f : SagaM} (h : g.core = f.core) : g.st = f.st := congrArg (·.2.1) h
theorem core_moved {g f : SagaM} (h : g.core = f.core) (rp : Int) : g.moved rp = f.moved rp := by
  obtain ⟨a1, a2, a3, a4, a5, a6⟩ := g
  obtain ⟨b1, b2, b3, b4, b5, b6⟩ := f
  simp only [SagaM.core, Prod.mk.injEq] at h
  obtain ⟨rfl, rfl, rfl, rfl⟩ := h
  rfl
theorem core_get {F S : List SagaM} (h : F.map SagaM.core = S.map SagaM.core) (i : Nat) {x : SagaM} (hx : S[i]? = some x) : ∃ f, F[i]? = some f ∧ f.core = x.core := by
  have h1 : (F.map SagaM.core)[i]? = (S.map SagaM.core)[i]? := by rw [h]
  rw [List.getElem?_map, List.getElem?_map, hx] at h1
  cases hf : F[i]? with
  | none => rw [hf] at h1; cases h1
  | some f => rw [hf] at h1; exact ⟨f, rfl, Option.some.inj h1⟩
theorem core_ids {F S : List SagaM} (h : F.map SagaM.core = S.map SagaM.core) : F.map (·.id) = S.map (·.id) := by
  have h1 : (F.map SagaM.core).map (·.1) = (S.map SagaM.core).map (·.1) := by rw [h]
  rw [List.map_map, List.map_map] at h1
  exact h1
theorem ord_ne2 {S : List SagaM} (ho : S.Pairwise (fun a b => a.id < b.id)) {i k : Nat} {x g : SagaM} (hx : S[i]? = some x) (hg : S[k]? = some g) (h : i ≠ k) : x.id ≠ g.id := by
  obtain ⟨p1, q1⟩ := List.getElem?_eq_some_iff.1 hx
  obtain ⟨p2, q2⟩ := List.getElem?_eq_some_iff.1 hg
  have hpw := List.pairwise_iff_getElem.1 ho
  rcases Nat.lt_or_ge i k with h3 | h3
  · have := hpw i k p1 p2 h3
    rw [q1, q2] at this; omega
  · have := hpw k i p2 p1 (by omega)
    rw [q1, q2] at this; omega
theorem core_apply {F S : List SagaM} (h : F.map SagaM.core = S.map SagaM.core) (ho : S.Pairwise (fun a b => a.id < b.id)) {k : Nat} {g : SagaM} (hg : S[k]? = some g) (rp : Int) :
    (applyEv F (.moved g.id rp)).map SagaM.core = (S.set k (g.moved rp)).map SagaM.core := by
  apply List.ext_getElem?
  intro i
  have hl : F.length = S.length := by simpa using congrArg List.length h
  show ((F.map (fun x => if x.id = g.id then x.moved rp else x)).map SagaM.core)[i]? = _
  rw [List.getElem?_map, List.getElem?_map, List.getElem?_map]
  by_cases e : i = k
  · subst e
    obtain ⟨f, hf, hc⟩ := core_get h i hg
    rw [List.getElem?_set_self (List.getElem?_eq_some_iff.1 hg).1, hf]
    show some (SagaM.core (if f.id = g.id then f.moved rp else f)) = some (SagaM.core (g.moved rp))
    rw [if_pos (core_id hc), core_moved hc]
  · rw [List.getElem?_set_ne (fun h => e h.symm)]
    cases hx : S[i]? with
    | none =>
      have : F[i]? = none := by
        rw [List.getElem?_eq_none_iff] at hx ⊢; omega
      rw [this]; rfl
    | some x =>
      obtain ⟨f, hf, hc⟩ := core_get h i hx
      rw [hf]
      show some (SagaM.core (if f.id = g.id then f.moved rp else f)) = some (SagaM.core x)
      have hne := ord_ne2 ho hx hg e
      rw [if_neg (by rw [core_id hc]; exact hne), hc]
theorem core_pause {S : List SagaM} {k : Nat} {g g' : SagaM} (hg : S[k]? = some g) (hc : g'.core = g.core) : (S.set k g').map SagaM.core = S.map SagaM.core := by
  apply List.ext_getElem?
  intro i
  rw [List.getElem?_map, List.getElem?_map]
  by_cases e : i = k
  · subst e
    rw [List.getElem?_set_self (List.getElem?_eq_some_iff.1 hg).1, hg]
    show some g'.core = some g.core
    rw [hc]
  · rw [List.getElem?_set_ne (fun h => e h.symm)]
theorem core_ins {F S : List SagaM} (h : F.map SagaM.core = S.map SagaM.core) (g : SagaM) : (insSaga g F).map SagaM.core = (insSaga g S).map SagaM.core := by
  induction F generalizing S with
  | nil =>
    cases S with
    | nil => rfl
    | cons x S => cases h
  | cons f F ih =>
    cases S with
    | nil => cases h
    | cons x S =>
      simp only [List.map_cons, List.cons.injEq] at h
      have hid := core_id h.1
      simp only [insSaga]
      rw [hid]
      split
      · simp only [List.map_cons, h.1, h.2]
      · simp only [List.map_cons, h.1, ih h.2]
/-- An engine and its journal. -/
structure JS (s : StM) (evs0 evs : List Ev) : Prop where
  dj : DJ s.d evs0 evs
  ep : s.j.epoch = 1
  en : s.j.en = 1 + evLen evs
  core : (evs.foldl applyEv []).map SagaM.core = s.sagas.map SagaM.core
theorem DJ.sureG {d : DiskM} {evs evs' : List Ev} {i : Nat} {l : List UInt8} (h : DJ d evs evs) (hp : DJ (d.put i l) evs evs') :
    ((d.sureG i l).2 = true → DJ (d.sureG i l).1 evs' evs' ∧ (d.sureG i l).1.blocks = d.blocks.set i (padB l)) ∧ ((d.sureG i l).2 = false → DJ (d.sureG i l).1 evs evs ∨ DJ (d.sureG i l).1 evs evs') := by
  unfold DiskM.sureG
  split
  · exact ⟨fun h => by (cases h), fun _ => .inl h.count⟩
  · split
    · exact ⟨fun h => by (cases h), fun _ => .inr hp.count⟩
    · exact ⟨fun _ => ⟨hp.flush, rfl⟩, fun h => by (cases h)⟩
theorem JS.settle {s : StM} {evs0 evs : List Ev} (h : JS s evs0 evs) (hi : s.inv0) : DJ (settleD s.j s.d) evs evs ∧ (settleD s.j s.d).pend = none := by
  refine ⟨?_, settle_pend' _ _ hi.pend⟩
  unfold settleD
  split
  · exact h.dj.flush
  · rename_i h1
    have h2 := h.dj.clean (hi.pend (by simpa using h1))
    have h3 := h.dj
    rw [h2] at h3; exact h3
theorem JS.keep {s t : StM} {evs0 evs : List Ev} (h : JS s evs0 evs) (h1 : t.j.epoch = s.j.epoch) (h2 : t.j.en = s.j.en) (h3 : t.sagas.map SagaM.core = s.sagas.map SagaM.core) {e0 : List Ev} (hd : DJ t.d e0 evs) : JS t e0 evs :=
  ⟨hd, by rw [h1]; exact h.ep, by rw [h2]; exact h.en, by rw [h3]; exact h.core⟩
theorem moved_ok {s : StM} {evs0 evs : List Ev} (h : JS s evs0 evs) {k : Nat} {g : SagaM} (hg : s.sagas[k]? = some g) (hst : g.st = 1 ∨ g.st = 2) {rp : Int} (hr : 0 ≤ rp) : EvsOk [] (evs ++ [.moved g.id rp]) := by
  refine EvsOk_snoc h.dj.ok ⟨hr, ?_⟩
  obtain ⟨f, hf, hc⟩ := core_get h.core k hg
  exact ⟨f, List.mem_of_getElem? hf, core_id hc, by rw [core_st hc]; exact hst⟩
theorem reply_cases {g : SagaM} {p : PartM} (hm : g.moves (g.reply p) = true) : g.reply p = 0 ∨ g.reply p = 2 := by
  simp [SagaM.moves] at hm
  exact hm.imp id (fun h => h.1)
theorem appendA_one {d : DiskM} {en : Nat} {r : RecM} : d.appendA ⟨1, en, false⟩ [r] = ((d.sureG en (recBytes (placed r 1 en))).1, (d.sureG en (recBytes (placed r 1 en))).2) := by
  unfold DiskM.appendA
  rw [if_neg (by rintro ⟨h, _⟩; cases h)]
  simp only [settleD, DiskM.appendG, Bool.false_eq_true, if_false]
  split
  · rename_i h; rw [h]
  · rename_i h; simp at h; rw [h]
/-- A saga's turn. -/
theorem stepG_JS {s : StM} {k : Nat} {evs0 evs : List Ev} (h : JS s evs0 evs) (hi : s.inv0) (hl : 3 + evLen evs < s.d.blocks.length) :
    ∃ e0 e1, DJ (s.stepG k).1.d e0 e1 ∧ ((s.stepG k).2 = true → JS (s.stepG k).1 e0 e1) ∧ (e0 = evs0 ∨ e0 = evs ∨ e0 = e1) ∧
      (e1 = evs ∨ ∃ g, s.sagas[k]? = some g ∧ g.waits s.clock = true ∧ g.moves (g.reply s.p) = true ∧ e1 = evs ++ [.moved g.id (g.reply s.p)]) := by
  cases hg : s.sagas[k]? with
  | none => simp only [StM.stepG, hg]; exact ⟨evs0, evs, h.dj, fun _ => h, .inl rfl, .inl rfl⟩
  | some g =>
    by_cases hw : g.waits s.clock = false
    · simp only [StM.stepG, hg, hw, if_true]; exact ⟨evs0, evs, h.dj, fun _ => h, .inl rfl, .inl rfl⟩
    · have hw : g.waits s.clock = true := by simpa using hw
      by_cases hset : s.j.fresh = true ∧ s.d.bad = true
      · rw [stepG_unset hg hw hset]
        exact ⟨evs0, evs, h.dj.count, fun h => by (cases h), .inl rfl, .inl rfl⟩
      have hset : s.j.fresh = false ∨ s.d.bad = false := by
        cases h1 : s.j.fresh
        · exact .inl rfl
        · cases h2 : s.d.bad
          · exact .inr rfl
          · exact absurd ⟨h1, h2⟩ hset
      have hmem : g ∈ s.sagas := List.mem_of_getElem? hg
      have hgo := hi.ok g hmem
      have hst := waits_st hgo hw
      obtain ⟨hd, hp⟩ := h.settle hi
      by_cases hm : g.moves (g.reply s.p) = false
      · rw [stepG_vain hg hw hset hm]
        exact ⟨evs, evs, hd, fun _ => ⟨hd, h.ep, h.en, h.core.trans (core_pause (g' := g.paused s.clock s.pause) hg rfl).symm⟩, .inr (.inl rfl), .inl rfl⟩
      · have hm : g.moves (g.reply s.p) = true := by simpa using hm
        rw [stepG_moved hg hw hset hm]
        have hrp := reply_cases hm
        generalize hrpe : g.reply s.p = rp at hrp ⊢
        have hids := And.intro hgo.1 hgo.2.1
        have ho := moved_ok h hg hst (rp := rp) (by omega)
        have hlen : (settleD s.j s.d).blocks.length = s.d.blocks.length := settle_len' _ _
        have hix : 1 + evLen evs < 65536 := by have := hi.size; omega
        have hput := DJ.moved hd hp ho ⟨by show 4 < 256; omega, by show 1 < 2 ^ 32; omega, hix, by show g.id.toNat < 65536; omega, by show rp.toNat < 256; omega, fun _ => rfl, fun h => by (cases h)⟩ (by rw [hlen]; exact hl)
        obtain ⟨s1, s2⟩ := hd.sureG hput
        have hA : (settleD s.j s.d).appendA ⟨s.j.epoch, s.j.en, false⟩ [⟨4, 0, 0, g.id.toNat, rp.toNat, []⟩] = (((settleD s.j s.d).sureG (1 + evLen evs) (recBytes ⟨4, 1, 1 + evLen evs, g.id.toNat, rp.toNat, []⟩)).1, ((settleD s.j s.d).sureG (1 + evLen evs) (recBytes ⟨4, 1, 1 + evLen evs, g.id.toNat, rp.toNat, []⟩)).2) := by
          rw [h.ep, h.en]; exact appendA_one
        by_cases hok : ((settleD s.j s.d).sureG (1 + evLen evs) (recBytes ⟨4, 1, 1 + evLen evs, g.id.toNat, rp.toNat, []⟩)).2 = true
        · rw [movedG_ok (by rw [hA]; exact hok)]
          have hd1 := (s1 hok).1
          have hd2 : DJ ((settleD s.j s.d).appendA ⟨s.j.epoch, s.j.en, false⟩ [⟨4, 0, 0, g.id.toNat, rp.toNat, []⟩]).1 (evs ++ [.moved g.id rp]) (evs ++ [.moved g.id rp]) := by rw [hA]; exact hd1
          refine ⟨evs ++ [.moved g.id rp], evs ++ [.moved g.id rp], hd2, fun _ => ⟨hd2, h.ep, ?_, ?_⟩, .inr (.inr rfl), .inr ⟨g, rfl, hw, hm, by rw [hrpe]⟩⟩
          · show s.j.en + 1 = _
            rw [evLen_snoc, h.en]; rfl
          · rw [List.foldl_append]
            exact core_apply h.core hi.ord hg rp
        · have hok : ((settleD s.j s.d).sureG (1 + evLen evs) (recBytes ⟨4, 1, 1 + evLen evs, g.id.toNat, rp.toNat, []⟩)).2 = false := by simpa using hok
          rw [movedG_bad (by rw [hA]; exact hok)]
          rcases s2 hok with hd1 | hd1
          · refine ⟨evs, evs, ?_, fun h => by (cases h), .inr (.inl rfl), .inl rfl⟩
            show DJ ((settleD s.j s.d).appendA ⟨s.j.epoch, s.j.en, false⟩ [⟨4, 0, 0, g.id.toNat, rp.toNat, []⟩]).1 evs evs
            rw [hA]; exact hd1
          · refine ⟨evs, evs ++ [.moved g.id rp], ?_, fun h => by (cases h), .inr (.inl rfl), .inr ⟨g, rfl, hw, hm, by rw [hrpe]⟩⟩
            show DJ ((settleD s.j s.d).appendA ⟨s.j.epoch, s.j.en, false⟩ [⟨4, 0, 0, g.id.toNat, rp.toNat, []⟩]).1 evs _
            rw [hA]; exact hd1
end Go.Proofs.YtkafmfdipmhleaaGreatDoor

namespace Go.Proofs.YtkafmfdipmhleaaGreatDoor
open Go.RowKit Go.Maps

theorem sureG_quiet {d : DiskM} (h : d.quiet) (i : Nat) (l : List UInt8) : d.sureG i l = (d.sure i l, true) := by
  unfold DiskM.sureG
  rw [h.bad, (h.put i l).bad]; rfl
theorem appendG_quiet {d : DiskM} (h : d.quiet) (ep ix : Nat) (rs : List RecM) : d.appendG ep ix rs = (d.append ep ix rs, true) := by
  induction rs generalizing d ix with
  | nil => rfl
  | cons r rs ih =>
    simp only [DiskM.appendG, sureG_quiet h, if_true]
    rw [ih (d := d.sure ix _) ((h.put _ _).flush)]; rfl
theorem appendA_quiet {d : DiskM} (h : d.quiet) (j : JnM) (rs : List RecM) : d.appendA j rs = ((settleD j d).append j.epoch j.en rs, true) := by
  unfold DiskM.appendA
  rw [if_neg (by rintro ⟨_, e⟩; rw [h.bad] at e; cases e), appendG_quiet (settle_quiet _ _ h)]
theorem submitG_quiet {s : StM} (h : s.d.quiet) (id : Int) (l : List (ByteArray × ByteArray)) : s.submitG id l = s.submit id l := by
  unfold StM.submitG StM.submit
  rw [appendA_quiet h]
theorem stepG_quiet {s : StM} (h : s.d.quiet) (k : Nat) : s.stepG k = (s.stepOne k, true) := by
  cases hg : s.sagas[k]? with
  | none => simp only [StM.stepG, StM.stepOne, hg]
  | some g =>
    by_cases hw : g.waits s.clock = false
    · simp only [StM.stepG, StM.stepOne, hg, hw, if_true]
    · have hw : g.waits s.clock = true := by simpa using hw
      have hset : s.j.fresh = false ∨ s.d.bad = false := .inr h.bad
      by_cases hm : g.moves (g.reply s.p) = false
      · rw [stepG_vain hg hw hset hm]
        simp only [StM.stepOne, hg, hw, hm, Bool.true_eq_false, if_false, if_true]
      · have hm : g.moves (g.reply s.p) = true := by simpa using hm
        have hA := appendA_quiet (settle_quiet s.j _ h) ⟨s.j.epoch, s.j.en, false⟩ [⟨4, 0, 0, g.id.toNat, (g.reply s.p).toNat, []⟩]
        have hst : ∀ d : DiskM, settleD ⟨s.j.epoch, s.j.en, false⟩ d = d := fun _ => rfl
        rw [hst] at hA
        rw [stepG_moved hg hw hset hm, movedG_ok (by rw [hA]), hA]
        simp only [StM.stepOne, hg, hw, hm, Bool.true_eq_false, if_false]
theorem runG_quiet {s : StM} {m : Nat} (h : s.inv) (k : Nat) (hf : s.fine (m + k)) : s.runG (List.range k) = ((List.range k).foldl StM.stepOne s, true) := by
  induction k generalizing m with
  | zero => rfl
  | succ k ih =>
    have h1 := ih (m := m + 1) (by rw [show m + 1 + k = m + (k + 1) by omega]; exact hf)
    have h2 := fold_inv (m := m + 1) (List.range k) s h (by rw [List.length_range, show m + 1 + k = m + (k + 1) by omega]; exact hf)
    rw [runG_succ s k (by rw [h1]), h1, List.range_succ, List.foldl_append]
    exact stepG_quiet h2.1.quiet k
theorem tickG_quiet {s : StM} {m : Nat} (h : s.inv) (hf : s.fine (m + s.sagas.length)) : s.tickG = (s.tick, true) :=
  runG_quiet (s := { s with clock := s.clock + 1 }) (inv_clock h _) _ hf
/-- A Submit. -/
theorem submitG_JS {s : StM} {id : Int} {n : Nat} {evs0 evs : List Ev} (h : JS s evs0 evs) (hi : s.inv0) (hid : 1 ≤ id ∧ id ≤ 3) (hn : 1 ≤ n ∧ n ≤ 6) (hnew : ∀ x ∈ s.sagas, x.id ≠ id) (hl : 4 + evLen evs < s.d.blocks.length) :
    ∃ e0 e1, DJ (s.d.appendA s.j [bodyRec id (kSteps id n), takenRec id]).1 e0 e1 ∧ ((s.d.appendA s.j [bodyRec id (kSteps id n), takenRec id]).2 = true → JS (s.submitG id (kSteps id n)) e0 e1 ∧ e1 = evs ++ [.taken id (kSteps id n)]) ∧ (e0 = evs0 ∨ e0 = evs ∨ e0 = e1) ∧
      (e1 = evs ∨ e1 = evs ++ [.taken id (kSteps id n)]) := by
  by_cases hset : s.j.fresh = true ∧ s.d.bad = true
  · have hA : s.d.appendA s.j [bodyRec id (kSteps id n), takenRec id] = (s.d.count, false) := by unfold DiskM.appendA; rw [if_pos hset]
    rw [hA]
    exact ⟨evs0, evs, h.dj.count, fun h => by (cases h), .inl rfl, .inl rfl⟩
  · obtain ⟨hd, hp⟩ := h.settle hi
    have hlen : (settleD s.j s.d).blocks.length = s.d.blocks.length := settle_len' _ _
    have hbx := hi.size
    have hA : s.d.appendA s.j [bodyRec id (kSteps id n), takenRec id] = (settleD s.j s.d).appendG 1 (1 + evLen evs) [bodyRec id (kSteps id n), takenRec id] := by
      unfold DiskM.appendA; rw [if_neg hset, h.ep, h.en]
    have ho : EvsOk [] (evs ++ [.taken id (kSteps id n)]) := by
      refine EvsOk_snoc h.dj.ok ⟨fun x hx => ?_, by omega, by omega, (whole_small (kSteps_whole id n (by omega) hn)).2.2⟩
      have h1 : x.id ∈ s.sagas.map (·.id) := by
        rw [← core_ids h.core]; exact List.mem_map_of_mem hx
      obtain ⟨y, hy, hxy⟩ := List.mem_map.1 h1
      rw [← hxy]; exact hnew y hy
    have hput := DJ.bodied (id := id) (n := n) hd hp hid hn
    obtain ⟨s1, s2⟩ := hd.sureG hput
    have hb1 : recBytes (placed (bodyRec id (kSteps id n)) 1 (1 + evLen evs)) = recBytes (bRec id n (1 + evLen evs)) := rfl
    have hb2 : recBytes (placed (takenRec id) 1 (1 + evLen evs + 1)) = recBytes ⟨3, 1, 1 + evLen evs + 1, id.toNat, 0, []⟩ := rfl
    have hbod : padB (recBytes (bRec id n (1 + evLen evs))) = bod id n (1 + evLen evs) := rfl
    by_cases hok : ((settleD s.j s.d).sureG (1 + evLen evs) (recBytes (bRec id n (1 + evLen evs)))).2 = true
    · obtain ⟨hd1, hbl⟩ := s1 hok
      have hp1 := sureG_pend _ _ _ hok
      have hl1 := sureG_len (settleD s.j s.d) (1 + evLen evs) (recBytes (bRec id n (1 + evLen evs)))
      have hA2 : s.d.appendA s.j [bodyRec id (kSteps id n), takenRec id] =
          ((((settleD s.j s.d).sureG (1 + evLen evs) (recBytes (bRec id n (1 + evLen evs)))).1.sureG (1 + evLen evs + 1) (recBytes ⟨3, 1, 1 + evLen evs + 1, id.toNat, 0, []⟩)).1,
           (((settleD s.j s.d).sureG (1 + evLen evs) (recBytes (bRec id n (1 + evLen evs)))).1.sureG (1 + evLen evs + 1) (recBytes ⟨3, 1, 1 + evLen evs + 1, id.toNat, 0, []⟩)).2) := by
        rw [hA]
        simp only [DiskM.appendG, hb1, hb2, hok, if_true]
        split
        · rename_i h; rw [h]
        · rename_i h; simp at h; rw [h]
      generalize ((settleD s.j s.d).sureG (1 + evLen evs) (recBytes (bRec id n (1 + evLen evs)))).1 = d1 at hd1 hbl hp1 hl1 hA2
      have hput2 := DJ.taken (id := id) (n := n) hd1 hp1 (by rw [hbl, getD_set_self _ _ _ (by omega)]; exact hbod) hid hn ho (by omega) (by omega)
      obtain ⟨t1, t2⟩ := hd1.sureG hput2
      rw [hA2]
      by_cases hok2 : (d1.sureG (1 + evLen evs + 1) (recBytes ⟨3, 1, 1 + evLen evs + 1, id.toNat, 0, []⟩)).2 = true
      · have hd2 := (t1 hok2).1
        refine ⟨_, _, hd2, fun _ => ⟨⟨?_, h.ep, ?_, ?_⟩, rfl⟩, .inr (.inr rfl), .inr rfl⟩
        · show DJ (s.d.appendA s.j [bodyRec id (kSteps id n), takenRec id]).1 _ _
          rw [hA2]; exact hd2
        · show s.j.en + 2 = _
          rw [evLen_snoc, h.en]; rfl
        · rw [List.foldl_append]
          exact core_ins h.core _
      · have hok2 : (d1.sureG (1 + evLen evs + 1) (recBytes ⟨3, 1, 1 + evLen evs + 1, id.toNat, 0, []⟩)).2 = false := by simpa using hok2
        rcases t2 hok2 with hd2 | hd2
        · exact ⟨evs, evs, hd2, fun h => by (rw [hok2] at h; cases h), .inr (.inl rfl), .inl rfl⟩
        · exact ⟨evs, _, hd2, fun h => by (rw [hok2] at h; cases h), .inr (.inl rfl), .inr rfl⟩
    · have hok : ((settleD s.j s.d).sureG (1 + evLen evs) (recBytes (bRec id n (1 + evLen evs)))).2 = false := by simpa using hok
      have hA2 : s.d.appendA s.j [bodyRec id (kSteps id n), takenRec id] = (((settleD s.j s.d).sureG (1 + evLen evs) (recBytes (bRec id n (1 + evLen evs)))).1, false) := by
        rw [hA]
        simp only [DiskM.appendG, hb1, hok, Bool.false_eq_true, if_false]
      rw [hA2]
      refine ⟨evs, evs, ?_, fun h => by (cases h), .inr (.inl rfl), .inl rfl⟩
      rcases s2 hok with hd1 | hd1 <;> exact hd1
theorem stepG_len {s : StM} {k : Nat} : (s.stepG k).1.d.blocks.length = s.d.blocks.length := by
  unfold StM.stepG StM.movedG
  cases s.sagas[k]? with
  | none => rfl
  | some g =>
    simp only
    split
    · rfl
    · split
      · rfl
      · split
        · exact settle_len' _ _
        · split
          · simp only; rw [appendA_len, settle_len']
          · simp only; rw [appendA_len, settle_len']
theorem runG_len {s : StM} (k : Nat) : (s.runG (List.range k)).1.d.blocks.length = s.d.blocks.length := by
  induction k with
  | zero => rfl
  | succ k ih =>
    by_cases h : (s.runG (List.range k)).2 = true
    · rw [runG_succ s k h, stepG_len, ih]
    · rw [runG_stop s k (k + 1) (by omega) (by simpa using h), ih]
/-- Turns, one behind the other: what holds of the journal's events, if a move more keeps it. -/
theorem runG_JS {s : StM} {m : Nat} {evs0 evs : List Ev} (P : Nat → List Ev → Prop) (h : JS s evs0 evs) (hi : s.inv0) (hr : s.roomy) (k : Nat) (hf : s.fine (m + k)) (hP : ∀ j e, P j e → P (j + 1) e) (hPm : ∀ j e id rp, P j e → P (j + 1) (e ++ [.moved id rp]))
    (hlen : ∀ j e, j ≤ k → P j e → 3 + evLen e < s.d.blocks.length) (h0 : P 0 evs0) (h1 : P 0 evs) :
    ∃ e0 e1, DJ (s.runG (List.range k)).1.d e0 e1 ∧ ((s.runG (List.range k)).2 = true → JS (s.runG (List.range k)).1 e0 e1) ∧ P k e0 ∧ P k e1 := by
  induction k generalizing m with
  | zero => exact ⟨evs0, evs, h.dj, fun _ => h, h0, h1⟩
  | succ k ih =>
    obtain ⟨e0, e1, i1, i2, i3, i4⟩ := ih (m := m + 1) (by rw [show m + 1 + k = m + (k + 1) by omega]; exact hf) (fun j e hj => hlen j e (by omega))
    by_cases hok : (s.runG (List.range k)).2 = true
    · have hJ := i2 hok
      have hinv := runG_inv (m := m + 1) hi hr k (by rw [show m + 1 + k = m + (k + 1) by omega]; exact hf) hok
      rw [runG_succ s k hok]
      obtain ⟨f0, f1, j1, j2, j3, j4⟩ := stepG_JS (k := k) hJ hinv.1 (by rw [runG_len]; exact hlen k e1 (by omega) i4)
      have p1 : P (k + 1) f1 := by
        rcases j4 with rfl | ⟨g, _, _, _, rfl⟩
        · exact hP _ _ i4
        · exact hPm _ _ _ _ i4
      refine ⟨f0, f1, j1, j2, ?_, p1⟩
      rcases j3 with rfl | rfl | rfl
      · exact hP _ _ i3
      · exact hP _ _ i4
      · exact p1
    · have hok : (s.runG (List.range k)).2 = false := by simpa using hok
      rw [runG_stop s k (k + 1) (by omega) hok]
      exact ⟨e0, e1, i1, fun h => by (rw [hok] at h; cases h), hP _ _ i3, hP _ _ i4⟩
end Go.Proofs.YtkafmfdipmhleaaGreatDoor

namespace Go.Proofs.YtkafmfdipmhleaaGreatDoor
open Go.RowKit Go.Maps

theorem fresh_JS (pause : Int) (p : PartM) : JS (StM.fresh 120 pause p) [] [] := by
  have hb : (StM.fresh 120 pause p).d.blocks = (List.replicate 120 zer).set 0 hdr := fresh_blocks 120
  have hl : (StM.fresh 120 pause p).d.blocks.length = 120 := by rw [hb]; simp
  have hz : ∀ i, 0 < i → i < 120 → (StM.fresh 120 pause p).d.blocks.getD i [] = zer := by
    intro i h1 h2
    rw [hb, getD_set_ne _ _ _ _ (by omega), List.getD_eq_getElem?_getD, List.getElem?_replicate, if_pos h2]; rfl
  refine ⟨DJ.mk_clean ⟨?_, trivial, ?_, ?_, ?_⟩ (fresh_pend 120) trivial, rfl, rfl, rfl⟩
  · rw [hb, getD_set_self _ _ _ (by simp)]
  · show Junk ((StM.fresh 120 pause p).d.blocks.getD 1 [])
    rw [hz 1 (by omega) (by omega)]; exact junk_zer
  · intro i h1 h2
    exact hz i (by omega) (by omega)
  · rw [hl]; show 2 + 0 < 120; omega
def ag0 (l : List Int) (lo : Nat) : StM := StM.fresh 120 2 ⟨[], [], l, 0, lo⟩
def ag1 (l : List Int) (lo n1 : Nat) : StM := (ag0 l lo).submit 1 (kSteps 1 n1)
def ag2 (l : List Int) (lo n1 n2 : Nat) : StM := (ag1 l lo n1).submit 2 (kSteps 2 n2)
def ag3 (l : List Int) (lo n1 n2 : Nat) : StM := (ag2 l lo n1 n2).tick
def ag4 (l : List Int) (lo n1 n2 : Nat) (a : Int) : StM := { ag3 l lo n1 n2 with d := (ag3 l lo n1 n2).d.cut a }
def ag5 (l : List Int) (lo n1 n2 : Nat) (a : Int) : StM := (ag4 l lo n1 n2 a).tickG.1
theorem ag0_fine (l : List Int) (lo : Nat) (hl : l.length ≤ 60) : (ag0 l lo).fine 100 :=
  ⟨by show 0 + 100 < 2 ^ 30; omega, by show 0 + 100 < 2 ^ 30; omega, by show l.length < 2 ^ 30; omega, by show (0 : Int) ≤ 0; omega, by show (0 : Int) + 100 < 2 ^ 30; omega, fun g hg => by simp [ag0, StM.fresh] at hg⟩
theorem ag0_inv (l : List Int) (lo : Nat) : (ag0 l lo).inv := fresh_inv 120 2 ⟨[], [], l, 0, lo⟩ (by omega) (by omega)
theorem ag0_room (l : List Int) (lo n1 : Nat) (hn : 1 ≤ n1 ∧ n1 ≤ 6) : ((ag0 l lo).j.en : Int) + (2 + (2 * (kSteps 1 n1).length - 1) + leftSum (ag0 l lo).sagas) ≤ (ag0 l lo).d.blocks.length := by
  have h1 : (ag0 l lo).d.blocks.length = 120 := fresh_len 120
  have h2 : (ag0 l lo).j.en = 1 := rfl
  have h3 : (ag0 l lo).sagas = [] := rfl
  rw [h1, h2, h3, kSteps_len]; simp [leftSum]; omega
theorem ag1_inv (l : List Int) (lo n1 : Nat) (hl : l.length ≤ 60) (hn : 1 ≤ n1 ∧ n1 ≤ 6) : (ag1 l lo n1).inv ∧ (ag1 l lo n1).fine 100 :=
  submit_inv (id := 1) (l := kSteps 1 n1) (ag0_inv l lo) (ag0_fine l lo hl) (kSteps_whole 1 n1 (by omega) hn) (fun x hx => by simp [ag0, StM.fresh] at hx) (ag0_room l lo n1 hn)
theorem submit_len {s : StM} (h : s.d.pend = none) (id : Int) (l : List (ByteArray × ByteArray)) : (s.submit id l).d.blocks.length = s.d.blocks.length := by
  show ((settleD s.j s.d).append s.j.epoch s.j.en _).blocks.length = _
  rw [append_len, settle_len _ _ h]
theorem ag1_len (l : List Int) (lo n1 : Nat) : (ag1 l lo n1).d.blocks.length = 120 := (submit_len (ag0_inv l lo).pend _ _).trans (fresh_len 120)
theorem ag1_sagas (l : List Int) (lo n1 : Nat) : (ag1 l lo n1).sagas = [SagaM.new 1 (kSteps 1 n1)] := rfl
theorem ag1_new (l : List Int) (lo n1 : Nat) : ∀ x ∈ (ag1 l lo n1).sagas, x.id ≠ 2 := by
  intro x hx
  rw [ag1_sagas] at hx
  simp at hx
  rw [hx]; show (1 : Int) ≠ 2; omega
theorem ag1_room (l : List Int) (lo n1 n2 : Nat) (hn : 1 ≤ n1 ∧ n1 ≤ 6) (hn2 : 1 ≤ n2 ∧ n2 ≤ 6) : ((ag1 l lo n1).j.en : Int) + (2 + (2 * (kSteps 2 n2).length - 1) + leftSum (ag1 l lo n1).sagas) ≤ (ag1 l lo n1).d.blocks.length := by
  have l1 := new_left 1 (kSteps 1 n1)
  rw [kSteps_len] at l1
  have h2 : (ag1 l lo n1).j.en = 3 := rfl
  rw [ag1_len, h2, ag1_sagas, kSteps_len]; simp [leftSum, l1]; omega
theorem ag2_inv (l : List Int) (lo n1 n2 : Nat) (hl : l.length ≤ 60) (hn : 1 ≤ n1 ∧ n1 ≤ 6) (hn2 : 1 ≤ n2 ∧ n2 ≤ 6) : (ag2 l lo n1 n2).inv ∧ (ag2 l lo n1 n2).fine 100 := by
  obtain ⟨h1, h2⟩ := ag1_inv l lo n1 hl hn
  exact submit_inv (id := 2) (l := kSteps 2 n2) h1 h2 (kSteps_whole 2 n2 (by omega) hn2) (ag1_new l lo n1) (ag1_room l lo n1 n2 hn hn2)
theorem ag2_len (l : List Int) (lo n1 n2 : Nat) (hl : l.length ≤ 60) (hn : 1 ≤ n1 ∧ n1 ≤ 6) : (ag2 l lo n1 n2).d.blocks.length = 120 := (submit_len (ag1_inv l lo n1 hl hn).1.pend _ _).trans (ag1_len l lo n1)
theorem ag2_sagas (l : List Int) (lo n1 n2 : Nat) : (ag2 l lo n1 n2).sagas = [SagaM.new 1 (kSteps 1 n1), SagaM.new 2 (kSteps 2 n2)] := rfl
theorem ag2_slen (l : List Int) (lo n1 n2 : Nat) : (ag2 l lo n1 n2).sagas.length = 2 := by rw [ag2_sagas]; rfl
/-- What holds of Again's journal: both sagas are there, and few records. -/
def agP (j : Nat) (e : List Ev) : Prop := (e.foldl applyEv []).map (·.id) = [1, 2] ∧ evLen e ≤ 4 + j
theorem agP_succ (j : Nat) (e : List Ev) (h : agP j e) : agP (j + 1) e := ⟨h.1, by have := h.2; omega⟩
theorem agP_moved (j : Nat) (e : List Ev) (id rp : Int) (h : agP j e) : agP (j + 1) (e ++ [.moved id rp]) := by
  refine ⟨?_, by rw [evLen_snoc]; have := h.2; show evLen e + 1 ≤ _; omega⟩
  rw [List.foldl_append]
  show ((e.foldl applyEv []).map (fun x => if x.id = id then x.moved rp else x)).map (·.id) = _
  rw [List.map_map, ← h.1]
  apply List.map_congr_left
  intro x _
  simp only [Function.comp_apply]
  split
  · exact moved_id x rp
  · rfl
theorem ag2_JS (l : List Int) (lo n1 n2 : Nat) (hl : l.length ≤ 60) (hn : 1 ≤ n1 ∧ n1 ≤ 6) (hn2 : 1 ≤ n2 ∧ n2 ≤ 6) : ∃ e0 e1, JS (ag2 l lo n1 n2) e0 e1 ∧ agP 0 e0 ∧ agP 0 e1 := by
  have h0 := ag0_inv l lo
  have hq0 := appendA_quiet h0.quiet (ag0 l lo).j [bodyRec 1 (kSteps 1 n1), takenRec 1]
  obtain ⟨a0, a1, _, a3, _, _⟩ := submitG_JS (id := 1) (n := n1) (fresh_JS 2 ⟨[], [], l, 0, lo⟩) h0.zero (by omega) hn (fun x hx => by simp [StM.fresh] at hx) (by
    have : (StM.fresh 120 2 ⟨[], [], l, 0, lo⟩).d.blocks.length = 120 := fresh_len 120
    rw [this]; show 4 + 0 < 120; omega)
  obtain ⟨a4, ha1⟩ := a3 (by
    show ((ag0 l lo).d.appendA (ag0 l lo).j _).2 = true
    rw [hq0])
  have hs1 : (StM.fresh 120 2 ⟨[], [], l, 0, lo⟩).submitG 1 (kSteps 1 n1) = ag1 l lo n1 := submitG_quiet h0.quiet 1 _
  rw [hs1] at a4
  obtain ⟨h1, _⟩ := ag1_inv l lo n1 hl hn
  have hq1 := appendA_quiet h1.quiet (ag1 l lo n1).j [bodyRec 2 (kSteps 2 n2), takenRec 2]
  have hl1 : evLen a1 = 2 := by rw [ha1]; rfl
  obtain ⟨b0, b1, hd, b3, b4, b5⟩ := submitG_JS (id := 2) (n := n2) a4 h1.zero (by omega) hn2 (ag1_new l lo n1) (by rw [ag1_len, hl1]; omega)
  obtain ⟨b6, hb1⟩ := b3 (by rw [hq1])
  have hs2 : (ag1 l lo n1).submitG 2 (kSteps 2 n2) = ag2 l lo n1 n2 := submitG_quiet h1.quiet 2 _
  rw [hs2] at b6
  have hp : b0 = b1 := b6.dj.clean (ag2_inv l lo n1 n2 hl hn hn2).1.pend
  subst hp
  have hP : agP 0 b0 := by
    rw [hb1, ha1]
    exact ⟨rfl, by show 2 + (2 + 0) ≤ 4 + 0; omega⟩
  exact ⟨b0, b0, b6, hP, hP⟩
theorem ag3_inv (l : List Int) (lo n1 n2 : Nat) (hl : l.length ≤ 60) (hn : 1 ≤ n1 ∧ n1 ≤ 6) (hn2 : 1 ≤ n2 ∧ n2 ≤ 6) : (ag3 l lo n1 n2).inv ∧ (ag3 l lo n1 n2).fine 98 ∧ (ag3 l lo n1 n2).clock = 1 ∧ (ag3 l lo n1 n2).sagas.length = 2 := by
  obtain ⟨h1, h2⟩ := ag2_inv l lo n1 n2 hl hn hn2
  obtain ⟨i1, i2, i3, i4⟩ := tick_inv (m := 98) h1 (by rw [ag2_slen]; exact h2)
  exact ⟨i1, i2, i3, i4.trans (ag2_slen _ _ _ _)⟩
theorem ag3_JS (l : List Int) (lo n1 n2 : Nat) (hl : l.length ≤ 60) (hn : 1 ≤ n1 ∧ n1 ≤ 6) (hn2 : 1 ≤ n2 ∧ n2 ≤ 6) : ∃ e0 e1, JS (ag3 l lo n1 n2) e0 e1 ∧ agP 2 e0 ∧ agP 2 e1 ∧ (ag3 l lo n1 n2).d.blocks.length = 120 := by
  obtain ⟨h1, h2⟩ := ag2_inv l lo n1 n2 hl hn hn2
  obtain ⟨e0, e1, hJ, p0, p1⟩ := ag2_JS l lo n1 n2 hl hn hn2
  have hq := tickG_quiet (m := 98) h1 (by rw [ag2_slen]; exact h2)
  have hJ' : JS { ag2 l lo n1 n2 with clock := (ag2 l lo n1 n2).clock + 1 } e0 e1 := ⟨hJ.dj, hJ.ep, hJ.en, hJ.core⟩
  obtain ⟨f0, f1, j1, j2, j3, j4⟩ := runG_JS (m := 98) agP hJ' (inv_clock h1 _).zero h1.room 2 h2 agP_succ agP_moved (fun j e hj he => by
    have h3 : ({ ag2 l lo n1 n2 with clock := (ag2 l lo n1 n2).clock + 1 } : StM).d.blocks.length = 120 := ag2_len l lo n1 n2 hl hn
    rw [h3]; have := he.2; omega) p0 p1
  have hr : StM.runG { ag2 l lo n1 n2 with clock := (ag2 l lo n1 n2).clock + 1 } (List.range 2) = (ag3 l lo n1 n2, true) := by
    have : (ag2 l lo n1 n2).tickG = StM.runG { ag2 l lo n1 n2 with clock := (ag2 l lo n1 n2).clock + 1 } (List.range (ag2 l lo n1 n2).sagas.length) := rfl
    rw [ag2_slen] at this
    rw [← this]; exact hq
  have hlen := runG_len (s := { ag2 l lo n1 n2 with clock := (ag2 l lo n1 n2).clock + 1 }) 2
  rw [hr] at j2 hlen
  exact ⟨f0, f1, j2 rfl, j3, j4, hlen.trans (ag2_len l lo n1 n2 hl hn)⟩
theorem ag4_inv (l : List Int) (lo n1 n2 : Nat) (a : Int) (hl : l.length ≤ 60) (hn : 1 ≤ n1 ∧ n1 ≤ 6) (hn2 : 1 ≤ n2 ∧ n2 ≤ 6) : (ag4 l lo n1 n2 a).inv0 ∧ (ag4 l lo n1 n2 a).roomy ∧ (ag4 l lo n1 n2 a).fine 98 ∧ (ag4 l lo n1 n2 a).clock = 1 ∧ (ag4 l lo n1 n2 a).sagas.length = 2 := by
  obtain ⟨h1, h2, h3, h4⟩ := ag3_inv l lo n1 n2 hl hn hn2
  exact ⟨⟨fun _ => h1.pend, h1.epoch, h1.ok, h1.ord, h1.size⟩, h1.room, h2, h3, h4⟩
/-- What survives of the journal. -/
theorem ag5_after (l : List Int) (lo n1 n2 : Nat) (a : Int) (hl : l.length ≤ 60) (hn : 1 ≤ n1 ∧ n1 ≤ 6) (hn2 : 1 ≤ n2 ∧ n2 ≤ 6) (ks : List Int) : (ag5 l lo n1 n2 a).d.blocks.length = 120 ∧ ∃ e, JD ((ag5 l lo n1 n2 a).d.after ks).blocks e ∧ EvsOk [] e ∧ agP 4 e := by
  obtain ⟨e0, e1, hJ, p0, p1, hlen⟩ := ag3_JS l lo n1 n2 hl hn hn2
  obtain ⟨h1, h2, h3, h4, h5⟩ := ag4_inv l lo n1 n2 a hl hn hn2
  have hJ' : JS { ag4 l lo n1 n2 a with clock := (ag4 l lo n1 n2 a).clock + 1 } e0 e1 := ⟨hJ.dj.same rfl rfl, hJ.ep, hJ.en, hJ.core⟩
  obtain ⟨f0, f1, j1, j2, j3, j4⟩ := runG_JS (m := 96) (fun j e => agP (2 + j) e) hJ' ⟨h1.pend, h1.epoch, h1.ok, h1.ord, h1.size⟩ h2 2 h3 (fun j e => agP_succ (2 + j) e) (fun j e id rp => agP_moved (2 + j) e id rp) (fun j e hj he => by
    have h3 : ({ ag4 l lo n1 n2 a with clock := (ag4 l lo n1 n2 a).clock + 1 } : StM).d.blocks.length = 120 := hlen
    rw [h3]; have := he.2; omega) p0 p1
  have hr : StM.runG { ag4 l lo n1 n2 a with clock := (ag4 l lo n1 n2 a).clock + 1 } (List.range 2) = (ag4 l lo n1 n2 a).tickG := by
    have : (ag4 l lo n1 n2 a).tickG = StM.runG { ag4 l lo n1 n2 a with clock := (ag4 l lo n1 n2 a).clock + 1 } (List.range (ag4 l lo n1 n2 a).sagas.length) := rfl
    rw [h5] at this
    exact this.symm
  have hl5 := runG_len (s := { ag4 l lo n1 n2 a with clock := (ag4 l lo n1 n2 a).clock + 1 }) 2
  rw [hr] at j1 hl5
  refine ⟨hl5.trans hlen, ?_⟩
  rcases j1.after ks with h | h
  · exact ⟨f0, h, j1.ok0, j3⟩
  · exact ⟨f1, h, j1.ok, j4⟩
end Go.Proofs.YtkafmfdipmhleaaGreatDoor

namespace Go.Proofs.YtkafmfdipmhleaaGreatDoor
open Go.RowKit Go.Maps

/-- Many sagas, and what their partner has done. -/
structure SI (rest : List Int) (C : Int) (s : StM) : Prop where
  ag : ∀ g ∈ s.sagas, Agree g.steps.length g.st g.step (mineOf s.p.effs g.id)
  fresh : ∀ id, (∀ g ∈ s.sagas, g.id ≠ id) → mineOf s.p.effs id = []
  pl : s.p.l = rest
  at_ : s.p.at_ = s.p.log.length
  sum : (s.p.log.length : Int) + leftSum s.sagas ≤ C + min s.p.log.length 60
  due : ∀ g ∈ s.sagas, g.due ≤ s.clock + 1
  clk : 0 ≤ s.clock ∧ s.clock < 2 ^ 40
  pz : s.pause = 1
  told : s.d.told = 0
theorem ord_ne {l : List SagaM} (h : l.Pairwise (fun a b => a.id < b.id)) {i k : Nat} {a b : SagaM} (ha : l[i]? = some a) (hb : l[k]? = some b) (hik : i ≠ k) : a.id ≠ b.id := by
  obtain ⟨p1, q1⟩ := List.getElem?_eq_some_iff.1 ha
  obtain ⟨p2, q2⟩ := List.getElem?_eq_some_iff.1 hb
  have hpw := List.pairwise_iff_getElem.1 h
  rcases Nat.lt_or_ge i k with h3 | h3
  · have := hpw i k p1 p2 h3; rw [q1, q2] at this; omega
  · have := hpw k i p2 p1 (by omega); rw [q1, q2] at this; omega
theorem told_flush (d : DiskM) (hq : d.quiet) (h : d.told = 0) : d.flush.told = 0 := by
  have hb := hq.bad
  simp only [DiskM.flush, DiskM.count, hb]
  cases d.pend <;> simp [h]
theorem told_put (d : DiskM) (hq : d.quiet) (h : d.told = 0) (i : Nat) (l : List UInt8) : (d.put i l).told = 0 := by
  have hb := hq.bad
  simp [DiskM.put, DiskM.count, hb, h]
theorem told_settle (j : JnM) (d : DiskM) (hq : d.quiet) (h : d.told = 0) : (settleD j d).told = 0 := by
  unfold settleD; split
  · exact told_flush d hq h
  · exact h
theorem told_append (d : DiskM) (ep ix : Nat) (l : List RecM) (hq : d.quiet) (h : d.told = 0) : (d.append ep ix l).told = 0 := by
  induction l generalizing d ix with
  | nil => exact h
  | cons a l ih => exact ih (d.sure ix _) _ ((hq.put _ _).flush) (told_flush _ (hq.put _ _) (told_put d hq h _ _))
/-- One saga's turn. -/
theorem si_step {rest r : List Int} {C : Int} {s : StM} {k : Nat} (hr : rest = r ++ List.replicate 300 0) (hrl : r.length ≤ 60) (h : SI rest C s) (hC : C ≤ 200) (hi : s.inv) (htr : ∀ g ∈ s.sagas, g.tries + 1 < 2 ^ 40) :
    SI rest C (s.stepOne k) ∧ s.p.log.length ≤ (s.stepOne k).p.log.length ∧ (∀ i, i ≠ k → (s.stepOne k).sagas[i]? = s.sagas[i]?) ∧
    (∀ g, s.sagas[k]? = some g → ∃ g', (s.stepOne k).sagas[k]? = some g' ∧ g'.id = g.id ∧ g'.steps = g.steps ∧ ((g.st = 3 ∨ g.st = 4) → g' = g) ∧
      ((g.st = 1 ∨ g.st = 2) → g.due ≤ s.clock → g'.left + ((60 - (s.stepOne k).p.log.length : Nat) : Int) + 1 ≤ g.left + ((60 - s.p.log.length : Nat) : Int))) := by
  have hne : s.p.l ≠ [] := by rw [h.pl, hr]; exact app_ne 300 (by omega)
  cases hg : s.sagas[k]? with
  | none =>
    have e : s.stepOne k = s := by simp only [StM.stepOne, hg]
    rw [e]
    exact ⟨h, Nat.le_refl _, fun _ _ => rfl, fun g hg' => by cases hg'⟩
  | some g =>
    have hmem : g ∈ s.sagas := List.mem_of_getElem? hg
    have hok := hi.ok g hmem
    cases hw : g.waits s.clock
    · have e : s.stepOne k = s := by simp only [StM.stepOne, hg, hw, if_true]
      rw [e]
      refine ⟨h, Nat.le_refl _, fun _ _ => rfl, fun g0 hg' => ?_⟩
      cases hg'
      refine ⟨g, hg, rfl, rfl, fun _ => rfl, fun hst hd => ?_⟩
      exfalso
      simp only [SagaM.waits, Bool.and_eq_false_iff, decide_eq_false_iff_not] at hw
      omega
    · have hst : g.st = 1 ∨ g.st = 2 := by
        simp [SagaM.waits] at hw
        obtain ⟨_, _, _, _, h | h⟩ := hok
        · exact h.1
        · omega
      have hkl := (List.getElem?_eq_some_iff.1 hg).1
      obtain ⟨a1, a2, a3, a4⟩ := agree_ask g s.p (h.ag g hmem) hst
      have hat : (s.p.ask g.call).at_ = s.p.at_ + 1 := at_next hne
      have hlog : (s.p.ask g.call).log = s.p.log ++ [(g.call, g.reply s.p)] := rfl
      have hll : (s.p.ask g.call).log.length = s.p.log.length + 1 := by rw [hlog]; simp
      have hln := leftSum_nonneg s.sagas hi.ok
      have hlm := leftSum_mem s.sagas hi.ok g hmem
      have hsum := h.sum
      have hpos := hok.left_pos hst
      have hcs : g.call.saga = g.id := rfl
      have hother : ∀ id, id ≠ g.id → mineOf (s.p.ask g.call).effs id = mineOf s.p.effs id := fun id hid => mine_other s.p g.call id (fun e => hid (e.symm.trans hcs))
      have hsets : ∀ (g' : SagaM), g'.id = g.id → g'.steps = g.steps → Agree g'.steps.length g'.st g'.step (mineOf (s.p.ask g.call).effs g.id) → g'.due ≤ s.clock + 1 →
          (∀ x ∈ s.sagas.set k g', Agree x.steps.length x.st x.step (mineOf (s.p.ask g.call).effs x.id)) ∧ (∀ id, (∀ x ∈ s.sagas.set k g', x.id ≠ id) → mineOf (s.p.ask g.call).effs id = []) ∧ (∀ x ∈ s.sagas.set k g', x.due ≤ s.clock + 1) ∧
          (∀ i, i ≠ k → (s.sagas.set k g')[i]? = s.sagas[i]?) ∧ (s.sagas.set k g')[k]? = some g' := by
        intro g' h1 h2 h3 h4
        refine ⟨fun x hx => ?_, fun id hid => ?_, fun x hx => ?_, fun i hik => List.getElem?_set_ne (fun e => hik e.symm), List.getElem?_set_self hkl⟩
        · obtain ⟨i, hi2⟩ := List.getElem?_of_mem hx
          by_cases e : i = k
          · subst e
            rw [List.getElem?_set_self hkl] at hi2
            cases hi2
            rw [h1]; exact h3
          · rw [List.getElem?_set_ne (fun h => e h.symm)] at hi2
            have hx0 : x ∈ s.sagas := List.mem_of_getElem? hi2
            rw [hother x.id (ord_ne hi.ord hi2 hg e)]
            exact h.ag x hx0
        · have hidg : id ≠ g.id := fun e => hid g' (List.mem_of_getElem? (List.getElem?_set_self hkl)) (h1.trans e.symm)
          rw [hother id hidg]
          refine h.fresh id (fun x hx => ?_)
          obtain ⟨i, hi2⟩ := List.getElem?_of_mem hx
          by_cases e : i = k
          · subst e
            rw [hg] at hi2; cases hi2
            exact fun e => hidg e.symm
          · exact hid x (List.mem_of_getElem? ((List.getElem?_set_ne (fun h => e h.symm)).trans hi2))
        · rcases mem_set_cases hx with rfl | hx
          · exact h4
          · exact h.due x hx
      cases hm : g.moves (g.reply s.p)
      · have hr1 : g.reply s.p = 1 := by
          rcases a4 with e | e | e
          · rw [e] at hm; simp [SagaM.moves] at hm
          · exact e
          · have := a3 e; rw [e] at hm; simp [SagaM.moves, this] at hm
        have hlt : s.p.log.length < 60 := by
          refine Nat.lt_of_not_le (fun hge => ?_)
          have hk := k_zero' hr hrl (by omega) s.p h.pl (by rw [h.at_]; omega) (by rw [h.at_]; omega)
          have : g.reply s.p = 0 := by
            simp only [SagaM.reply, replyM, hk]
            cases s.p.knows g.call <;> simp
          omega
        have htg := htr g hmem
        have hmn : 1 ≤ (2 : Int) ^ (min g.tries 20).toNat := by
          have h2 : 1 ≤ (2 : Nat) ^ (min g.tries 20).toNat := Nat.one_le_two_pow
          have h3 : (((2 : Nat) ^ (min g.tries 20).toNat : Nat) : Int) = (2 : Int) ^ (min g.tries 20).toNat := by simp
          omega
        have hdw : wrap64 (s.clock + min ((2 : Int) ^ (min g.tries 20).toNat) s.pause) = s.clock + 1 := by
          rw [h.pz, Int.min_eq_right hmn]
          exact wrap_in _ (by have := h.clk; omega)
        have e : s.stepOne k = { s with sagas := s.sagas.set k (g.paused s.clock s.pause), j := { s.j with fresh := false }, d := settleD s.j s.d, p := s.p.ask g.call } := by
          simp only [StM.stepOne, hg, hw, hm, if_true]; rfl
        have hpd : (g.paused s.clock s.pause).due = s.clock + 1 := hdw
        have hpl : (g.paused s.clock s.pause).left = g.left := rfl
        obtain ⟨z1, z2, z3, z4, z5⟩ := hsets (g.paused s.clock s.pause) rfl rfl a1 (by rw [hpd]; omega)
        rw [e]
        refine ⟨⟨z1, z2, h.pl, ?_, ?_, z3, h.clk, h.pz, told_settle _ _ hi.quiet h.told⟩, by simp only [hll]; omega, z4, fun g0 hg' => ?_⟩
        · simp only [hat, hll, h.at_]; omega
        · simp only [hll]; rw [leftSum_set _ _ g _ hg, hpl]; omega
        · cases hg'
          refine ⟨_, z5, rfl, rfl, fun h3 => by omega, fun _ _ => ?_⟩
          simp only [hll, hpl]; omega
      · obtain ⟨hmo, hml⟩ := hok.moved hst (g.reply s.p)
        have hr02 : g.reply s.p = 0 ∨ g.reply s.p = 2 := by
          simp [SagaM.moves] at hm
          exact hm.imp id (fun h => h.1)
        obtain ⟨m1, m2, m3, m4⟩ := moved_st g (g.reply s.p) hst hok hr02 a3
        have hsteps : (g.moved (g.reply s.p)).steps = g.steps := by
          by_cases h1 : g.st = 1 <;> by_cases h2 : g.reply s.p = 0 <;> by_cases h3 : (g.steps.length : Int) < g.step + 1 <;> simp [SagaM.moved, SagaM.forward, SagaM.backward, h1, h2, h3]
        have e : s.stepOne k = { s with sagas := s.sagas.set k (g.moved (g.reply s.p)), j := ⟨s.j.epoch, s.j.en + 1, false⟩, d := (settleD s.j s.d).append s.j.epoch s.j.en [⟨4, 0, 0, g.id.toNat, (g.reply s.p).toNat, []⟩], p := s.p.ask g.call } := by
          simp [StM.stepOne, hg, hw, hm]
        have hck := h.clk
        obtain ⟨z1, z2, z3, z4, z5⟩ := hsets (g.moved (g.reply s.p)) (moved_id g _) hsteps (by rw [hsteps]; exact a2 hm) (by rw [m3]; omega)
        rw [e]
        refine ⟨⟨z1, z2, h.pl, ?_, ?_, z3, h.clk, h.pz, told_append _ _ _ _ (settle_quiet _ _ hi.quiet) (told_settle _ _ hi.quiet h.told)⟩, by simp only [hll]; omega, z4, fun g0 hg' => ?_⟩
        · simp only [hat, hll, h.at_]; omega
        · simp only [hll]; rw [leftSum_set _ _ g _ hg]; omega
        · cases hg'
          refine ⟨_, z5, moved_id g _, hsteps, fun h3 => by omega, fun _ _ => ?_⟩
          simp only [hll]; omega
/-- One tick, for each saga. -/
theorem si_tick {rest r : List Int} {C : Int} {s : StM} (hr : rest = r ++ List.replicate 300 0) (hrl : r.length ≤ 60) (h : SI rest C s) (hC : C ≤ 200) (hi : s.inv) (hf : s.fine s.sagas.length) (hck : s.clock + 1 < 2 ^ 40) :
    SI rest C s.tick ∧ (∀ (i : Nat) (g : SagaM), s.sagas[i]? = some g → ∃ g', s.tick.sagas[i]? = some g' ∧ g'.id = g.id ∧ g'.steps = g.steps ∧ ((g.st = 3 ∨ g.st = 4) → g' = g) ∧
      ((g.st = 1 ∨ g.st = 2) → g'.left + ((60 - s.tick.p.log.length : Nat) : Int) + 1 ≤ g.left + ((60 - s.p.log.length : Nat) : Int))) ∧ s.p.log.length ≤ s.tick.p.log.length := by
  have h0 : SI rest C { s with clock := s.clock + 1 } := ⟨h.ag, h.fresh, h.pl, h.at_, h.sum, fun g hg => by have := h.due g hg; simp only; omega, ⟨by have := h.clk; simp only; omega, hck⟩, h.pz, h.told⟩
  have key : ∀ n, n ≤ s.sagas.length → let t := (List.range n).foldl StM.stepOne { s with clock := s.clock + 1 }
      SI rest C t ∧ t.inv ∧ t.fine (s.sagas.length - n) ∧ t.clock = s.clock + 1 ∧ s.p.log.length ≤ t.p.log.length ∧ (∀ i, n ≤ i → t.sagas[i]? = s.sagas[i]?) ∧
      (∀ (i : Nat) (g : SagaM), i < n → s.sagas[i]? = some g → ∃ g', t.sagas[i]? = some g' ∧ g'.id = g.id ∧ g'.steps = g.steps ∧ ((g.st = 3 ∨ g.st = 4) → g' = g) ∧
        ((g.st = 1 ∨ g.st = 2) → g'.left + ((60 - t.p.log.length : Nat) : Int) + 1 ≤ g.left + ((60 - s.p.log.length : Nat) : Int))) := by
    intro n
    induction n with
    | zero => intro _; exact ⟨h0, inv_clock hi _, hf, rfl, Nat.le_refl _, fun _ _ => rfl, fun i g hi => by omega⟩
    | succ n ih =>
      intro hn
      have ihn := ih (by omega)
      simp only [List.range_succ, List.foldl_append, List.foldl_cons, List.foldl_nil] at ihn ⊢
      generalize (List.range n).foldl StM.stepOne { s with clock := s.clock + 1 } = t at ihn ⊢
      obtain ⟨b1, b2, b3, b4, b5, b6, b7⟩ := ihn
      obtain ⟨c1, c2, c3, c4⟩ := si_step (k := n) hr hrl b1 hC b2 (fun g hg => by have := b3.2.2.2.2.2 g hg; have := b3.1; omega)
      obtain ⟨d1, d2, d3, _⟩ := stepOne_inv (k := n) (m := s.sagas.length - (n + 1)) b2 (by rw [show s.sagas.length - (n + 1) + 1 = s.sagas.length - n by omega]; exact b3)
      refine ⟨c1, d1, d2, d3.trans b4, by omega, fun i hi2 => (c3 i (by omega)).trans (b6 i (by omega)), fun i g hin hg => ?_⟩
      by_cases e : i = n
      · subst e
        obtain ⟨g', e1, e2, e3, e4, e5⟩ := c4 g ((b6 i (Nat.le_refl _)).trans hg)
        refine ⟨g', e1, e2, e3, e4, fun hst => ?_⟩
        have := e5 hst (by rw [b4]; exact h.due g (List.mem_of_getElem? hg))
        omega
      · obtain ⟨g', e1, e2, e3, e4, e5⟩ := b7 i g (by omega) hg
        refine ⟨g', (c3 i e).trans e1, e2, e3, e4, fun hst => ?_⟩
        have := e5 hst
        omega
  obtain ⟨k1, _, _, _, k5, _, k7⟩ := key s.sagas.length (Nat.le_refl _)
  exact ⟨k1, fun i g hg => k7 i g (List.getElem?_eq_some_iff.1 hg).1 hg, k5⟩
theorem si_ticks {rest r : List Int} {C : Int} {s : StM} (hr : rest = r ++ List.replicate 300 0) (hrl : r.length ≤ 60) (h : SI rest C s) (hC : C ≤ 200) (hi : s.inv) (t : Nat) (hf : s.fine (t * s.sagas.length)) (hck : s.clock + t < 2 ^ 40) :
    SI rest C (s.ticks t) ∧ (∀ (i : Nat) (g : SagaM), s.sagas[i]? = some g → ∃ g', (s.ticks t).sagas[i]? = some g' ∧ g'.id = g.id ∧ g'.steps = g.steps ∧ ((g'.st = 3 ∨ g'.st = 4) ∨ g'.left + ((60 - (s.ticks t).p.log.length : Nat) : Int) + t ≤ g.left + ((60 - s.p.log.length : Nat) : Int))) := by
  induction t with
  | zero => exact ⟨h, fun i g hg => ⟨g, hg, rfl, rfl, .inr (by simp [StM.ticks])⟩⟩
  | succ t ih =>
    have hf1 : s.fine (t * s.sagas.length) := by
      obtain ⟨b1, b2, b3, b4, b5, b6⟩ := hf
      have : t * s.sagas.length ≤ (t + 1) * s.sagas.length := Nat.mul_le_mul_right _ (by omega)
      exact ⟨by omega, by omega, b3, b4, by omega, b6⟩
    obtain ⟨h1, h2⟩ := ih hf1 (by omega)
    obtain ⟨i1, i2, i3, i4⟩ := ticks_inv (m := s.sagas.length) hi t (by rw [Nat.add_mul, Nat.one_mul] at hf; rw [Nat.add_comm]; exact hf)
    obtain ⟨k1, k2, k3⟩ := si_tick hr hrl h1 hC i1 (by rw [i4]; exact i2) (by rw [i3]; omega)
    refine ⟨k1, fun i g hg => ?_⟩
    obtain ⟨g1, e1, e2, e3, e4⟩ := h2 i g hg
    obtain ⟨g2, f1, f2, f3, f4, f5⟩ := k2 i g1 e1
    refine ⟨g2, f1, f2.trans e2, f3.trans e3, ?_⟩
    have hst := agree_st (h1.ag g1 (List.mem_of_getElem? e1))
    rcases e4 with e4 | e4
    · left; rw [f4 e4]; exact e4
    · rcases hst with q | q | q | q
      · right; have := f5 (.inl q); show _ + (((60 - (s.ticks t).tick.p.log.length : Nat) : Int)) + _ ≤ _; omega
      · right; have := f5 (.inr q); show _ + (((60 - (s.ticks t).tick.p.log.length : Nat) : Int)) + _ ≤ _; omega
      · left; rw [f4 (.inl q)]; exact .inl q
      · left; rw [f4 (.inr q)]; exact .inr q
theorem left_le {g : SagaM} (h : g.ok) : g.left ≤ 12 := by
  obtain ⟨_, _, hsm, _, h⟩ := h
  have := hsm.1
  have := hsm.2.1
  unfold SagaM.left
  split
  · rcases h with h | h <;> omega
  · split
    · rcases h with h | h <;> omega
    · omega
/-- A hundred and twenty ticks are enough for all. -/
theorem si_ends {rest r : List Int} {C : Int} {s : StM} (hr : rest = r ++ List.replicate 300 0) (hrl : r.length ≤ 60) (h : SI rest C s) (hC : C ≤ 200) (hi : s.inv) (hf : s.fine (120 * s.sagas.length)) (hck : s.clock + 120 < 2 ^ 40) :
    SI rest C (s.ticks 120) ∧ ∀ g ∈ (s.ticks 120).sagas, g.st = 3 ∨ g.st = 4 := by
  obtain ⟨h1, h2⟩ := si_ticks hr hrl h hC hi 120 hf hck
  obtain ⟨i1, _, _, i4⟩ := ticks_inv (m := 0) hi 120 (by simpa using hf)
  refine ⟨h1, fun g hg => ?_⟩
  obtain ⟨i, hgi⟩ := List.getElem?_of_mem hg
  have hil := (List.getElem?_eq_some_iff.1 hgi).1
  rw [i4] at hil
  have hg0 : s.sagas[i]? = some s.sagas[i] := List.getElem?_eq_getElem hil
  obtain ⟨g', e1, _, _, e4⟩ := h2 i _ hg0
  rw [hgi] at e1
  cases e1
  rcases e4 with e4 | e4
  · exact e4
  · have hl := left_le (hi.ok _ (List.mem_of_getElem? hg0))
    have := (i1.ok g hg).left_nonneg
    omega
end Go.Proofs.YtkafmfdipmhleaaGreatDoor

namespace Go.Proofs.YtkafmfdipmhleaaGreatDoor
open Go.RowKit Go.Maps

/-- A turn asks for no more room than was kept for it. -/
theorem step_room {s : StM} {k : Nat} (h : s.inv) : ((s.stepOne k).j.en : Int) + leftSum (s.stepOne k).sagas ≤ (s.j.en : Int) + leftSum s.sagas ∧ (s.stepOne k).d.blocks.length = s.d.blocks.length := by
  have hlen : (settleD s.j s.d).blocks.length = s.d.blocks.length := settle_len _ _ h.pend
  cases hg : s.sagas[k]? with
  | none => simp only [StM.stepOne, hg]; exact ⟨Int.le_refl _, trivial⟩
  | some g =>
    by_cases hw : g.waits s.clock = false
    · simp only [StM.stepOne, hg, hw, if_true]; exact ⟨Int.le_refl _, trivial⟩
    · have hmem : g ∈ s.sagas := List.mem_of_getElem? hg
      have hok := h.ok g hmem
      have hst : g.st = 1 ∨ g.st = 2 := by
        simp [SagaM.waits] at hw
        obtain ⟨_, _, _, _, h | h⟩ := hok
        · exact h.1
        · omega
      by_cases hm : g.moves (g.reply s.p) = false
      · have e : s.stepOne k = { s with sagas := s.sagas.set k (g.paused s.clock s.pause), j := { s.j with fresh := false }, d := settleD s.j s.d, p := s.p.ask g.call } := by
          simp [StM.stepOne, hg, hw, hm]
        rw [e]
        refine ⟨?_, hlen⟩
        simp only
        rw [leftSum_set _ _ g _ hg]
        have e2 : (g.paused s.clock s.pause).left = g.left := rfl
        rw [e2]; omega
      · have e : s.stepOne k = { s with sagas := s.sagas.set k (g.moved (g.reply s.p)), j := ⟨s.j.epoch, s.j.en + 1, false⟩, d := (settleD s.j s.d).append s.j.epoch s.j.en [⟨4, 0, 0, g.id.toNat, (g.reply s.p).toNat, []⟩], p := s.p.ask g.call } := by
          simp [StM.stepOne, hg, hw, hm]
        obtain ⟨hmo, hml⟩ := hok.moved hst (g.reply s.p)
        rw [e]
        refine ⟨?_, by simp only; rw [append_len, hlen]⟩
        simp only
        rw [leftSum_set _ _ g _ hg]
        omega
theorem fold_room {m : Nat} (l : List Nat) (s : StM) (h : s.inv) (hf : s.fine (m + l.length)) :
    ((l.foldl StM.stepOne s).j.en : Int) + leftSum (l.foldl StM.stepOne s).sagas ≤ (s.j.en : Int) + leftSum s.sagas ∧ (l.foldl StM.stepOne s).d.blocks.length = s.d.blocks.length := by
  induction l generalizing s with
  | nil => exact ⟨Int.le_refl _, rfl⟩
  | cons a l ih =>
    obtain ⟨h1, h2, _, _⟩ := stepOne_inv (k := a) (m := m + l.length) h (by simpa [Nat.add_assoc] using hf)
    obtain ⟨e1, e2⟩ := ih (s.stepOne a) h1 h2
    obtain ⟨e3, e4⟩ := step_room (k := a) h
    exact ⟨by rw [List.foldl_cons]; omega, e2.trans e4⟩
theorem tick_room {s : StM} {m : Nat} (h : s.inv) (hf : s.fine (m + s.sagas.length)) : (s.tick.j.en : Int) + leftSum s.tick.sagas ≤ (s.j.en : Int) + leftSum s.sagas ∧ s.tick.d.blocks.length = s.d.blocks.length :=
  fold_room (m := m) (List.range s.sagas.length) { s with clock := s.clock + 1 } (inv_clock h _) (by rw [List.length_range]; exact hf)
theorem tick_ids (s : StM) : s.tick.sagas.map (·.id) = s.sagas.map (·.id) := fold_ids _ { s with clock := s.clock + 1 }
theorem ticks_ids (s : StM) (t : Nat) : (s.ticks t).sagas.map (·.id) = s.sagas.map (·.id) := by
  induction t with
  | zero => rfl
  | succ t ih => rw [StM.ticks, tick_ids, ih]
theorem ticks_lo (s : StM) (t : Nat) : (s.ticks t).p.lo = s.p.lo := by
  induction t with
  | zero => rfl
  | succ t ih => rw [StM.ticks, tick_lo, ih]

/-- How many steps the saga of number i has. -/
def spN (c : Int) (i : Nat) : Nat := (manyM c (i : Nat)).toNat
theorem spN_range (c : Int) (i : Nat) : 1 ≤ spN c i ∧ spN c i ≤ 6 ∧ (spN c i : Int) = manyM c i := by
  have := manyM_range c i
  unfold spN; omega
def spNeed (c : Int) : Nat → Int
  | 0 => 4
  | j + 1 => spNeed c j + 2 * manyM c ((j + 1 : Nat) : Int) + 2
theorem spNeed_range (c : Int) (j : Nat) : 4 + 4 * (j : Int) ≤ spNeed c j ∧ spNeed c j ≤ 4 + 14 * (j : Int) := by
  induction j with
  | zero => simp [spNeed]
  | succ j ih =>
    have := manyM_range c ((j + 1 : Nat) : Int)
    simp only [spNeed]
    omega
theorem spNeed_mono (c : Int) (j k : Nat) (h : j ≤ k) : spNeed c j ≤ spNeed c k := by
  induction k with
  | zero => obtain rfl : j = 0 := by omega
            exact Int.le_refl _
  | succ k ih =>
    have := manyM_range c ((k + 1 : Nat) : Int)
    by_cases e : j = k + 1
    · subst e; exact Int.le_refl _
    · have := ih (by omega)
      simp only [spNeed]; omega
def rest300 (r : List Int) : List Int := r ++ List.replicate 300 0
def spSub (c : Int) (s : StM) (i : Nat) : StM := s.submit i (kSteps i (spN c i))
/-- Behind so many sagas. -/
def spM (c : Int) (s0 : StM) : Nat → StM
  | 0 => s0
  | j + 1 => (spSub c (spM c s0 j) (j + 1)).tick
/-- What holds there. -/
structure SpI (c : Int) (R : List Int) (lo B j : Nat) (s : StM) : Prop where
  inv : s.inv
  fine : s.fine (100000 - 100 * j)
  ids : s.sagas.map (·.id) = (List.range j).map (fun i => ((i + 1 : Nat) : Int))
  room : (s.j.en : Int) + leftSum s.sagas ≤ 1 + (spNeed c j - 4)
  blocks : s.d.blocks.length = B
  si : SI R (11 * (j : Int)) s
  clock : s.clock = j
  lo : s.p.lo = lo
theorem spI_len {c : Int} {R : List Int} {lo B j : Nat} {s : StM} (h : SpI c R lo B j s) : s.sagas.length = j := by
  have := congrArg List.length h.ids
  simpa using this
theorem spI_new {c : Int} {R : List Int} {lo B j : Nat} {s : StM} (h : SpI c R lo B j s) : ∀ x ∈ s.sagas, x.id ≠ ((j + 1 : Nat) : Int) := by
  intro x hx e
  have : x.id ∈ s.sagas.map (·.id) := List.mem_map.2 ⟨x, hx, rfl⟩
  rw [h.ids, List.mem_map] at this
  obtain ⟨i, hi, e2⟩ := this
  rw [List.mem_range] at hi
  omega
theorem sp_ins (l : List SagaM) (g : SagaM) (h : ∀ x ∈ l, x.id < g.id) : insSaga g l = l ++ [g] := by
  induction l with
  | nil => rfl
  | cons x r ih =>
    have := h x (by simp)
    unfold insSaga
    rw [if_neg (by omega), ih (fun y hy => h y (by simp [hy]))]; rfl
theorem spI_room {c : Int} {R : List Int} {lo B j : Nat} {s : StM} (h : SpI c R lo B j s) (hB : spNeed c (j + 1) ≤ B) :
    (s.j.en : Int) + (2 + (2 * (kSteps ((j + 1 : Nat) : Int) (spN c (j + 1))).length - 1) + leftSum s.sagas) ≤ s.d.blocks.length := by
  have h1 := h.room
  have h2 := spN_range c (j + 1)
  rw [h.blocks, kSteps_len]
  simp only [spNeed] at hB
  omega
theorem told_count (d : DiskM) (hq : d.quiet) (h : d.told = 0) : d.count.told = 0 := by
  have hb := hq.bad
  simp [DiskM.count, hb, h]
theorem fresh_told (n : Nat) : (DiskM.fresh n).count.count.told = 0 := by
  have h1 := new_quiet n
  refine told_count _ (fresh_quiet n).count (told_count _ (fresh_quiet n) ?_)
  exact told_flush _ (h1.count.flush.put 0 _) (told_put _ h1.count.flush (told_flush _ h1.count (told_count _ h1 rfl)) _ _)
theorem spI_zero (c : Int) (r : List Int) (lo B : Nat) (hr : r.length ≤ 60) (hB : 1 ≤ B ∧ B ≤ 1000) : SpI c (rest300 r) lo B 0 (StM.fresh B 1 ⟨[], [], rest300 r, 0, lo⟩) where
  inv := fresh_inv B 1 _ hB (by omega)
  fine := ⟨by simp [StM.fresh], by simp [StM.fresh], by show (rest300 r).length < 2 ^ 30; rw [rest300, List.length_append, List.length_replicate]; omega, by simp [StM.fresh], by simp [StM.fresh], fun g hg => by simp [StM.fresh] at hg⟩
  ids := rfl
  room := by simp [StM.fresh, leftSum, spNeed]
  blocks := fresh_len B
  si := ⟨fun g hg => by simp [StM.fresh] at hg, fun id _ => rfl, rfl, rfl, by simp [StM.fresh, leftSum], fun g hg => by simp [StM.fresh] at hg, by simp [StM.fresh], rfl, fresh_told B⟩
  clock := rfl
  lo := rfl
theorem spI_sub {c : Int} {R : List Int} {lo B j : Nat} {s : StM} (h : SpI c R lo B j s) (hj : j < 12) (hB : spNeed c (j + 1) ≤ B) :
    (spSub c s (j + 1)).inv ∧ (spSub c s (j + 1)).fine (100000 - 100 * j) ∧ (spSub c s (j + 1)).sagas.map (·.id) = (List.range (j + 1)).map (fun i => ((i + 1 : Nat) : Int)) ∧
    ((spSub c s (j + 1)).j.en : Int) + leftSum (spSub c s (j + 1)).sagas ≤ 1 + (spNeed c (j + 1) - 4) ∧ (spSub c s (j + 1)).d.blocks.length = B ∧ SI R (11 * ((j + 1 : Nat) : Int)) (spSub c s (j + 1)) := by
  have hN := spN_range c (j + 1)
  have hw : wholeB ((j + 1 : Nat) : Int) (kSteps ((j + 1 : Nat) : Int) (spN c (j + 1))) = true := kSteps_whole _ _ (by omega) (by omega)
  obtain ⟨i1, i2⟩ := submit_inv (id := ((j + 1 : Nat) : Int)) (l := kSteps ((j + 1 : Nat) : Int) (spN c (j + 1))) h.inv h.fine hw (spI_new h) (spI_room h hB)
  have hlt : ∀ x ∈ s.sagas, x.id < ((j + 1 : Nat) : Int) := by
    intro x hx
    have : x.id ∈ s.sagas.map (·.id) := List.mem_map.2 ⟨x, hx, rfl⟩
    rw [h.ids, List.mem_map] at this
    obtain ⟨i, hi, e2⟩ := this
    rw [List.mem_range] at hi
    omega
  have hins : (spSub c s (j + 1)).sagas = s.sagas ++ [SagaM.new ((j + 1 : Nat) : Int) (kSteps ((j + 1 : Nat) : Int) (spN c (j + 1)))] := sp_ins _ _ hlt
  have hsum : leftSum (spSub c s (j + 1)).sagas = (2 * (spN c (j + 1) : Int) - 1) + leftSum s.sagas := by
    show leftSum (insSaga _ _) = _
    rw [insSaga_sum, new_left, kSteps_len]
  have hen : ((spSub c s (j + 1)).j.en : Int) = s.j.en + 2 := by show ((s.j.en + 2 : Nat) : Int) = _; omega
  refine ⟨i1, i2, ?_, ?_, ?_, ?_⟩
  · rw [hins, List.map_append, h.ids, List.range_succ, List.map_append]; rfl
  · rw [hsum, hen]
    have := h.room
    simp only [spNeed]; omega
  · show ((settleD s.j s.d).append _ _ _).blocks.length = B
    rw [append_len, settle_len _ _ h.inv.pend, h.blocks]
  · have hs := h.si
    have hp : (spSub c s (j + 1)).p = s.p := rfl
    refine ⟨?_, ?_, by rw [hp]; exact hs.pl, by rw [hp]; exact hs.at_, ?_, ?_, hs.clk, hs.pz, ?_⟩
    · intro g hg
      rw [hins, List.mem_append, List.mem_singleton] at hg
      rw [hp]
      rcases hg with hg | rfl
      · exact hs.ag g hg
      · have hf : mineOf s.p.effs (SagaM.new ((j + 1 : Nat) : Int) (kSteps ((j + 1 : Nat) : Int) (spN c (j + 1)))).id = [] := hs.fresh ((j + 1 : Nat) : Int) (fun g hg e => by have := hlt g hg; omega)
        rw [hf]
        exact .inl ⟨rfl, 0, rfl, by show 0 < (kSteps _ _).length; rw [kSteps_len]; omega, .inl rfl⟩
    · intro id hid
      rw [hp]
      exact hs.fresh id (fun g hg => hid g (by rw [hins]; simp [hg]))
    · rw [hsum, hp]
      have := hs.sum
      omega
    · intro g hg
      rw [hins, List.mem_append, List.mem_singleton] at hg
      rcases hg with hg | rfl
      · exact hs.due g hg
      · have := hs.clk; show (0 : Int) ≤ s.clock + 1; omega
    · exact told_append _ _ _ _ (settle_quiet _ _ h.inv.quiet) (told_settle _ _ h.inv.quiet hs.told)
theorem spI_step {c : Int} {r : List Int} {lo B j : Nat} {s : StM} (hr : r.length ≤ 60) (h : SpI c (rest300 r) lo B j s) (hj : j < 12) (hB : spNeed c (j + 1) ≤ B) : SpI c (rest300 r) lo B (j + 1) (spSub c s (j + 1)).tick := by
  obtain ⟨i1, i2, i3, i4, i5, i6⟩ := spI_sub h hj hB
  have hlen : (spSub c s (j + 1)).sagas.length = j + 1 := by have := congrArg List.length i3; simpa using this
  have hck : (spSub c s (j + 1)).clock = (j : Int) := h.clock
  have hfm : ∀ m, m ≤ 100000 - 100 * j → (spSub c s (j + 1)).fine m := by
    intro m hm
    obtain ⟨b1, b2, b3, b4, b5, b6⟩ := i2
    exact ⟨by omega, by omega, b3, b4, by omega, b6⟩
  obtain ⟨t1, t2, t3, t4⟩ := tick_inv (m := 100000 - 100 * (j + 1)) i1 (hfm _ (by rw [hlen]; omega))
  obtain ⟨r1, r2⟩ := tick_room (m := 100000 - 100 * (j + 1)) i1 (hfm _ (by rw [hlen]; omega))
  have hsi := (si_tick (r := r) rfl hr i6 (by omega) i1 (hfm _ (by rw [hlen]; omega)) (by rw [hck]; omega)).1
  refine ⟨t1, t2, (tick_ids _).trans i3, by omega, r2.trans i5, hsi, by rw [t3, hck]; omega, (tick_lo _).trans h.lo⟩
theorem spI_all {c : Int} {r : List Int} {lo B : Nat} (hr : r.length ≤ 60) (hB0 : 1 ≤ B ∧ B ≤ 1000) (j : Nat) (hj : j ≤ 12) (hB : spNeed c j ≤ B) : SpI c (rest300 r) lo B j (spM c (StM.fresh B 1 ⟨[], [], rest300 r, 0, lo⟩) j) := by
  induction j with
  | zero => exact spI_zero c r lo B hr hB0
  | succ j ih =>
    have := spNeed_mono c j (j + 1) (by omega)
    exact spI_step hr (ih (by omega) (by omega)) (by omega) hB
/-- A hundred and twenty ticks later all have ended. -/
theorem spI_end {c : Int} {r : List Int} {lo B k : Nat} {s : StM} (hr : r.length ≤ 60) (h : SpI c (rest300 r) lo B k s) (hk : k ≤ 12) :
    SI (rest300 r) (11 * (k : Int)) (s.ticks 120) ∧ (∀ g ∈ (s.ticks 120).sagas, g.st = 3 ∨ g.st = 4) ∧ (s.ticks 120).inv ∧ (s.ticks 120).fine 10 ∧ (s.ticks 120).sagas.length = k ∧ (s.ticks 120).d.told = 0 := by
  have hlen := spI_len h
  have hfm : ∀ m, m ≤ 100000 - 100 * k → s.fine m := by
    intro m hm
    obtain ⟨b1, b2, b3, b4, b5, b6⟩ := h.fine
    exact ⟨by omega, by omega, b3, b4, by omega, b6⟩
  have hb : 120 * s.sagas.length ≤ 1440 := by rw [hlen]; omega
  obtain ⟨e1, e2⟩ := si_ends (r := r) rfl hr h.si (by omega) h.inv (hfm _ (by omega)) (by rw [h.clock]; omega)
  obtain ⟨t1, t2, _, t4⟩ := ticks_inv (m := 10) h.inv 120 (hfm _ (by omega))
  exact ⟨e1, e2, t1, t2, t4.trans hlen, e1.told⟩
end Go.Proofs.YtkafmfdipmhleaaGreatDoor

namespace Go.Proofs.YtkafmfdipmhleaaGreatDoor
open Go.RowKit Go.Maps

theorem nil_reply (g : SagaM) (p : PartM) (h : p.l = []) : g.reply p = 0 := by
  have hk : p.k = 0 := by simp [PartM.k, h]
  simp only [SagaM.reply, replyM, hk]
  cases p.knows g.call <;> simp
/-- Where a saga stands behind so many ticks. -/
def AtJ (j : Nat) (g : SagaM) : Prop := g.due = 0 ∧ (j < g.steps.length ∧ g.st = 1 ∧ g.step = (j : Int) + 1 ∨ g.steps.length ≤ j ∧ g.st = 3)
theorem pi_step {s : StM} {k j : Nat} {g : SagaM} (hi : s.inv) (hl : s.p.l = []) (hag : ∀ g ∈ s.sagas, Agree g.steps.length g.st g.step (mineOf s.p.effs g.id)) (hck : 0 ≤ s.clock) (hg : s.sagas[k]? = some g) (hat : AtJ j g) :
    (s.stepOne k).p.l = [] ∧ (∀ g ∈ (s.stepOne k).sagas, Agree g.steps.length g.st g.step (mineOf (s.stepOne k).p.effs g.id)) ∧ (∀ i, i ≠ k → (s.stepOne k).sagas[i]? = s.sagas[i]?) ∧
    ∃ g', (s.stepOne k).sagas[k]? = some g' ∧ AtJ (j + 1) g' ∧ g'.id = g.id ∧ g'.steps = g.steps := by
  have hmem : g ∈ s.sagas := List.mem_of_getElem? hg
  have hkl := (List.getElem?_eq_some_iff.1 hg).1
  cases hw : g.waits s.clock
  · have e : s.stepOne k = s := by simp only [StM.stepOne, hg, hw, if_true]
    rw [e]
    refine ⟨hl, hag, fun _ _ => rfl, g, hg, ?_, rfl, rfl⟩
    obtain ⟨h1, ⟨h2, h3, h4⟩ | ⟨h2, h3⟩⟩ := hat
    · exfalso
      simp only [SagaM.waits, Bool.and_eq_false_iff, decide_eq_false_iff_not] at hw
      omega
    · exact ⟨h1, .inr ⟨by omega, h3⟩⟩
  · have hst : g.st = 1 := by
      obtain ⟨h1, ⟨h2, h3, h4⟩ | ⟨h2, h3⟩⟩ := hat
      · exact h3
      · simp [SagaM.waits] at hw; omega
    have hr := nil_reply g s.p hl
    have hm : g.moves (g.reply s.p) = true := by rw [hr]; simp [SagaM.moves]
    obtain ⟨a1, a2, a3, a4⟩ := agree_ask g s.p (hag g hmem) (.inl hst)
    have e : s.stepOne k = { s with sagas := s.sagas.set k (g.moved (g.reply s.p)), j := ⟨s.j.epoch, s.j.en + 1, false⟩, d := (settleD s.j s.d).append s.j.epoch s.j.en [⟨4, 0, 0, g.id.toNat, (g.reply s.p).toNat, []⟩], p := s.p.ask g.call } := by
      simp [StM.stepOne, hg, hw, hm]
    have hcs : g.call.saga = g.id := rfl
    have hother : ∀ id, id ≠ g.id → mineOf (s.p.ask g.call).effs id = mineOf s.p.effs id := fun id hid => mine_other s.p g.call id (fun e => hid (e.symm.trans hcs))
    have hsteps : (g.moved (g.reply s.p)).steps = g.steps := by
      by_cases h1 : g.st = 1 <;> by_cases h2 : g.reply s.p = 0 <;> by_cases h3 : (g.steps.length : Int) < g.step + 1 <;> simp [SagaM.moved, SagaM.forward, SagaM.backward, h1, h2, h3]
    have hatm : AtJ (j + 1) (g.moved (g.reply s.p)) := by
      rw [hr]
      obtain ⟨h1, ⟨h2, h3, h4⟩ | ⟨h2, h3⟩⟩ := hat
      · by_cases h5 : (g.steps.length : Int) < g.step + 1
        · have e1 : g.moved 0 = { g with st := 3, step := 0, tries := 0, due := 0 } := by simp [SagaM.moved, SagaM.forward, h3, h5]
          rw [e1]
          exact ⟨rfl, .inr ⟨by simp only; omega, rfl⟩⟩
        · have e1 : g.moved 0 = { g with step := g.step + 1, tries := 0, due := 0 } := by simp [SagaM.moved, SagaM.forward, h3, h5]
          rw [e1]
          exact ⟨rfl, .inl ⟨by simp only; omega, h3, by simp only; omega⟩⟩
      · omega
    rw [e]
    refine ⟨hl, ?_, fun i hik => List.getElem?_set_ne (fun e => hik e.symm), g.moved (g.reply s.p), List.getElem?_set_self hkl, hatm, moved_id g _, hsteps⟩
    intro x hx
    obtain ⟨i, hi2⟩ := List.getElem?_of_mem hx
    by_cases e : i = k
    · subst e
      rw [List.getElem?_set_self hkl] at hi2
      cases hi2
      rw [hsteps, moved_id]; exact a2 hm
    · rw [List.getElem?_set_ne (fun h => e h.symm)] at hi2
      rw [hother x.id (ord_ne hi.ord hi2 hg e)]
      exact hag x (List.mem_of_getElem? hi2)
/-- All that holds behind so many ticks. -/
structure PI (j : Nat) (s : StM) : Prop where
  l : s.p.l = []
  ag : ∀ g ∈ s.sagas, Agree g.steps.length g.st g.step (mineOf s.p.effs g.id)
  at_ : ∀ g ∈ s.sagas, AtJ j g
  clk : 0 ≤ s.clock
theorem pi_tick {s : StM} {j : Nat} (h : PI j s) (hi : s.inv) (hf : s.fine s.sagas.length) : PI (j + 1) s.tick ∧ ∀ (i : Nat) (g : SagaM), s.sagas[i]? = some g → ∃ g', s.tick.sagas[i]? = some g' ∧ g'.id = g.id ∧ g'.steps = g.steps := by
  have key : ∀ n, n ≤ s.sagas.length → let t := (List.range n).foldl StM.stepOne { s with clock := s.clock + 1 }
      t.p.l = [] ∧ (∀ g ∈ t.sagas, Agree g.steps.length g.st g.step (mineOf t.p.effs g.id)) ∧ t.inv ∧ t.fine (s.sagas.length - n) ∧ t.clock = s.clock + 1 ∧ (∀ i, n ≤ i → t.sagas[i]? = s.sagas[i]?) ∧
      (∀ (i : Nat) (g : SagaM), i < n → s.sagas[i]? = some g → ∃ g', t.sagas[i]? = some g' ∧ AtJ (j + 1) g' ∧ g'.id = g.id ∧ g'.steps = g.steps) := by
    intro n
    induction n with
    | zero => intro _; exact ⟨h.l, h.ag, inv_clock hi _, hf, rfl, fun _ _ => rfl, fun i g hi => by omega⟩
    | succ n ih =>
      intro hn
      have ihn := ih (by omega)
      simp only [List.range_succ, List.foldl_append, List.foldl_cons, List.foldl_nil] at ihn ⊢
      generalize (List.range n).foldl StM.stepOne { s with clock := s.clock + 1 } = t at ihn ⊢
      obtain ⟨b1, b2, b3, b4, b5, b6, b7⟩ := ihn
      have hgn : t.sagas[n]? = some s.sagas[n] := (b6 n (Nat.le_refl _)).trans (List.getElem?_eq_getElem (by omega))
      obtain ⟨c1, c2, c3, c4⟩ := pi_step (k := n) (j := j) b3 b1 b2 (by have := h.clk; omega) hgn (h.at_ _ (List.getElem_mem _))
      obtain ⟨d1, d2, d3, _⟩ := stepOne_inv (k := n) (m := s.sagas.length - (n + 1)) b3 (by rw [show s.sagas.length - (n + 1) + 1 = s.sagas.length - n by omega]; exact b4)
      refine ⟨c1, c2, d1, d2, d3.trans b5, fun i hi2 => (c3 i (by omega)).trans (b6 i (by omega)), fun i g hin hg => ?_⟩
      by_cases e : i = n
      · subst e
        rw [List.getElem?_eq_getElem (by omega)] at hg
        cases hg
        exact c4
      · obtain ⟨g', e1, e2⟩ := b7 i g (by omega) hg
        exact ⟨g', (c3 i e).trans e1, e2⟩
  obtain ⟨k1, k2, _, _, k5, _, k7⟩ := key s.sagas.length (Nat.le_refl _)
  have hlen : s.tick.sagas.length = s.sagas.length := (tick_inv (m := 0) hi (by simpa using hf)).2.2.2
  refine ⟨⟨k1, k2, fun g hg => ?_, by have := h.clk; show 0 ≤ s.tick.clock; rw [show s.tick.clock = s.clock + 1 from k5]; omega⟩, fun i g hg => ?_⟩
  · obtain ⟨i, hi2⟩ := List.getElem?_of_mem hg
    have hil := (List.getElem?_eq_some_iff.1 hi2).1
    rw [hlen] at hil
    obtain ⟨g', e1, e2, _⟩ := k7 i _ hil (List.getElem?_eq_getElem hil)
    rw [show s.tick.sagas[i]? = some g' from e1] at hi2
    cases hi2
    exact e2
  · obtain ⟨g', e1, _, e3, e4⟩ := k7 i g (List.getElem?_eq_some_iff.1 hg).1 hg
    exact ⟨g', e1, e3, e4⟩
theorem pi_ticks {s : StM} (h : PI 0 s) (hi : s.inv) (t : Nat) (hf : s.fine (t * s.sagas.length)) : PI t (s.ticks t) ∧ ∀ (i : Nat) (g : SagaM), s.sagas[i]? = some g → ∃ g', (s.ticks t).sagas[i]? = some g' ∧ g'.id = g.id ∧ g'.steps = g.steps := by
  induction t with
  | zero => exact ⟨h, fun i g hg => ⟨g, hg, rfl, rfl⟩⟩
  | succ t ih =>
    have hf1 : s.fine (t * s.sagas.length) := hf.mono (Nat.mul_le_mul_right _ (by omega))
    obtain ⟨h1, h2⟩ := ih hf1
    obtain ⟨i1, i2, i3, i4⟩ := ticks_inv (m := s.sagas.length) hi t (by rw [Nat.add_mul, Nat.one_mul] at hf; rw [Nat.add_comm]; exact hf)
    obtain ⟨k1, k2⟩ := pi_tick h1 i1 (by rw [i4]; exact i2)
    refine ⟨k1, fun i g hg => ?_⟩
    obtain ⟨g1, e1, e2, e3⟩ := h2 i g hg
    obtain ⟨g2, f1, f2, f3⟩ := k2 i g1 e1
    exact ⟨g2, f1, f2.trans e2, f3.trans e3⟩
end Go.Proofs.YtkafmfdipmhleaaGreatDoor
