/-
  What is proved: contracts of the two functions that journal.Open is handed: a saga was taken, a saga moved. the contract of journal.Open, of a journal that holds records, on a disk that tells no errors. contracts of sagas.Open and plain.Open, of a journal that holds records, on a disk that tells no errors. the contract of plain.Told, of nil and of a fault. contracts of Open where it tells an error: no journal, a size or a pause that is none. how the statement Ends begins and ends. (No program in sight.) a short record, written and read again; torn; a block's first two sectors. (No program in sight.) what stands behind a journal's end; a journal on blocks; one record more. (No program in sight.) one saga's turn in a Tick, on whatever disk. the contract of a Tick, on whatever disk. a journal on a disk, with a write that was not flushed, and behind a failure of power; a record more. (No program in sight.) what the turns of a Tick, and a Submit, do to the journal, whatever the disk tells. (No program in sight.)
-/
import Derived.Test.YtkafmfdipmhleaaGreatDoorRy5
import Derived.Deep.CutBlock

namespace Go.Proofs.YtkafmfdipmhleaaGreatDoor
open Go.RowKit Go.Maps
/-- A map is updated: as one step of a region that draws. -/
theorem step_mapUpdate {H : Type} {P : Program} (w : World) {ops : Array Oper} {o : Oper} {a : Act} {K' : Act → World → Prop} {Q : Exit → Act → World → Prop} {E : Prop}
    (hg : o.guard = none) (m x v : Operand) (t : TypeId) (hop : o.op = Op.mapUpdate t m x v)
    (k e : TypeId) (K : Keyed P k) (ht : P.underlying t = some (.map k e)) (R : Value → Option (DataW H × List MemPlace)) (b n : Nat) (D : DataW H)
    (hm : a.eval m = .map (some b)) (hown : w.ownsMap P k R b n D) (hn : n < maxLen) (key val : Value) (kl : Lit) (hx : a.eval x = key) (hv : a.eval v = val) (hkey : keyOf P k key = some kl)
    (d : DataW H) (ps : List MemPlace) (hval : R val = some (d, ps))
    (hK : ∀ w', w'.ownsMap P k R b (n + 1) (D.put kl d) → w.grownBy w' (some b) → K' (a.put o.dst undef) w') :
    if Region.wanted o (yielded ops a.tmps) = true then Oper.wp P o a w K' Q else E := by
  have hw : Region.wanted o (yielded ops a.tmps) = true := by simp [Region.wanted, hg]
  rw [if_pos hw]
  obtain ⟨w', hrun, r1, r2⟩ := hown.update K ht hn hkey hval
  unfold Oper.wp
  simp [execOp, hop, hm, hx, hv, hrun, Result.andThen]
  exact hK w' r1 r2
/-- The engine while its journal is being read: its map. -/
structure RdAt (w : World) (C xb mb : Nat) (bl : List Nat) (l : List SagaM) : Prop where
  cap : w.heap[C]? = some (.cells #[.pointer (some ⟨xb, 0, none⟩)] 28 (0, 0))
  eng : ∃ c0 c2 c3 c4 c5, w.heap[xb]? = some (.cells #[c0, .map (some mb), c2, c3, c4, c5] 79 (0, 0))
  mp : w.ownsMap Tryz.prog 3 ptrR mb l.length (dataOf (ilOf l bl))
  len : bl.length = l.length
  sg : ∀ (i : Nat) (g : SagaM) (b : Nat), l[i]? = some g → bl[i]? = some b → SagaAt w b g
  nd : bl.Nodup
def TakenPost (w : World) (C xb mb : Nat) (bl : List Nat) (l : List SagaM) (g : SagaM) (e : Ending) (w' : World) : Prop :=
  e = .returned (.tuple #[]) ∧ (∃ bl', RdAt w' C xb mb bl' (insSaga g l) ∧ ∀ b ∈ bl', b ∈ bl ∨ w.heap.size ≤ b) ∧ Fr (· = mb) w w'
set_option maxRecDepth 100000 in
set_option maxHeartbeats 4000000 in
theorem taken_calls {w : World} {C xb mb : Nat} {bl : List Nat} {l : List SagaM} {id : Int} {st : List (ByteArray × ByteArray)} {v : Value} (h : RdAt w C xb mb bl l) (hv : StepsAt w v st) (hl : 1 ≤ st.length ∧ st.length ≤ 1000) (hid : 1 ≤ id ∧ id ≤ 1000) (hn : ∀ x ∈ l, x.id ≠ id) (hlen : l.length ≤ 1000) :
    Calls Tryz.prog 81 #[.int .i64 id, v, .pointer (some ⟨C, 0, none⟩)] w (TakenPost w C xb mb bl l (SagaM.new id st)) := by
  obtain ⟨c0, c2, c3, c4, c5, he⟩ := h.eng
  have hC : C ≠ mb ∧ xb ≠ mb := by
    obtain ⟨es, clock, hb, _⟩ := h.mp
    exact ⟨ne_of_kind h.cap hb (by simp [kindOf]), ne_of_kind he hb (by simp [kindOf])⟩
  have HN := Lib.hid (New_calls (w := w.drew) id st v (hv.frame ((Fr.refl (fun _ => False) w).drew) (fun _ f => f.elim)) hl)
  have HK := Lib.hid (show ∀ w' : World, Fr (· = mb) w.drew w' → w'.cell? ⟨C, 0, none⟩ = some (.pointer (some ⟨xb, 0, none⟩)) ∧ w'.cell? ⟨xb, 1, none⟩ = some (.map (some mb)) from by
    intro w' hf
    have h1 := hf.get (w := w.drew) h.cap hC.1
    have h2 := hf.get (w := w.drew) he hC.2
    exact ⟨by rw [cellv, h1]; rfl, by rw [cellv, h2]; rfl⟩)
  have hk0 := HK.out w.drew (Fr.refl _ _)
  have HM := Lib.hid (fun (w2 : World) (hf : New w.drew w2) => map_keepK h.mp (((Fr.refl (fun _ => False) w).drew.trans hf).toK (K := []) (fun _ _ f _ => f.elim)) (by simp))
  have Hkey := Lib.hid (keyI id (by omega))
  have H := Lib.hid h
  have Hn := Lib.hid hn
  have HidB := Lib.hid hid
  have Hlen : Hid (l.length < maxLen) := by show _ < maxLen; unfold maxLen; omega
  clear h he hC hv hl hid hn hlen
  go_enter Tryz.func81, Tryz.ntmps81
  go_wp2_with fail
  refine wp_region_noPanic ?_
  refine wp_region_held_drew (S := (fun w' => w'.cell? ⟨C, 0, none⟩ = some (.pointer (some ⟨xb, 0, none⟩)) ∧ w'.cell? ⟨xb, 1, none⟩ = some (.map (some mb)))) (by kernel_rfl) (HK.out _ (Fr.refl _ _)) (fun hHeld => ?_)
  refine wpAnyH_take (i := 0) (v := ?vd0) rfl (by kernel_rfl) (by kernel_rfl) (by kernel_rfl) (fun _ _ _ h => h) (Or.inl ⟨by rfl, ?yd0⟩) hHeld ?rd0
  case yd0 => intro w hSw; (try dsimp only at hSw); go_simp; (try with_reducible rfl)
  simp only [List.getElem_toArray, List.getElem_cons_zero, List.getElem_cons_succ, Act.put, List.setIfInBounds_toArray, List.set_cons_zero, List.set_cons_succ]
  refine wpAnyH_take (i := 1) (v := ?vd1) rfl (by kernel_rfl) (by kernel_rfl) (by kernel_rfl) (fun _ _ _ h => h) (Or.inl ⟨by rfl, ?yd1⟩) hHeld ?rd1
  case yd1 => intro w hSw; (try dsimp only at hSw); go_simp; (try with_reducible rfl)
  simp only [List.getElem_toArray, List.getElem_cons_zero, List.getElem_cons_succ, Act.put, List.setIfInBounds_toArray, List.set_cons_zero, List.set_cons_succ]
  refine wpAnyH_take (i := 2) (v := ?vd2) rfl (by kernel_rfl) (by kernel_rfl) (by kernel_rfl) (fun _ _ _ h => h) (Or.inl ⟨by rfl, ?yd2⟩) hHeld ?rd2
  case yd2 => intro w hSw; (try dsimp only at hSw); go_simp; (try with_reducible rfl)
  simp only [List.getElem_toArray, List.getElem_cons_zero, List.getElem_cons_succ, Act.put, List.setIfInBounds_toArray, List.set_cons_zero, List.set_cons_succ]
  refine wpAnyH_take (i := 3) (v := ?vd3) rfl (by kernel_rfl) (by kernel_rfl) (by kernel_rfl) (fun _ _ _ h => h) (Or.inl ⟨by rfl, ?yd3⟩) hHeld ?rd3
  case yd3 => intro w hSw; (try dsimp only at hSw); go_simp; (try with_reducible rfl)
  simp only [List.getElem_toArray, List.getElem_cons_zero, List.getElem_cons_succ, Act.put, List.setIfInBounds_toArray, List.set_cons_zero, List.set_cons_succ]
  refine wpAnyH_take (i := 4) (v := ?vd4) rfl (by kernel_rfl) (by kernel_rfl) (by kernel_rfl) (fun _ _ _ h => h) (Or.inl ⟨by rfl, ?yd4⟩) hHeld ?rd4
  case yd4 => intro w hSw; (try dsimp only at hSw); go_simp; (try with_reducible rfl)
  simp only [List.getElem_toArray, List.getElem_cons_zero, List.getElem_cons_succ, Act.put, List.setIfInBounds_toArray, List.set_cons_zero, List.set_cons_succ]
  refine wpAnyH_take (i := 5) (v := ?vd5) rfl (by kernel_rfl) (by kernel_rfl) (by kernel_rfl) (fun _ _ _ h => h) (Or.inl ⟨by rfl, ?yd5⟩) hHeld ?rd5
  case yd5 => intro w hSw; (try dsimp only at hSw); go_simp; (try with_reducible rfl)
  simp only [List.getElem_toArray, List.getElem_cons_zero, List.getElem_cons_succ, Act.put, List.setIfInBounds_toArray, List.set_cons_zero, List.set_cons_succ]
  refine wpAnyH_take (i := 6) (v := ?vd6) rfl (by kernel_rfl) (by kernel_rfl) (by kernel_rfl) (fun _ _ _ h => h) (Or.inl ⟨by rfl, ?yd6⟩) hHeld ?rd6
  case yd6 => intro w hSw; (try dsimp only at hSw); go_simp; (try with_reducible rfl)
  simp only [List.getElem_toArray, List.getElem_cons_zero, List.getElem_cons_succ, Act.put, List.setIfInBounds_toArray, List.set_cons_zero, List.set_cons_succ]
  refine wpAnyH_ready (rs := [7]) (by kernel_rfl) (by simp) ?_
  refine AllReadyH.cons rfl (fun K hK => ?_) AllReadyH.nil
  go_simp
  go_at_call 43
  refine Calls.mono HN.out ?_
  rintro e w2 ⟨sb, hsb, rfl, hs2, hf2⟩
  refine Shut.out hK _ _ (HK.out _ (hf2.mono (fun _ _ f => f.elim))) ?_
  clear hK K
  intro hHeld2
  clear hHeld
  try simp only [List.getElem_toArray, List.getElem_cons_zero, List.getElem_cons_succ, Act.put, List.setIfInBounds_toArray, List.set_cons_zero, List.set_cons_succ]
  refine wpAnyH_ready (rs := [8]) (by kernel_rfl) (by simp) ?_
  refine AllReadyH.cons rfl (fun K hK => ?_) AllReadyH.nil
  refine step_mapUpdate _ rfl _ _ _ 76 rfl 3 82 Tryz.keyed Tryz.underlying76 ptrR mb l.length _ rfl (HM.out _ hf2) Hlen.out (.int .i64 id) (.pointer (some ⟨sb, 0, none⟩)) _ rfl rfl Hkey.out (.lit (.int .i64 sb)) [] rfl ?_
  intro w3 hown3 hg3
  refine Shut.out hK _ _ (HK.out _ ((hf2.mono (fun _ _ f => f.elim)).trans ((Fr.ofGrown hg3).mono (fun _ _ e => by cases e; rfl)))) ?_
  clear hK K
  intro hHeld3
  clear hHeld2
  try simp only [List.getElem_toArray, List.getElem_cons_zero, List.getElem_cons_succ, Act.put, List.setIfInBounds_toArray, List.set_cons_zero, List.set_cons_succ]
  refine wpAnyH_done (by kernel_rfl) ?_ _
  refine NoPanic.normal ?_
  go_end0
  have h := H.out
  obtain ⟨es, clock, hmb, _⟩ := h.mp
  have hmb2 := hf2.get (w := w.drew) hmb (fun f => f)
  have hN2 : New w w2 := (Fr.refl (fun _ => False) w).drew.trans hf2
  have hk : FrK [0] w w3 := (hN2.toK (fun _ _ f _ => f.elim)).trans ((Fr.ofGrown hg3).toK (by
    rintro x o hx ho
    cases hx
    rw [hmb2] at ho; cases ho; simp [kindOf]))
  have hk3 : FrK [0] w2 w3 := (Fr.ofGrown hg3).toK (by
    rintro x o hx ho
    cases hx
    rw [hmb2] at ho; cases ho; simp [kindOf])
  obtain ⟨c0, c2, c3, c4, c5, he⟩ := h.eng
  refine ⟨rfl, ⟨insBl id sb l bl, ⟨hk.block _ _ h.cap (by simp [kindOf]), ⟨c0, c2, c3, c4, c5, hk.block _ _ he (by simp [kindOf])⟩, ?_, ?_, ?_, ?_⟩, fun b hb => (insBl_mem hb).elim (fun e => .inr (by rw [e]; exact hsb)) .inl⟩, (hN2.mono (fun _ _ f => f.elim)).trans ((Fr.ofGrown hg3).mono (fun _ _ e => by cases e; rfl))⟩
  · have h0 := hown3
    rw [dataOf_put (ilOf l bl) id sb (il_none l bl id Hn.out)] at h0
    have h1 := insIL_of (SagaM.new id st) sb l bl h.len
    rw [insSaga_len, show insBl id sb l bl = insBl (SagaM.new id st).id sb l bl from rfl, h1]
    exact h0
  · rw [insSaga_len]
    exact insBl_len id sb l bl h.len
  · intro i g b hg hb
    rcases insSaga_at (g := SagaM.new id st) h.len i hg hb with ⟨rfl, rfl⟩ | ⟨j, h1, h2⟩
    · exact hs2.keepK hk3 (by decide) (by decide)
    · exact (h.sg j g b h1 h2).keepK hk (by decide) (by decide)
  · refine insBl_nd h.nd (fun hm => ?_)
    obtain ⟨i, hi⟩ := List.getElem?_of_mem hm
    have hil := (List.getElem?_eq_some_iff.1 hi).1
    rw [h.len] at hil
    obtain ⟨_, e, _⟩ := h.sg i _ sb (List.getElem?_eq_getElem hil) hi
    have := lt_of_hp e
    have : w.heap.size ≤ sb := hsb
    omega
set_option maxRecDepth 100000 in
set_option maxHeartbeats 4000000 in
theorem moved_calls {w : World} {C xb mb i : Nat} {bl : List Nat} {l : List SagaM} {g : SagaM} {rp : Int} (h : RdAt w C xb mb bl l) (ho : l.Pairwise (fun a b => a.id < b.id)) (hg : l[i]? = some g) (hok : g.ok) (hst : g.st = 1 ∨ g.st = 2) :
    Calls Tryz.prog 82 #[.int .i64 g.id, .int .i64 rp, .pointer (some ⟨C, 0, none⟩)] w fun e w' => e = .returned (.tuple #[]) ∧ RdAt w' C xb mb bl (l.set i (g.moved rp)) ∧ Fr (fun k => k ∈ bl) w w' := by
  obtain ⟨c0, c2, c3, c4, c5, he⟩ := h.eng
  obtain ⟨b, hb, hbo⟩ := blk_of l bl h.len ho i g hg
  have hlk := look_some h.mp g.id (by have := hok.1; have := hok.2.1; omega) hbo
  have hcap := h.cap
  have hsm := hok.2.2.1
  have hstep : 1 ≤ g.step ∧ g.step ≤ 100 := by
    obtain ⟨_, _, h3, _, h5⟩ := hok
    have := h3.2.1
    omega
  have HM := Lib.hid (Move_calls (h.sg i g b hg hb) hst hstep rp)
  have H := Lib.hid h
  have Hg := Lib.hid hg
  have Hb := Lib.hid hb
  have He := Lib.hid he
  clear h ho hok hst hbo hsm hstep hg hb
  have hcv := cellv w
  go_enter Tryz.func82, Tryz.ntmps82
  go_wp2_with (first
    | (go_at_call 55; refine Calls.mono HM.out ?_; rintro e w2 ⟨rfl, hf2, hs2⟩)
    | fail)
  go_end0
  have h := H.out
  have hkk : FrK [89] w w2 := hf2.toK (by
    rintro k o rfl ho
    obtain ⟨_, e, _⟩ := h.sg i g _ Hg.out Hb.out
    rw [e] at ho; cases ho; simp [kindOf])
  have hil := (List.getElem?_eq_some_iff.1 Hg.out).1
  refine ⟨rfl, ⟨hkk.block _ _ h.cap (by simp [kindOf]), ⟨c0, c2, c3, c4, c5, hkk.block _ _ He.out (by simp [kindOf])⟩, ?_, by rw [List.length_set]; exact h.len, ?_, h.nd⟩, hf2.mono (fun k _ e => by rw [e]; exact List.mem_of_getElem? Hb.out)⟩
  · rw [List.length_set, il_set l bl i g (g.moved rp) Hg.out (moved_id g rp)]
    exact map_keepK h.mp hkk (by decide)
  · exact sgs_set h.sg h.nd Hb.out hil hf2 hs2
end Go.Proofs.YtkafmfdipmhleaaGreatDoor

namespace Go.Proofs.YtkafmfdipmhleaaGreatDoor
open Go.RowKit Go.Maps
/-- What a journal tells: a saga was taken; one moved. -/
inductive Ev where
  | taken (id : Int) (l : List (ByteArray × ByteArray))
  | moved (id : Int) (rp : Int)
def Ev.len : Ev → Nat
  | .taken _ _ => 2
  | .moved _ _ => 1
def evLen (l : List Ev) : Nat := (l.map Ev.len).sum
def applyEv (l : List SagaM) : Ev → List SagaM
  | .taken id st => insSaga (SagaM.new id st) l
  | .moved id rp => l.map (fun g => if g.id = id then g.moved rp else g)
def EvOk (l : List SagaM) : Ev → Prop
  | .taken id st => (∀ x ∈ l, x.id ≠ id) ∧ 1 ≤ id ∧ id ≤ 1000 ∧ smallSteps st
  | .moved id rp => 0 ≤ rp ∧ ∃ g ∈ l, g.id = id ∧ (g.st = 1 ∨ g.st = 2)
def EvsOk (l : List SagaM) : List Ev → Prop
  | [] => True
  | e :: r => EvOk l e ∧ EvsOk (applyEv l e) r
def EvOn (d : DiskM) (ep i : Nat) : Ev → Prop
  | .taken id st => ∃ r t : RecM, parseM (d.look i) = some (r, true) ∧ r.epoch = ep ∧ r.index = i ∧ r.kind = 2 ∧ r.saga = id.toNat ∧ r.steps = st ∧
      parseM (d.look (i + 1)) = some (t, true) ∧ t.epoch = ep ∧ t.index = i + 1 ∧ t.kind = 3 ∧ t.saga = id.toNat
  | .moved id rp => ∃ r : RecM, parseM (d.look i) = some (r, true) ∧ r.epoch = ep ∧ r.index = i ∧ r.kind = 4 ∧ r.saga = id.toNat ∧ r.reply = rp.toNat
def EvsOn (d : DiskM) (ep : Nat) (i : Nat) : List Ev → Prop
  | [] => True
  | e :: r => EvOn d ep i e ∧ EvsOn d ep (i + e.len) r
/-- Where a journal ends. -/
def JStop (d : DiskM) (ep i : Nat) : Prop :=
  ∃ r ok, parseM (d.look i) = some (r, ok) ∧ (atOk ⟨ep, i, true⟩ i r ok = false ∨ (r.kind ≠ 4 ∧ r.kind ≠ 2) ∨
    (r.kind = 2 ∧ i + 1 < d.blocks.length ∧ ∃ t ok', parseM (d.look (i + 1)) = some (t, ok') ∧ (atOk ⟨ep, i, true⟩ (i + 1) t ok' = false ∨ t.kind ≠ 3 ∨ t.saga ≠ r.saga)))
def DiskM.reads (d : DiskM) (m : Nat) : DiskM := { d with calls := d.calls + m }
theorem reads_count {d : DiskM} (hq : d.quiet) (hc : 0 ≤ d.calls ∧ d.calls < 2 ^ 40) (m : Nat) (hm : m ≤ 10000) : (d.reads m).count = d.reads (m + 1) := by
  have hq' : (d.reads m).quiet := hq
  have hb := hq'.bad
  have hw : wrap64 (d.calls + (m : Int) + 1) = d.calls + (m : Int) + 1 := wrap_in _ (by omega)
  unfold DiskM.count
  rw [hb]
  simp only [DiskM.reads, hw]
  congr 1
  omega
/-- Where a journal stands, as its block in memory tells it. -/
def enOf (w : World) (jb : Nat) : Nat := match w.cell? ⟨jb, 2, none⟩ with | some (.int _ q) => q.toNat | _ => 0
theorem wrap_one (n : Nat) (h : n ≤ 2000) : wrap64 ((n : Int) + 1) = ((n + 1 : Nat) : Int) := by
  have := wrap_in ((n : Int) + 1) (by omega)
  omega
theorem wrap_two' (n m : Nat) (hm : m = n + 2) (h : n ≤ 2000) : wrap64 ((n : Int) + 2) = (m : Int) := by
  have := wrap_in ((n : Int) + 2) (by omega)
  omega
theorem evLen_take (l : List Ev) (k : Nat) (e : Ev) (h : l[k]? = some e) : evLen (l.take (k + 1)) = evLen (l.take k) + e.len ∧ evLen (l.take k) + e.len ≤ evLen l := by
  have hk := (List.getElem?_eq_some_iff.1 h).1
  have he : l[k] = e := (List.getElem?_eq_some_iff.1 h).2
  have h1 : evLen (l.take (k + 1)) = evLen (l.take k) + e.len := by
    rw [List.take_succ_eq_append_getElem hk, he]; simp [evLen]
  refine ⟨h1, ?_⟩
  rw [← h1]
  have h2 : evLen l = evLen (l.take (k + 1)) + evLen (l.drop (k + 1)) := by
    unfold evLen
    rw [← List.sum_append_nat, ← List.map_append, List.take_append_drop]
  omega
theorem evLen_len (l : List Ev) : l.length ≤ evLen l := by
  induction l with
  | nil => simp [evLen]
  | cons a l ih => cases a <;> simp [evLen, Ev.len] at ih ⊢ <;> omega
theorem evsOn_at {d : DiskM} {ep i : Nat} {l : List Ev} (h : EvsOn d ep i l) (k : Nat) (e : Ev) (hk : l[k]? = some e) : EvOn d ep (i + evLen (l.take k)) e := by
  induction l generalizing i k with
  | nil => simp at hk
  | cons a l ih =>
    cases k with
    | zero => simp at hk; subst hk; exact h.1
    | succ k =>
      have := ih h.2 k (by simpa using hk)
      rw [List.take_succ_cons, show evLen (a :: l.take k) = a.len + evLen (l.take k) by simp [evLen], ← Nat.add_assoc]
      exact this
theorem evsOk_at {m : List SagaM} {l : List Ev} (h : EvsOk m l) (k : Nat) (e : Ev) (hk : l[k]? = some e) : EvOk ((l.take k).foldl applyEv m) e ∧ (l.take (k + 1)).foldl applyEv m = applyEv ((l.take k).foldl applyEv m) e := by
  induction l generalizing m k with
  | nil => simp at hk
  | cons a l ih =>
    cases k with
    | zero => simp at hk; subst hk; exact ⟨h.1, rfl⟩
    | succ k => exact ih h.2 k (by simpa using hk)
/-- The sagas of a journal. -/
structure SgsOk (l : List SagaM) : Prop where
  ok : ∀ g ∈ l, g.ok
  ord : l.Pairwise (fun a b => a.id < b.id)
theorem SgsOk.nil : SgsOk [] := ⟨fun _ h => by simp at h, List.Pairwise.nil⟩
theorem SgsOk.len {l : List SagaM} (h : SgsOk l) : l.length ≤ 1000 := by
  have := len_of_ord l 0 1000 h.ord (fun g hg => by have := h.ok g hg; exact ⟨by have := this.1; omega, this.2.1⟩) (by omega)
  omega
theorem map_if_set {l : List SagaM} (h : l.Pairwise (fun a b => a.id < b.id)) {i : Nat} {g : SagaM} (hg : l[i]? = some g) (rp : Int) : l.map (fun x => if x.id = g.id then x.moved rp else x) = l.set i (g.moved rp) := by
  have hi := (List.getElem?_eq_some_iff.1 hg).1
  apply List.ext_getElem?
  intro j
  rw [List.getElem?_map]
  by_cases e : j = i
  · subst e
    rw [List.getElem?_set_self hi, hg]; simp
  · rw [List.getElem?_set_ne (fun h => e h.symm)]
    cases hj : l[j]? with
    | none => rfl
    | some x =>
      obtain ⟨p1, q1⟩ := List.getElem?_eq_some_iff.1 hj
      obtain ⟨p2, q2⟩ := List.getElem?_eq_some_iff.1 hg
      have hpw := List.pairwise_iff_getElem.1 h
      have : x.id ≠ g.id := by
        rcases Nat.lt_or_ge j i with h3 | h3
        · have := hpw j i p1 p2 h3; rw [q1, q2] at this; omega
        · have := hpw i j p2 p1 (by omega); rw [q1, q2] at this; omega
      simp [this]
theorem SgsOk.ev {l : List SagaM} {e : Ev} (h : SgsOk l) (he : EvOk l e) : SgsOk (applyEv l e) := by
  cases e with
  | taken id st =>
    obtain ⟨h1, h2, h3, h4⟩ := he
    refine ⟨fun g hg => ?_, insSaga_ord _ _ h.ord h1⟩
    rcases insSaga_mem.1 hg with rfl | hg
    · exact ⟨h2, h3, h4, by simp [SagaM.new], .inl ⟨.inl rfl, by simp [SagaM.new], by have := h4.1; simp only [SagaM.new]; omega⟩⟩
    · exact h.ok g hg
  | moved id rp =>
    obtain ⟨_, g, hg, rfl, hst⟩ := he
    obtain ⟨i, hi⟩ := List.getElem?_of_mem hg
    show SgsOk (l.map _)
    rw [map_if_set h.ord hi rp]
    refine ⟨fun x hx => ?_, ord_set h.ord hi (moved_id g rp)⟩
    rcases mem_set_cases hx with rfl | hx
    · exact ((h.ok g hg).moved hst rp).1
    · exact h.ok x hx
theorem sgsOk_take {l : List Ev} (h : EvsOk [] l) (k : Nat) : SgsOk ((l.take k).foldl applyEv []) := by
  have key : ∀ (l : List Ev) (m : List SagaM) (k : Nat), SgsOk m → EvsOk m l → SgsOk ((l.take k).foldl applyEv m) := by
    intro l
    induction l with
    | nil => intro m k hm _; simpa using hm
    | cons a l ih =>
      intro m k hm ho
      cases k with
      | zero => exact hm
      | succ k => exact ih _ k (hm.ev ho.1) ho.2
  exact key l [] k SgsOk.nil h
theorem RdAt.keepK {w w' : World} {C xb mb : Nat} {bl : List Nat} {l : List SagaM} {K : List Nat} (h : RdAt w C xb mb bl l) (hf : FrK K w w') (h1 : 29 ∉ K) (h2 : 80 ∉ K) (h3 : 0 ∉ K) (h4 : 89 ∉ K) (h5 : 55 ∉ K) : RdAt w' C xb mb bl l := by
  obtain ⟨c0, c2, c3, c4, c5, he⟩ := h.eng
  exact ⟨hf.block _ _ h.cap h1, ⟨c0, c2, c3, c4, c5, hf.block _ _ he h2⟩, map_keepK h.mp hf h3, h.len, sgs_keepK h.sg hf h4 h5, h.nd⟩
theorem enOf_jn {w : World} {jb db : Nat} {j : JnM} (h : JnAt w jb db j) : enOf w jb = j.en := by
  unfold JnAt jnCells at h
  unfold enOf
  rw [cellv, h]
  simp [cellOf]
def jOpnPost (w : World) (db bb C xb mb : Nat) (d : DiskM) (j : JnM) (l : List SagaM) (e : Ending) (w' : World) : Prop :=
  ∃ jb, e = .returned (.tuple #[.pointer (some ⟨jb, 0, none⟩), .nilIface]) ∧ w.heap.size ≤ jb ∧ JnAt w' jb db j ∧ (∃ m, m ≤ 10000 ∧ DiskAt w' db bb (d.reads m)) ∧
    (∃ bl, RdAt w' C xb mb bl l ∧ ∀ b ∈ bl, w.heap.size ≤ b) ∧ Fr (fun k => k = db ∨ k = mb) w w'
set_option maxRecDepth 100000 in
set_option maxHeartbeats 4000000 in
theorem jOpen_calls {w : World} {db bb C xb mb : Nat} {d : DiskM} (h : DiskAt w db bb d) (hq : d.quiet) (hc : 0 ≤ d.calls ∧ d.calls < 2 ^ 40) (hb : d.blocks.length ≤ 1000) (r0 : RecM) (h0 : parseM (d.look 0) = some (r0, true)) (hk : r0.kind = 1) (evs : List Ev)
    (hev : EvsOn d r0.epoch 1 evs) (hst : JStop d r0.epoch (1 + evLen evs)) (hok : EvsOk [] evs) (hel : evLen evs + 1 < d.blocks.length) (hR : RdAt w C xb mb [] []) :
    Calls Tryz.prog 80 #[.iface 27 (.pointer (some ⟨db, 0, none⟩)), .func (.func 81) #[] #[.pointer (some ⟨C, 0, none⟩)], .func (.func 82) #[] #[.pointer (some ⟨C, 0, none⟩)]] w (jOpnPost w db bb C xb mb d ⟨r0.epoch, 1 + evLen evs, true⟩ (evs.foldl applyEv [])) := by
  have hmf : ∀ (fn : Fn) (first cap : Array Value) (w : World), (Instr.makeFunc fn first cap).run Tryz.prog w = .ok (.func fn first cap) w := fun _ _ _ _ => rfl
  have hlk := DiskM.look_length h.wf (show 0 < d.blocks.length by omega)
  have hdl := disk_lt h
  have Hq := Lib.hid hq
  have H0 := Lib.hid h0
  have Hk := Lib.hid hk
  have Hc := Lib.hid hc
  have Hb := Lib.hid hb
  have Hev := Lib.hid hev
  have Hst := Lib.hid hst
  have Hok := Lib.hid hok
  have Hel := Lib.hid hel
  have HR := Lib.hid hR
  have Hl : Hid (1 < d.blocks.length) := by show _ < _; omega
  have Hlk := Lib.hid hlk
  have Hd := Lib.hid h
  have Hdl := Lib.hid hdl
  clear h hq h0 hk hc hb hev hst hok hel hR hlk hdl
  go_enter_defers Tryz.func80, Tryz.ntmps80
  go_upto_region 1 with fail
  apply wp_scope_straight
  go_upto_region 3 with fail
  have hN1 : New w ((w.alloc (.cells #[.nilIface] 32)).alloc (.cells #[.iface 27 (.pointer (some ⟨db, 0, none⟩)), .int .u32 0, .int .i64 1, .bool true] 132)) := ((Fr.refl _ w).alloc _).alloc _
  have he1 := heap_alloc_keep (.cells #[.iface 27 (.pointer (some ⟨db, 0, none⟩)), .int .u32 0, .int .i64 1, .bool true] 132) (heap_alloc_new w (.cells #[.nilIface] 32))
  have hj1 := heap_alloc_new (w.alloc (.cells #[.nilIface] 32)) (.cells #[.iface 27 (.pointer (some ⟨db, 0, none⟩)), .int .u32 0, .int .i64 1, .bool true] 132)
  rw [sz_alloc] at hj1
  have hsz1 : ((w.alloc (.cells #[.nilIface] 32)).alloc (.cells #[.iface 27 (.pointer (some ⟨db, 0, none⟩)), .int .u32 0, .int .i64 1, .bool true] 132)).heap.size = w.heap.size + 1 + 1 := by rw [sz_alloc, sz_alloc]
  have HN1 := Lib.hid hN1
  have HE1 := Lib.hid he1
  have HJ1 := Lib.hid hj1
  have Hsz1 := Lib.hid hsz1
  clear hN1 he1 hsz1
  generalize ((w.alloc (.cells #[.nilIface] 32)).alloc (.cells #[.iface 27 (.pointer (some ⟨db, 0, none⟩)), .int .u32 0, .int .i64 1, .bool true] 132)) = W1 at HN1 HE1 HJ1 Hsz1 hj1 ⊢
  have Hd1 := Lib.hid (Hd.out.new HN1.out)
  have hcv := cellv W1
  go_upto_region 4 with (first
    | (go_at_call 105; refine Calls.mono (read_quiet Hd1.out Hq.out 0 (by have := Hl.out; omega)) ?_; rintro e w2 ⟨g, hg, rfl, hgc, hd2, hf2⟩)
    | (go_at_call 104; refine Calls.mono (parse_calls w2 g _ 5 (d.look 0) r0 true Hlk.out hgc (by intro j hj; simp [Hlk.out, hj]) H0.out) ?_; rintro e w3 ⟨sv, rfl, hsv, hf3⟩; obtain ⟨sa, sm, sc, rfl⟩ := own_slice hsv; simp only [rcells])
    | fail)
  have hlt := Hdl.out
  have hs1 := HN1.out.size
  have hf23 : Fr (· = db) W1 w3 := hf2.trans (hf3.mono (fun _ _ f => f.elim))
  have hf24 : Fr (· = db) W1 (w3.alloc (.cells #[.int .u8 r0.kind, .int .u32 r0.epoch, .int .i64 r0.index, .int .i64 r0.saga, .int .i64 r0.reply, .slice sa sm sc] 91)) := hf23.alloc _
  have hj4 := hf24.get HJ1.out (by omega)
  have he4 := hf24.get HE1.out (by omega)
  have hr4 := heap_alloc_new w3 (.cells #[.int .u8 r0.kind, .int .u32 r0.epoch, .int .i64 r0.index, .int .i64 r0.saga, .int .i64 r0.reply, .slice sa sm sc] 91)
  have hd4 := hd2.new (hf3.alloc (.cells #[.int .u8 r0.kind, .int .u32 r0.epoch, .int .i64 r0.index, .int .i64 r0.saga, .int .i64 r0.reply, .slice sa sm sc] 91))
  have hne4 : w3.heap.size ≠ w.heap.size + 1 ∧ w3.heap.size ≠ w.heap.size := by have := hf23.size; have := Hsz1.out; omega
  have Hne4 := Lib.hid hne4
  have Hf4 := Lib.hid hf24
  have Hj4 := Lib.hid hj4
  have He4 := Lib.hid he4
  have Hd4 := Lib.hid hd4
  clear hlt hs1 hf23 hf24 he4 hd4 hne4 hcv hj1 hsv hf2 hf3 hd2 hg hgc
  generalize w3.alloc (.cells #[.int .u8 r0.kind, .int .u32 r0.epoch, .int .i64 r0.index, .int .i64 r0.saga, .int .i64 r0.reply, .slice sa sm sc] 91) = W4 at Hf4 Hj4 He4 Hd4 hj4 hr4 ⊢
  generalize hB : w3.heap.size = B at Hne4 hr4 ⊢
  clear hB
  have hk1 : r0.kind = 1 := Hk.out
  rw [hk1] at hr4
  have hcv := cellv W4
  have hfv := frozv W4
  go_upto_region 7 with fail
  have hj6 : JnAt (W4.setCell ⟨w.heap.size + 1, 1, none⟩ (.int .u32 r0.epoch)) (w.heap.size + 1) db ⟨r0.epoch, 1, true⟩ := by
    unfold JnAt
    rw [hp_setCell, if_pos rfl, hj4]; rfl
  have he6 : (W4.setCell ⟨w.heap.size + 1, 1, none⟩ (.int .u32 r0.epoch)).heap[w.heap.size]? = some (.cells #[.nilIface] 32 (0, 0)) := by
    rw [hp_setCell, if_neg (by omega), He4.out]
  have hd6 := Hd4.out.frame (Fr.one (w.heap.size + 1) W4 1 (.int .u32 r0.epoch)) (by
    rintro k rfl
    have := Hdl.out
    exact ⟨by omega, by omega, _, Hj4.out, by simp [kindOf]⟩)
  have hF6 : Fr (· = db) w (W4.setCell ⟨w.heap.size + 1, 1, none⟩ (.int .u32 r0.epoch)) :=
    ((HN1.out.mono (fun _ _ f => f.elim)).trans Hf4.out).trans' (Fr.one (w.heap.size + 1) W4 1 _) (by rintro i hi e; omega)
  have Hj6 := Lib.hid hj6
  have He6 := Lib.hid he6
  have Hd6 := Lib.hid hd6
  have HF6 := Lib.hid hF6
  have hjj := hj6
  unfold JnAt jnCells at hjj
  simp only at hjj
  clear hj6 he6 hd6 hF6 hcv hfv hj4 hr4
  generalize W4.setCell ⟨w.heap.size + 1, 1, none⟩ (.int .u32 r0.epoch) = W6 at Hj6 He6 Hd6 HF6 hjj ⊢
  apply wp_label
  go_wp2_with fail
  have hF6' : Hid (Fr (fun k => k = db ∨ k = mb) w W6) := HF6.out.mono (fun _ _ e => .inl e)
  have HR6 : Hid (RdAt W6 C xb mb [] []) := HR.out.keepK (HF6.out.toK (K := [103]) (by
    rintro k o rfl ho
    obtain ⟨_, _, _, _, e1, _⟩ := Hd.out
    rw [e1] at ho; cases ho; simp [kindOf])) (by decide) (by decide) (by decide) (by decide) (by decide)
  have HD6 : Hid (DiskAt W6 db bb (d.reads 1)) := by
    have := reads_count Hq.out Hc.out 0 (by omega)
    rw [show d.reads 0 = d by simp [DiskM.reads]] at this
    show DiskAt _ _ _ _
    rw [← this]; exact Hd6.out
  have HC0 : Hid (∀ m, m ≤ 10000 → (d.reads m).count = d.reads (m + 1)) := fun m hm => reads_count Hq.out Hc.out m hm
  have Hmb : Hid (mb < w.heap.size) := by
    obtain ⟨_, _, h, _⟩ := HR.out.mp
    exact lt_of_hp h
  clear hjj hk1
  generalize ((r0.kind : Nat) : Int) = kk0
  go_loopw [44] (fun _ wr => ∃ k : Nat, k ≤ evs.length ∧ JnAt wr (w.heap.size + 1) db ⟨r0.epoch, 1 + evLen (evs.take k), true⟩ ∧ (∃ m, m ≤ 2 * k + 1 ∧ DiskAt wr db bb (d.reads m)) ∧
    (∃ bl, RdAt wr C xb mb bl ((evs.take k).foldl applyEv []) ∧ ∀ b ∈ bl, w.heap.size + 2 ≤ b) ∧ wr.heap[w.heap.size]? = some (.cells #[.nilIface] 32 (0, 0)) ∧ Fr (fun k => k = db ∨ k = mb) w wr) (fun _ wr => d.blocks.length + 1 - enOf wr (w.heap.size + 1))
  case atStart => exact ⟨0, Nat.zero_le _, Hj6.out, ⟨1, by omega, HD6.out⟩, ⟨[], HR6.out, fun b hb => by simp at hb⟩, He6.out, hF6'.out⟩
  case round =>
    obtain ⟨k, hk, hjk, ⟨m, hm, hdk⟩, ⟨bl, hrk, hbl⟩, hek, hfk⟩ := hrel
    have Hjk := Lib.hid hjk
    have Hdk := Lib.hid hdk
    have Hrk := Lib.hid hrk
    have Hbl := Lib.hid hbl
    have Hek := Lib.hid hek
    have Hfk := Lib.hid hfk
    have Hm := Lib.hid hm
    have hjj := hjk
    unfold JnAt jnCells at hjj
    simp only at hjj
    clear hjk hdk hrk hbl hek hfk hm
    by_cases hkn : k < evs.length
    · obtain ⟨e, he⟩ : ∃ e, evs[k]? = some e := ⟨evs[k], List.getElem?_eq_getElem hkn⟩
      obtain ⟨hl1, hl2⟩ := evLen_take evs k e he
      obtain ⟨ho1, ho2⟩ := evsOk_at Hok.out k e he
      have hon := evsOn_at Hev.out k e he
      have hsg := sgsOk_take Hok.out k
      have hel1 : Hid (evs.length ≤ 1000) := by have := evLen_len evs; have := Hel.out; have := Hb.out; show _ ≤ _; omega
      cases e with
      | moved id rp =>
        obtain ⟨hrp, g, hg, rfl, hgst⟩ := ho1
        obtain ⟨r, hp, hre, hri, hrk, hrs, hrr⟩ := hon
        obtain ⟨i, hi⟩ := List.getElem?_of_mem hg
        have hid1 := hsg.ok g hg
        have hil : 1 + evLen (evs.take k) < d.blocks.length := by have := Hel.out; simp only [Ev.len] at hl2; omega
        have HA := Lib.hid (at_calls Hjk.out Hdk.out Hq.out (1 + evLen (evs.take k)) r true hp hil)
        have hat : atOk ⟨r0.epoch, 1 + evLen (evs.take k), true⟩ (1 + evLen (evs.take k)) r true = true := by simp [atOk, hre, hri]
        rw [hat] at HA
        have HC1 := Lib.hid (HC0.out m (by have := Hm.out; have := hel1.out; omega))
        have hsid : ((r.saga : Nat) : Int) = g.id := by rw [hrs]; have := hid1.1; omega
        have hrpl : ((r.reply : Nat) : Int) = rp := by rw [hrr]; omega
        have HAP : Hid (applyEv ((evs.take k).foldl applyEv []) (.moved g.id rp) = ((evs.take k).foldl applyEv []).set i (g.moved rp)) := map_if_set hsg.ord hi rp
        have Hi := Lib.hid hi
        have Hg := Lib.hid hid1
        have Hsg := Lib.hid hsg
        have Ho2 := Lib.hid ho2
        have Hl1 := Lib.hid hl1
        have Hl2 := Lib.hid hl2
        have Hil := Lib.hid hil
        have Hst2 := Lib.hid hgst
        have Hrk2 := Lib.hid hrk
        have Hsid := Lib.hid hsid
        have Hrpl := Lib.hid hrpl
        have Hkn := Lib.hid hkn
        clear he hl1 hl2 ho2 hsg hrp hg hgst hp hre hri hrk hrs hrr hi hid1 hil hat hsid hrpl hkn
        have hcv := cellv wr
        go_upto_region 8 with (first
          | (go_at_call 106; refine Calls.mono HA.out ?_; rintro e w7 ⟨sv, rfl, hsv, hd7, hf7⟩; obtain ⟨ta, tm, tc, rfl⟩ := own_slice hsv; simp only [rcells])
          | fail)
        rw [HC1.out] at hd7
        have hN8 := (Fr.refl (fun _ => False) w7).alloc (.cells #[.int .u8 r.kind, .int .u32 r.epoch, .int .i64 r.index, .int .i64 r.saga, .int .i64 r.reply, .slice ta tm tc] 91)
        have hr8 := heap_alloc_new w7 (.cells #[.int .u8 r.kind, .int .u32 r.epoch, .int .i64 r.index, .int .i64 r.saga, .int .i64 r.reply, .slice ta tm tc] 91)
        have hf8 : Fr (· = db) wr (w7.alloc (.cells #[.int .u8 r.kind, .int .u32 r.epoch, .int .i64 r.index, .int .i64 r.saga, .int .i64 r.reply, .slice ta tm tc] 91)) := hf7.alloc _
        have hd8 := hd7.new hN8
        rw [Hrk2.out, Hsid.out, Hrpl.out] at hr8 hf8 hd8 ⊢
        generalize w7.alloc _ = W8 at hr8 hf8 hd8 ⊢
        generalize w7.heap.size = B8 at hr8 ⊢
        have hj8 := hf8.get Hjk.out (by have := Hdl.out; omega)
        have he8 := hf8.get Hek.out (by have := Hdl.out; omega)
        have hk8 : FrK [103] wr W8 := hf8.toK (by
          rintro k o rfl ho
          obtain ⟨_, _, _, _, e1, _⟩ := Hdk.out
          rw [e1] at ho; cases ho; simp [kindOf])
        have hR8 := Hrk.out.keepK hk8 (by decide) (by decide) (by decide) (by decide) (by decide)
        have HM := Lib.hid (moved_calls (rp := rp) hR8 Hsg.out.ord Hi.out Hg.out Hst2.out)
        have Hr8 := Lib.hid hr8
        have Hf8 := Lib.hid hf8
        have Hd8 := Lib.hid hd8
        have Hj8 := Lib.hid hj8
        have He8 := Lib.hid he8
        have HR8 := Lib.hid hR8
        have b0 : W8.cell? ⟨B8, 0, none⟩ = some (.int .u8 4) := by rw [cellv, hr8]; rfl
        have b3 : W8.cell? ⟨B8, 3, none⟩ = some (.int .i64 g.id) := by rw [cellv, hr8]; rfl
        have b4 : W8.cell? ⟨B8, 4, none⟩ = some (.int .i64 rp) := by rw [cellv, hr8]; rfl
        clear hcv hjj hf7 hd7 hsv hN8 hr8 hf8 hd8 hj8 he8 hk8 hR8
        go_upto_region 10 with (first
          | (go_at_call 82; refine Calls.mono HM.out ?_; rintro e w9 ⟨rfl, hR9, hf9⟩)
          | fail)
        have hblk : ∀ k, k ∈ bl → w.heap.size + 2 ≤ k := Hbl.out
        have hj9 : JnAt w9 (w.heap.size + 1) db ⟨r0.epoch, 1 + evLen (evs.take k), true⟩ := hf9.get Hj8.out (fun e => by have := hblk _ e; omega)
        have he9 := hf9.get He8.out (fun e => by have := hblk _ e; omega)
        have hd9 : DiskAt w9 db bb (d.reads (m + 1)) := Hd8.out.frame hf9 (fun k hk => by
          have h1 := hblk k hk
          have h2 := Hdl.out
          obtain ⟨i, hi⟩ := List.getElem?_of_mem hk
          obtain ⟨_, e1, _⟩ := HR8.out.sg i _ k (List.getElem?_eq_getElem (by rw [← HR8.out.len]; exact (List.getElem?_eq_some_iff.1 hi).1)) hi
          exact ⟨by omega, by omega, _, e1, by simp [kindOf]⟩)
        have hF9 : Fr (fun k => k = db ∨ k = mb) w w9 := (Hfk.out.trans (Hf8.out.mono (fun _ _ e => .inl e))).trans' hf9 (fun i hi e => by have := hblk i e; omega)
        rw [← HAP.out, ← Ho2.out] at hR9
        have hjj9 := hj9
        unfold JnAt jnCells at hjj9
        simp only at hjj9
        have Hj9 := Lib.hid hj9
        have He9 := Lib.hid he9
        have Hd9 := Lib.hid hd9
        have HF9 := Lib.hid hF9
        have HR9 := Lib.hid hR9
        clear hblk hj9 he9 hd9 hF9 hR9 hf9 b0 b3 b4
        have hcv := cellv w9
        have hfv := frozv w9
        have hw1 : wrap64 (((1 + evLen (evs.take k) : Nat) : Int) + 1) = ((1 + evLen (evs.take (k + 1)) : Nat) : Int) := by
          have h1 := Hl1.out; have h2 := Hl2.out; have h3 := Hel.out; have h4 := Hb.out
          simp only [Ev.len] at h1 h2
          rw [wrap_in _ (by omega)]; omega
        have HEN : Hid (1 + evLen (evs.take (k + 1)) = 1 + evLen (evs.take k) + 1 ∧ 1 + evLen (evs.take k) ≤ d.blocks.length) := by
          have h1 := Hl1.out; have h2 := Hl2.out; have h3 := Hel.out
          simp only [Ev.len] at h1 h2
          exact ⟨by omega, by omega⟩
        generalize hE0 : 1 + evLen (evs.take k) = E0 at hjj9 hw1 Hj9 HEN Hjk
        generalize hE1 : 1 + evLen (evs.take (k + 1)) = E1 at hw1 HEN ⊢
        have HE1 := Lib.hid hE1
        have HE0 := Lib.hid hE0
        clear hE0 hE1
        go_wp2_with fail
        have hj10 : JnAt (w9.setCell ⟨w.heap.size + 1, 2, none⟩ (.int .i64 (E1 : Nat))) (w.heap.size + 1) db ⟨r0.epoch, E1, true⟩ := by
          have h9 := Hj9.out
          unfold JnAt jnCells at h9 ⊢
          rw [hp_setCell, if_pos rfl, h9]; rfl
        have hk10 : FrK [133] w9 (w9.setCell ⟨w.heap.size + 1, 2, none⟩ (.int .i64 (E1 : Nat))) := (Fr.one (w.heap.size + 1) w9 2 _).toK (by
          rintro k o rfl ho
          have h9 := Hj9.out
          unfold JnAt at h9
          rw [h9] at ho; cases ho; simp [kindOf])
        go_roundw
        case rel =>
          refine ⟨k + 1, Hkn.out, by rw [HE1.out]; exact hj10, ⟨m + 1, by have := Hm.out; omega, ?_⟩, ⟨bl, HR9.out.keepK hk10 (by decide) (by decide) (by decide) (by decide) (by decide), Hbl.out⟩, ?_, ?_⟩
          · exact Hd9.out.frame (Fr.one (w.heap.size + 1) w9 2 _) (by rintro k rfl; have := Hdl.out; exact ⟨by omega, by omega, _, Hj9.out, by simp [kindOf]⟩)
          · rw [hp_setCell, if_neg (by omega)]; exact He9.out
          · exact HF9.out.trans' (Fr.one (w.heap.size + 1) w9 2 _) (fun i hi e => by omega)
        case measure =>
          rw [enOf_jn hj10, enOf_jn Hjk.out]
          have := HEN.out
          simp only; omega
      | taken id st =>
        obtain ⟨hnew, hid1, hid2, hsm⟩ := ho1
        obtain ⟨r, t, hp, hre, hri, hrk, hrs, hrst, hp2, hte, hti, htk, hts⟩ := hon
        simp only [Ev.len] at hl1 hl2
        have hil : 1 + evLen (evs.take k) + 1 < d.blocks.length := by have := Hel.out; omega
        have HA := Lib.hid (at_calls Hjk.out Hdk.out Hq.out (1 + evLen (evs.take k)) r true hp (show 1 + evLen (evs.take k) < d.blocks.length by omega))
        have hat : atOk ⟨r0.epoch, 1 + evLen (evs.take k), true⟩ (1 + evLen (evs.take k)) r true = true := by simp [atOk, hre, hri]
        have hat2 : atOk ⟨r0.epoch, 1 + evLen (evs.take k), true⟩ (1 + evLen (evs.take k) + 1) t true = true := by simp [atOk, hte, hti]
        have HA2 := Lib.hid (fun (w' : World) (hj : JnAt w' (w.heap.size + 1) db ⟨r0.epoch, 1 + evLen (evs.take k), true⟩) (hd : DiskAt w' db bb (d.reads (m + 1))) => at_calls hj hd Hq.out (1 + evLen (evs.take k) + 1) t true hp2 hil)
        rw [hat2] at HA2
        rw [hat] at HA
        have HC1 := Lib.hid (HC0.out m (by have := Hm.out; have := hel1.out; omega))
        have HC2 := Lib.hid (HC0.out (m + 1) (by have := Hm.out; have := hel1.out; omega))
        have hsid : ((r.saga : Nat) : Int) = id := by rw [hrs]; omega
        have hsid2 : ((t.saga : Nat) : Int) = id := by rw [hts]; omega
        have HAP : Hid (applyEv ((evs.take k).foldl applyEv []) (.taken id st) = insSaga (SagaM.new id st) ((evs.take k).foldl applyEv [])) := rfl
        have e2 : 1 + evLen (evs.take (k + 1)) = 1 + evLen (evs.take k) + 2 := by omega
        have e3 : 1 + evLen (evs.take k) ≤ 2000 := by have h4 := Hb.out; omega
        have HW1 := Lib.hid (wrap_one (1 + evLen (evs.take k)) e3)
        have HW2 := Lib.hid (wrap_two' (1 + evLen (evs.take k)) (1 + evLen (evs.take (k + 1))) e2 e3)
        have HEN : Hid (1 + evLen (evs.take (k + 1)) = 1 + evLen (evs.take k) + 2 ∧ 1 + evLen (evs.take k) ≤ d.blocks.length) := ⟨by omega, by omega⟩
        have Hsm := Lib.hid hsm
        have Hnew := Lib.hid hnew
        have Hidb := Lib.hid (And.intro hid1 hid2)
        have Hsg := Lib.hid hsg
        have Ho2 := Lib.hid ho2
        have Hrk2 := Lib.hid hrk
        have Htk2 := Lib.hid htk
        have Hsid := Lib.hid hsid
        have Hsid2 := Lib.hid hsid2
        have Hrst := Lib.hid hrst
        have Hkn := Lib.hid hkn
        clear e2 he hl1 hl2 ho2 hsg hnew hid1 hid2 hsm hp hre hri hrk hrs hrst hp2 hte hti htk hts hil hat hat2 hsid hsid2 hkn e3
        have hcv := cellv wr
        go_upto_region 8 with (first
          | (go_at_call 106; refine Calls.mono HA.out ?_; rintro e w7 ⟨sv, rfl, hsv, hd7, hf7⟩; obtain ⟨ta, tm, tc, rfl⟩ := own_slice hsv; simp only [rcells])
          | fail)
        rw [HC1.out] at hd7
        have hN8 := (Fr.refl (fun _ => False) w7).alloc (.cells #[.int .u8 r.kind, .int .u32 r.epoch, .int .i64 r.index, .int .i64 r.saga, .int .i64 r.reply, .slice ta tm tc] 91)
        have hr8 := heap_alloc_new w7 (.cells #[.int .u8 r.kind, .int .u32 r.epoch, .int .i64 r.index, .int .i64 r.saga, .int .i64 r.reply, .slice ta tm tc] 91)
        have hf8 : Fr (· = db) wr (w7.alloc (.cells #[.int .u8 r.kind, .int .u32 r.epoch, .int .i64 r.index, .int .i64 r.saga, .int .i64 r.reply, .slice ta tm tc] 91)) := hf7.alloc _
        have hd8 := hd7.new hN8
        have hst8 : StepsAt (w7.alloc (.cells #[.int .u8 r.kind, .int .u32 r.epoch, .int .i64 r.index, .int .i64 r.saga, .int .i64 r.reply, .slice ta tm tc] 91)) (.slice ta tm tc) st := by
          rw [Hrst.out] at hsv
          exact (hsv.at (by have := Hsm.out.1; have := Hsm.out.2.1; omega)).frame hN8 (fun _ f => f.elim)
        rw [Hrk2.out, Hsid.out] at hr8 hf8 hd8 hst8 ⊢
        generalize w7.alloc _ = W8 at hr8 hf8 hd8 hst8 ⊢
        generalize w7.heap.size = B8 at hr8 ⊢
        have hne8 : ¬ (w.heap.size + 1 = db) := by have := Hdl.out; omega
        have hj80 := Fr.get (k := w.heap.size + 1) hf8 Hjk.out hne8
        clear hne8
        have hj8 : JnAt W8 (w.heap.size + 1) db ⟨r0.epoch, 1 + evLen (evs.take k), true⟩ := hj80
        clear hj80
        have hne8 : ¬ (w.heap.size = db) := by have := Hdl.out; omega
        have he8 := Fr.get (k := w.heap.size) hf8 Hek.out hne8
        clear hne8
        have Hr8 := Lib.hid hr8
        have Hf8 := Lib.hid hf8
        have Hd8 := Lib.hid hd8
        have Hj8 := Lib.hid hj8
        have He8 := Lib.hid he8
        have Hst8 := Lib.hid hst8
        have HA3 := Lib.hid (HA2.out W8 hj8 hd8)
        have b0 : W8.cell? ⟨B8, 0, none⟩ = some (.int .u8 2) := by rw [cellv, hr8]; rfl
        have hjj8 := hj8
        unfold JnAt jnCells at hjj8
        simp only at hjj8
        have j2 : W8.cell? ⟨w.heap.size + 1, 2, none⟩ = some (.int .i64 ((1 + evLen (evs.take k) : Nat) : Int)) := by rw [cellv, hjj8]; rfl
        clear hcv hjj hf7 hd7 hsv hN8 hr8 hf8 hd8 hj8 he8 hst8 hjj8
        have hw1 := HW1.out
        generalize hE2 : 1 + evLen (evs.take k) + 1 = E2 at hw1 HA3 HW1
        generalize hE0 : 1 + evLen (evs.take k) = E0 at j2 hw1 HA3 Hj8 HEN HW2 Hjk HW1 hE2
        have HE2 := Lib.hid hE2
        have HE0 := Lib.hid hE0
        clear hE2 hE0
        go_upto_region 13 with (first
          | (go_at_call 106; refine Calls.mono HA3.out ?_; rintro e w10 ⟨sv2, rfl, hsv2, hd10, hf10⟩; obtain ⟨tb, tn, td, rfl⟩ := own_slice hsv2; simp only [rcells])
          | fail)
        rw [HC2.out] at hd10
        have hN11 := (Fr.refl (fun _ => False) w10).alloc (.cells #[.int .u8 t.kind, .int .u32 t.epoch, .int .i64 t.index, .int .i64 t.saga, .int .i64 t.reply, .slice tb tn td] 91)
        have hr11 := heap_alloc_new w10 (.cells #[.int .u8 t.kind, .int .u32 t.epoch, .int .i64 t.index, .int .i64 t.saga, .int .i64 t.reply, .slice tb tn td] 91)
        have hf11 : Fr (· = db) W8 (w10.alloc (.cells #[.int .u8 t.kind, .int .u32 t.epoch, .int .i64 t.index, .int .i64 t.saga, .int .i64 t.reply, .slice tb tn td] 91)) := hf10.alloc _
        have hd11 := hd10.new hN11
        rw [Htk2.out, Hsid2.out] at hr11 hf11 hd11 ⊢
        generalize w10.alloc _ = W11 at hr11 hf11 hd11 ⊢
        generalize w10.heap.size = B12 at hr11 ⊢
        have hneD : ∀ k o, W8.heap[k]? = some o → kindOf o ≠ 103 → ¬ k = db := by
          rintro k o ho hk rfl
          obtain ⟨_, _, _, _, e1, _⟩ := Hd8.out
          rw [e1] at ho; cases ho; simp [kindOf] at hk
        have hr8' := Fr.get (k := B8) hf11 Hr8.out (hneD _ _ Hr8.out (by simp [kindOf]))
        have hj11 := Fr.get (k := w.heap.size + 1) hf11 Hj8.out (hneD _ _ Hj8.out (by simp [kindOf]))
        have he11 := Fr.get (k := w.heap.size) hf11 He8.out (hneD _ _ He8.out (by simp [kindOf]))
        have hk11 : FrK [103] wr W11 := (Hf8.out.trans hf11).toK (by
          rintro k o rfl ho
          obtain ⟨_, _, _, _, e1, _⟩ := Hdk.out
          rw [e1] at ho; cases ho; simp [kindOf])
        have hR11 := Hrk.out.keepK hk11 (by decide) (by decide) (by decide) (by decide) (by decide)
        have hst11 : StepsAt W11 (.slice ta tm tc) st := Hst8.out.frame hf11 (by
          rintro k rfl
          obtain ⟨_, _, _, _, e1, _⟩ := Hd8.out
          exact ⟨_, e1, by simp [kindOf]⟩)
        have HT := Lib.hid (taken_calls (id := id) hR11 hst11 ⟨Hsm.out.1, by have := Hsm.out.2.1; omega⟩ Hidb.out Hnew.out Hsg.out.len)
        have b0 : W11.cell? ⟨B8, 0, none⟩ = some (.int .u8 2) := by rw [cellv, hr8']; rfl
        have b3 : W11.cell? ⟨B8, 3, none⟩ = some (.int .i64 id) := by rw [cellv, hr8']; rfl
        have b5 : W11.cell? ⟨B8, 5, none⟩ = some (.slice ta tm tc) := by rw [cellv, hr8']; rfl
        have t0 : W11.cell? ⟨B12, 0, none⟩ = some (.int .u8 3) := by rw [cellv, hr11]; rfl
        have t3 : W11.cell? ⟨B12, 3, none⟩ = some (.int .i64 id) := by rw [cellv, hr11]; rfl
        have Hf11 := Lib.hid hf11
        have Hd11 := Lib.hid hd11
        have Hj11 := Lib.hid hj11
        have He11 := Lib.hid he11
        have HR11 := Lib.hid hR11
        clear j2 hw1 hd10 hf10 hsv2 hN11 hr11 hf11 hd11 hneD hr8' hj11 he11 hk11 hR11 hst11
        go_upto_region 15 with (first
          | (go_at_call 81; refine Calls.mono HT.out ?_; rintro e w9 ⟨rfl, ⟨BL, hR9, hBL⟩, hf9⟩)
          | fail)
        have hj9 : JnAt w9 (w.heap.size + 1) db ⟨r0.epoch, E0, true⟩ := Fr.get (k := w.heap.size + 1) hf9 Hj11.out (by have := Hmb.out; omega)
        have he9 := Fr.get (k := w.heap.size) hf9 He11.out (by have := Hmb.out; omega)
        have hd9 : DiskAt w9 db bb (d.reads (m + 2)) := Hd11.out.frame hf9 (by
          rintro k rfl
          obtain ⟨es, clock, hmb, _⟩ := HR11.out.mp
          obtain ⟨_, _, _, _, e1, e2, _⟩ := Hd11.out
          exact ⟨fun e => (by rw [e, e1] at hmb; cases hmb), fun e => (by rw [e, e2] at hmb; cases hmb), _, hmb, by simp [kindOf]⟩)
        have hF9 : Fr (fun k => k = db ∨ k = mb) w w9 := ((Hfk.out.trans (Hf8.out.mono (fun _ _ e => .inl e))).trans (Hf11.out.mono (fun _ _ e => .inl e))).trans (hf9.mono (fun _ _ e => .inr e))
        have hBL' : ∀ b ∈ BL, w.heap.size + 2 ≤ b := fun b hb => by
          rcases hBL b hb with h | h
          · exact Hbl.out b h
          · have := lt_of_hp Hj11.out; omega
        rw [← HAP.out, ← Ho2.out] at hR9
        have HBL := Lib.hid hBL'
        have hjj9 := hj9
        unfold JnAt jnCells at hjj9
        simp only at hjj9
        have Hj9 := Lib.hid hj9
        have He9 := Lib.hid he9
        have Hd9 := Lib.hid hd9
        have HF9 := Lib.hid hF9
        have HR9 := Lib.hid hR9
        clear hj9 he9 hd9 hF9 hR9 hf9 b0 b3 b5 t0 t3 hBL hBL'
        have hcv := cellv w9
        have hfv := frozv w9
        have hw2 := HW2.out
        generalize hE1 : 1 + evLen (evs.take (k + 1)) = E1 at hw2 HEN HW2 ⊢
        have HE1 := Lib.hid hE1
        clear hE1
        go_wp2_with fail
        have hj10 : JnAt (w9.setCell ⟨w.heap.size + 1, 2, none⟩ (.int .i64 (E1 : Nat))) (w.heap.size + 1) db ⟨r0.epoch, E1, true⟩ := by
          have h9 := Hj9.out
          unfold JnAt jnCells at h9 ⊢
          rw [hp_setCell, if_pos rfl, h9]; rfl
        have hk10 : FrK [133] w9 (w9.setCell ⟨w.heap.size + 1, 2, none⟩ (.int .i64 (E1 : Nat))) := (Fr.one (w.heap.size + 1) w9 2 _).toK (by
          rintro k o rfl ho
          have h9 := Hj9.out
          unfold JnAt at h9
          rw [h9] at ho; cases ho; simp [kindOf])
        go_roundw
        case rel =>
          refine ⟨k + 1, Hkn.out, by rw [HE1.out]; exact hj10, ⟨m + 2, by have := Hm.out; omega, ?_⟩, ⟨BL, HR9.out.keepK hk10 (by decide) (by decide) (by decide) (by decide) (by decide), HBL.out⟩, ?_, ?_⟩
          · exact Hd9.out.frame (Fr.one (w.heap.size + 1) w9 2 _) (by rintro k rfl; have := Hdl.out; exact ⟨by omega, by omega, _, Hj9.out, by simp [kindOf]⟩)
          · rw [hp_setCell, if_neg (by omega)]; exact He9.out
          · exact HF9.out.trans' (Fr.one (w.heap.size + 1) w9 2 _) (fun i hi e => by omega)
        case measure =>
          rw [enOf_jn hj10, enOf_jn Hjk.out]
          have := HEN.out
          simp only; omega
    · obtain rfl : k = evs.length := by omega
      rw [List.take_length] at Hjk Hrk hjj
      obtain ⟨r, ok, hp, hstop⟩ := Hst.out
      have hel1 : Hid (evs.length ≤ 1000) := by have := evLen_len evs; have := Hel.out; have := Hb.out; show _ ≤ _; omega
      have HC1 := Lib.hid (HC0.out m (by have := Hm.out; have := hel1.out; omega))
      have HC2 := Lib.hid (HC0.out (m + 1) (by have := Hm.out; have := hel1.out; omega))
      have HA := Lib.hid (at_calls Hjk.out Hdk.out Hq.out (1 + evLen evs) r ok hp (show 1 + evLen evs < d.blocks.length by have := Hel.out; omega))
      have hrk := r.kind
      have Hstop := Lib.hid hstop
      clear hp hstop hkn hk
      generalize hO : atOk ⟨r0.epoch, 1 + evLen evs, true⟩ (1 + evLen evs) r ok = O at HA
      have HO := Lib.hid hO
      clear hO hrk
      have hcv := cellv wr
      go_upto_region 8 with (first
        | (go_at_call 106; refine Calls.mono HA.out ?_; rintro e w7 ⟨sv, rfl, hsv, hd7, hf7⟩; obtain ⟨ta, tm, tc, rfl⟩ := own_slice hsv; simp only [rcells])
        | fail)
      rw [HC1.out] at hd7
      have hN8 := (Fr.refl (fun _ => False) w7).alloc (.cells #[.int .u8 r.kind, .int .u32 r.epoch, .int .i64 r.index, .int .i64 r.saga, .int .i64 r.reply, .slice ta tm tc] 91)
      have hr8 := heap_alloc_new w7 (.cells #[.int .u8 r.kind, .int .u32 r.epoch, .int .i64 r.index, .int .i64 r.saga, .int .i64 r.reply, .slice ta tm tc] 91)
      have hf8 : Fr (· = db) wr (w7.alloc (.cells #[.int .u8 r.kind, .int .u32 r.epoch, .int .i64 r.index, .int .i64 r.saga, .int .i64 r.reply, .slice ta tm tc] 91)) := hf7.alloc _
      have hd8 := hd7.new hN8
      generalize w7.alloc _ = W8 at hr8 hf8 hd8 ⊢
      generalize w7.heap.size = B8 at hr8 ⊢
      have hne8 : ¬ (w.heap.size + 1 = db) ∧ ¬ (w.heap.size = db) := by have := Hdl.out; omega
      have hj8 : JnAt W8 (w.heap.size + 1) db ⟨r0.epoch, 1 + evLen evs, true⟩ := Fr.get (k := w.heap.size + 1) hf8 Hjk.out hne8.1
      have he8 := Fr.get (k := w.heap.size) hf8 Hek.out hne8.2
      have hk8 : FrK [103] wr W8 := hf8.toK (by
        rintro k o rfl ho
        obtain ⟨_, _, _, _, e1, _⟩ := Hdk.out
        rw [e1] at ho; cases ho; simp [kindOf])
      have hR8 := Hrk.out.keepK hk8 (by decide) (by decide) (by decide) (by decide) (by decide)
      have hF8 : Fr (fun k => k = db ∨ k = mb) w W8 := Hfk.out.trans (hf8.mono (fun _ _ e => .inl e))
      have b0 : W8.cell? ⟨B8, 0, none⟩ = some (.int .u8 r.kind) := by rw [cellv, hr8]; rfl
      have b3 : W8.cell? ⟨B8, 3, none⟩ = some (.int .i64 r.saga) := by rw [cellv, hr8]; rfl
      have HFin : Hid (∀ W9, DiskAt W9 db bb (d.reads (m + 1)) ∨ DiskAt W9 db bb (d.reads (m + 2)) → Fr (· = db) W8 W9 → W9.heap[w.heap.size]? = some (.cells #[.nilIface] 32 (0, 0)) ∧
          jOpnPost w db bb C xb mb d ⟨r0.epoch, 1 + evLen evs, true⟩ (evs.foldl applyEv []) (.returned (.tuple #[.pointer (some ⟨w.heap.size + 1, 0, none⟩), .nilIface])) (W9.setCell ⟨w.heap.size, 0, none⟩ .nilIface)) := by
        intro W9 hd9 hf9
        have hj9 : JnAt W9 (w.heap.size + 1) db ⟨r0.epoch, 1 + evLen evs, true⟩ := Fr.get (k := w.heap.size + 1) hf9 hj8 hne8.1
        have he9 := Fr.get (k := w.heap.size) hf9 he8 hne8.2
        have hk9 : FrK [103, 33] W8 (W9.setCell ⟨w.heap.size, 0, none⟩ .nilIface) := (hf9.toK (by
          rintro k o rfl ho
          obtain ⟨_, _, _, _, e1, _⟩ := hd8
          rw [e1] at ho; cases ho; simp [kindOf])).trans ((Fr.one w.heap.size W9 0 .nilIface).toK (by
          rintro k o rfl ho
          rw [he9] at ho; cases ho; simp [kindOf]))
        have hdd : ∀ d', DiskAt W9 db bb d' → DiskAt (W9.setCell ⟨w.heap.size, 0, none⟩ .nilIface) db bb d' := fun d' h => h.frame (Fr.one w.heap.size W9 0 .nilIface) (by
          rintro k rfl
          have := Hdl.out
          exact ⟨by omega, by omega, _, he9, by simp [kindOf]⟩)
        refine ⟨he9, w.heap.size + 1, rfl, by omega, ?_, ?_, ⟨bl, hR8.keepK hk9 (by decide) (by decide) (by decide) (by decide) (by decide), fun b hb => by have := Hbl.out b hb; omega⟩, ?_⟩
        · unfold JnAt
          rw [hp_setCell, if_neg (by omega)]; exact hj9
        · have h1 := Hm.out
          have h2 := hel1.out
          rcases hd9 with h | h
          · exact ⟨m + 1, by omega, hdd _ h⟩
          · exact ⟨m + 2, by omega, hdd _ h⟩
        · exact (hF8.trans (hf9.mono (fun _ _ e => .inl e))).trans' (Fr.one w.heap.size W9 0 .nilIface) (by rintro i hi e; omega)
      have Hr8 := Lib.hid hr8
      have Hd8 := Lib.hid hd8
      have Hj8 := Lib.hid hj8
      clear hcv hjj hf7 hd7 hsv hN8 hr8 hf8 hd8 hj8 he8 hk8 hR8 hF8 hne8
      cases O with
      | false =>
        have he8 := (HFin.out W8 (.inl Hd8.out) (Fr.refl _ _)).1
        have hcv := cellv W8
        have hfv := frozv W8
        go_wp2_with fail
        rw [Exit.noGoto_ret]
        refine leaves_cons (f := 103) (args := #[.pointer (some ⟨w.heap.size, 0, none⟩)]) (by simp) (by simp [go_sem]) ?_
        refine (idle103 _ _).mono ?_
        rintro e u' w'' ⟨rfl, rfl, rfl⟩
        obtain ⟨hec, hpost⟩ := HFin.out W8 (.inl Hd8.out) (Fr.refl _ _)
        have hsome : (W8.setCell ⟨w.heap.size, 0, none⟩ Value.nilIface).cell? ⟨w.heap.size, 0, none⟩ = some .nilIface := by rw [cellv, hp_setCell, if_pos rfl, hec]; rfl
        refine ⟨.tuple #[.pointer (some ⟨w.heap.size + 1, 0, none⟩), .nilIface], ?_, hpost⟩
        simp [results, Tryz.results80, go_sem, hsome]
      | true =>
        rcases Hstop.out with h | ⟨h4, h2⟩ | ⟨hk2, hlt, t, ok', hp2, hs3⟩
        · rw [HO.out] at h; cases h
        · have he8 := (HFin.out W8 (.inl Hd8.out) (Fr.refl _ _)).1
          have hk4 : ¬ ((r.kind : Int) = 4) := by omega
          have hk2 : ¬ ((r.kind : Int) = 2) := by omega
          clear h4 h2
          have hcv := cellv W8
          have hfv := frozv W8
          go_wp2_with fail
          rw [Exit.noGoto_ret]
          refine leaves_cons (f := 103) (args := #[.pointer (some ⟨w.heap.size, 0, none⟩)]) (by simp) (by simp [go_sem]) ?_
          refine (idle103 _ _).mono ?_
          rintro e u' w'' ⟨rfl, rfl, rfl⟩
          obtain ⟨hec, hpost⟩ := HFin.out W8 (.inl Hd8.out) (Fr.refl _ _)
          have hsome : (W8.setCell ⟨w.heap.size, 0, none⟩ Value.nilIface).cell? ⟨w.heap.size, 0, none⟩ = some .nilIface := by rw [cellv, hp_setCell, if_pos rfl, hec]; rfl
          refine ⟨.tuple #[.pointer (some ⟨w.heap.size + 1, 0, none⟩), .nilIface], ?_, hpost⟩
          simp [results, Tryz.results80, go_sem, hsome]
        · rw [hk2] at b0
          have HA2 := Lib.hid (at_calls Hj8.out Hd8.out Hq.out (1 + evLen evs + 1) t ok' hp2 hlt)
          generalize hO : atOk ⟨r0.epoch, 1 + evLen evs, true⟩ (1 + evLen evs + 1) t ok' = O2 at HA2
          have e3 : 1 + evLen evs ≤ 2000 := by have h4 := Hb.out; have := Hel.out; omega
          have hw1 := wrap_one (1 + evLen evs) e3
          have hjj8 := Hj8.out
          unfold JnAt jnCells at hjj8
          simp only at hjj8
          have j2 : W8.cell? ⟨w.heap.size + 1, 2, none⟩ = some (.int .i64 ((1 + evLen evs : Nat) : Int)) := by rw [cellv, hjj8]; rfl
          have HO2 := Lib.hid hO
          have Hs3 := Lib.hid hs3
          clear hO hs3 hjj8 hk2 hlt hp2 e3
          have Hrk2 := Lib.hid b0
          generalize hE2 : 1 + evLen evs + 1 = E2 at hw1 HA2 HO2 Hs3
          generalize hE0 : 1 + evLen evs = E0 at j2 hw1 HA2 HO2 hE2 Hs3 ⊢
          have HE2 := Lib.hid hE2
          clear hE2 hE0
          go_upto_region 13 with (first
            | (go_at_call 106; refine Calls.mono HA2.out ?_; rintro e w10 ⟨sv2, rfl, hsv2, hd10, hf10⟩; obtain ⟨tb, tn, td, rfl⟩ := own_slice hsv2; simp only [rcells])
            | fail)
          rw [HC2.out] at hd10
          have hr11 := heap_alloc_new w10 (.cells #[.int .u8 t.kind, .int .u32 t.epoch, .int .i64 t.index, .int .i64 t.saga, .int .i64 t.reply, .slice tb tn td] 91)
          have hf11 : Fr (· = db) W8 (w10.alloc (.cells #[.int .u8 t.kind, .int .u32 t.epoch, .int .i64 t.index, .int .i64 t.saga, .int .i64 t.reply, .slice tb tn td] 91)) := hf10.alloc _
          have hd11 := hd10.new ((Fr.refl (fun _ => False) w10).alloc (.cells #[.int .u8 t.kind, .int .u32 t.epoch, .int .i64 t.index, .int .i64 t.saga, .int .i64 t.reply, .slice tb tn td] 91))
          generalize w10.alloc _ = W11 at hr11 hf11 hd11 ⊢
          generalize w10.heap.size = B12 at hr11 ⊢
          have hneD : ∀ k o, W8.heap[k]? = some o → kindOf o ≠ 103 → ¬ k = db := by
            rintro k o ho hk rfl
            obtain ⟨_, _, _, _, e1, _⟩ := Hd8.out
            rw [e1] at ho; cases ho; simp [kindOf] at hk
          have hr8' := Fr.get (k := B8) hf11 Hr8.out (hneD _ _ Hr8.out (by simp [kindOf]))
          have b3 : W11.cell? ⟨B8, 3, none⟩ = some (.int .i64 r.saga) := by rw [cellv, hr8']; rfl
          have t0 : W11.cell? ⟨B12, 0, none⟩ = some (.int .u8 t.kind) := by rw [cellv, hr11]; rfl
          have t3 : W11.cell? ⟨B12, 3, none⟩ = some (.int .i64 t.saga) := by rw [cellv, hr11]; rfl
          have he11 := (HFin.out W11 (.inr hd11) hf11).1
          have Hd11 := Lib.hid hd11
          have Hf11 := Lib.hid hf11
          clear hneD hr8' hr11 hd11 hf11 hd10 hf10 hsv2 j2 hw1
          have hcv := cellv W11
          have hfv := frozv W11
          cases O2 with
          | false =>
            go_wp2_with fail
            rw [Exit.noGoto_ret]
            refine leaves_cons (f := 103) (args := #[.pointer (some ⟨w.heap.size, 0, none⟩)]) (by simp) (by simp [go_sem]) ?_
            refine (idle103 _ _).mono ?_
            rintro e u' w'' ⟨rfl, rfl, rfl⟩
            obtain ⟨hec, hpost⟩ := HFin.out W11 (.inr Hd11.out) Hf11.out
            have hsome : (W11.setCell ⟨w.heap.size, 0, none⟩ Value.nilIface).cell? ⟨w.heap.size, 0, none⟩ = some .nilIface := by rw [cellv, hp_setCell, if_pos rfl, hec]; rfl
            refine ⟨.tuple #[.pointer (some ⟨w.heap.size + 1, 0, none⟩), .nilIface], ?_, hpost⟩
            simp [results, Tryz.results80, go_sem, hsome]
          | true =>
            rcases Hs3.out with h | h | h
            · rw [HO2.out] at h; cases h
            · have h3 : ¬ ((t.kind : Int) = 3) := by omega
              clear h
              go_wp2_with fail
              rw [Exit.noGoto_ret]
              refine leaves_cons (f := 103) (args := #[.pointer (some ⟨w.heap.size, 0, none⟩)]) (by simp) (by simp [go_sem]) ?_
              refine (idle103 _ _).mono ?_
              rintro e u' w'' ⟨rfl, rfl, rfl⟩
              obtain ⟨hec, hpost⟩ := HFin.out W11 (.inr Hd11.out) Hf11.out
              have hsome : (W11.setCell ⟨w.heap.size, 0, none⟩ Value.nilIface).cell? ⟨w.heap.size, 0, none⟩ = some .nilIface := by rw [cellv, hp_setCell, if_pos rfl, hec]; rfl
              refine ⟨.tuple #[.pointer (some ⟨w.heap.size + 1, 0, none⟩), .nilIface], ?_, hpost⟩
              simp [results, Tryz.results80, go_sem, hsome]
            · have h3 : ¬ ((t.saga : Int) = (r.saga : Int)) := by omega
              clear h
              rcases Nat.decEq t.kind 3 with h5 | h5
              · have h6 : ¬ ((t.kind : Int) = 3) := by omega
                clear h5
                go_wp2_with fail
                rw [Exit.noGoto_ret]
                refine leaves_cons (f := 103) (args := #[.pointer (some ⟨w.heap.size, 0, none⟩)]) (by simp) (by simp [go_sem]) ?_
                refine (idle103 _ _).mono ?_
                rintro e u' w'' ⟨rfl, rfl, rfl⟩
                obtain ⟨hec, hpost⟩ := HFin.out W11 (.inr Hd11.out) Hf11.out
                have hsome : (W11.setCell ⟨w.heap.size, 0, none⟩ Value.nilIface).cell? ⟨w.heap.size, 0, none⟩ = some .nilIface := by rw [cellv, hp_setCell, if_pos rfl, hec]; rfl
                refine ⟨.tuple #[.pointer (some ⟨w.heap.size + 1, 0, none⟩), .nilIface], ?_, hpost⟩
                simp [results, Tryz.results80, go_sem, hsome]
              · rw [h5] at t0
                clear h5
                go_wp2_with fail
                rw [Exit.noGoto_ret]
                refine leaves_cons (f := 103) (args := #[.pointer (some ⟨w.heap.size, 0, none⟩)]) (by simp) (by simp [go_sem]) ?_
                refine (idle103 _ _).mono ?_
                rintro e u' w'' ⟨rfl, rfl, rfl⟩
                obtain ⟨hec, hpost⟩ := HFin.out W11 (.inr Hd11.out) Hf11.out
                have hsome : (W11.setCell ⟨w.heap.size, 0, none⟩ Value.nilIface).cell? ⟨w.heap.size, 0, none⟩ = some .nilIface := by rw [cellv, hp_setCell, if_pos rfl, hec]; rfl
                refine ⟨.tuple #[.pointer (some ⟨w.heap.size + 1, 0, none⟩), .nilIface], ?_, hpost⟩
                simp [results, Tryz.results80, go_sem, hsome]
end Go.Proofs.YtkafmfdipmhleaaGreatDoor

namespace Go.Proofs.YtkafmfdipmhleaaGreatDoor
open Go.RowKit Go.Maps
/-- An engine was opened. -/
def OpnPost (w : World) (db bb : Nat) (d : DiskM) (j : JnM) (l : List SagaM) (pause : Int) (cv : Value) (e : Ending) (w' : World) : Prop :=
  ∃ xb jb mb bl m, e = .returned (.tuple #[.pointer (some ⟨xb, 0, none⟩), .nilIface]) ∧ (w.heap.size ≤ xb ∧ w.heap.size ≤ jb ∧ w.heap.size ≤ mb) ∧ m ≤ 10000 ∧ w'.heap[xb]? = some (.cells (egCells jb mb pause cv 0 false) 79 (0, 0)) ∧ JnAt w' jb db j ∧ DiskAt w' db bb (d.reads m) ∧
    w'.ownsMap Tryz.prog 3 ptrR mb l.length (dataOf (ilOf l bl)) ∧ bl.length = l.length ∧ (∀ (i : Nat) (g : SagaM) (b : Nat), l[i]? = some g → bl[i]? = some b → SagaAt w' b g) ∧ bl.Nodup ∧ (∀ b ∈ bl, w.heap.size ≤ b) ∧ Fr (· = db) w w'
set_option maxRecDepth 100000 in
set_option maxHeartbeats 4000000 in
theorem sOpen_calls {w : World} {db bb : Nat} {d : DiskM} (h : DiskAt w db bb d) (hq : d.quiet) (hc : 0 ≤ d.calls ∧ d.calls < 2 ^ 40) (r0 : RecM) (h0 : parseM (d.look 0) = some (r0, true)) (hk : r0.kind = 1) (evs : List Ev)
    (hev : EvsOn d r0.epoch 1 evs) (hst : JStop d r0.epoch (1 + evLen evs)) (hok : EvsOk [] evs) (hel : evLen evs + 1 < d.blocks.length) (hl : d.fits = true) (pause : Int) (hp : 1 ≤ pause ∧ pause ≤ 64) (fn : Fn) (fs cs : Array Value) :
    Calls Tryz.prog 57 #[.iface 27 (.pointer (some ⟨db, 0, none⟩)), .int .i64 pause, .func fn fs cs] w (OpnPost w db bb d ⟨r0.epoch, 1 + evLen evs, true⟩ (evs.foldl applyEv []) pause (.func fn fs cs)) := by
  have hmf : ∀ (fn : Fn) (first cap : Array Value) (w : World), (Instr.makeFunc fn first cap).run Tryz.prog w = .ok (.func fn first cap) w := fun _ _ _ _ => rfl
  have hmm := @run_makeMap Tryz.prog
  have HF := Lib.hid (fits_calls h)
  rw [hl] at HF
  have hlen : d.blocks.length ≤ 1000 := by simp [DiskM.fits] at hl; omega
  have HJ := Lib.hid (fun (w' : World) (C xb mb : Nat) (h' : DiskAt w' db bb d) (hR : RdAt w' C xb mb [] []) => jOpen_calls h' hq hc hlen r0 h0 hk evs hev hst hok hel hR)
  have Hd := Lib.hid h
  have hdl := disk_lt h
  have Hdl := Lib.hid hdl
  have hp1 : ¬ pause < 1 := by omega
  have hp2 : ¬ (64 : Int) < pause := by omega
  clear h hq hc h0 hk hev hst hok hel hl hp hlen hdl
  go_enter Tryz.func57, Tryz.ntmps57
  go_upto_region 6 with (first
    | (go_at_call 79; refine Calls.mono HF.out ?_; rintro e w2 ⟨rfl, rfl⟩)
    | fail)
  have hN1 : New w (((w.alloc (.map #[] 0)).alloc (.cells #[.pointer none, .map (some w.heap.size), .int .i64 pause, .func fn fs cs, .int .i64 0, .bool false] 79)).alloc (.cells #[.pointer (some ⟨w.heap.size + 1, 0, none⟩)] 28)) := (((Fr.refl _ w).alloc _).alloc _).alloc _
  have hm0 : (w.alloc (.map #[] 0)).ownsMap Tryz.prog 3 ptrR w.heap.size 0 (dataOf []) := World.ownsMap_made w Tryz.prog 3 ptrR
  have hx0 := heap_alloc_new (w.alloc (.map #[] 0)) (.cells #[.pointer none, .map (some w.heap.size), .int .i64 pause, .func fn fs cs, .int .i64 0, .bool false] 79)
  have hx1 := heap_alloc_keep (.cells #[.pointer (some ⟨w.heap.size + 1, 0, none⟩)] 28) hx0
  have hc1 := heap_alloc_new ((w.alloc (.map #[] 0)).alloc (.cells #[.pointer none, .map (some w.heap.size), .int .i64 pause, .func fn fs cs, .int .i64 0, .bool false] 79)) (.cells #[.pointer (some ⟨w.heap.size + 1, 0, none⟩)] 28)
  have hm1 : (((w.alloc (.map #[] 0)).alloc (.cells #[.pointer none, .map (some w.heap.size), .int .i64 pause, .func fn fs cs, .int .i64 0, .bool false] 79)).alloc (.cells #[.pointer (some ⟨w.heap.size + 1, 0, none⟩)] 28)).ownsMap Tryz.prog 3 ptrR w.heap.size 0 (dataOf []) := map_keepK hm0 ((((Fr.refl (fun _ => False) _).alloc _).alloc _).toK (K := []) (fun _ _ f _ => f.elim)) (by simp)
  rw [sz_alloc] at hx1
  rw [sz_alloc, sz_alloc] at hc1
  have hR1 : RdAt (((w.alloc (.map #[] 0)).alloc (.cells #[.pointer none, .map (some w.heap.size), .int .i64 pause, .func fn fs cs, .int .i64 0, .bool false] 79)).alloc (.cells #[.pointer (some ⟨w.heap.size + 1, 0, none⟩)] 28)) (w.heap.size + 1 + 1) (w.heap.size + 1) w.heap.size [] [] := ⟨hc1, ⟨_, _, _, _, _, hx1⟩, hm1, rfl, fun i g b hg => by simp at hg, by simp⟩
  have HJ1 := Lib.hid (HJ.out _ _ _ _ (Hd.out.new hN1) hR1)
  have HN1 := Lib.hid hN1
  have HM1 := Lib.hid hm1
  have HX1 := Lib.hid hx1
  have HC1 := Lib.hid hc1
  clear hN1 hm0 hx0 hx1 hc1 hm1 hR1
  generalize (((w.alloc (.map #[] 0)).alloc (.cells #[.pointer none, .map (some w.heap.size), .int .i64 pause, .func fn fs cs, .int .i64 0, .bool false] 79)).alloc (.cells #[.pointer (some ⟨w.heap.size + 1, 0, none⟩)] 28)) = W1 at HJ1 HN1 HM1 HX1 HC1 ⊢
  go_upto_region 9 with (first
    | (go_at_call 80; refine Calls.mono HJ1.out ?_; rintro e w2 ⟨jb, rfl, hjs, hj2, ⟨m, hm, hd2⟩, ⟨bl, hR2, hbl⟩, hf2⟩)
    | fail)
  have hlt := Hdl.out
  have hx2 := hf2.get HX1.out (by omega)
  have hc2 := hf2.get HC1.out (by omega)
  have HJs := Lib.hid hjs
  have Hj2 := Lib.hid hj2
  have Hd2 := Lib.hid hd2
  have HR2 := Lib.hid hR2
  have Hbl := Lib.hid hbl
  have Hx2 := Lib.hid hx2
  have HF2 : Hid (Fr (· = db) w w2) := (HN1.out.mono (fun _ _ f => f.elim)).trans' hf2 (fun i hi e => e.elim id (fun e => by omega))
  have hne : w.heap.size + 1 ≠ w.heap.size + 1 + 1 := by omega
  clear hlt hj2 hd2 hf2 hjs hR2 hbl
  have hcv := cellv w2
  have hfv := frozv w2
  go_wp2_with fail
  go_ret2
  have hsz := HN1.out.size
  refine ⟨w.heap.size + 1, jb, w.heap.size, bl, m, rfl, ⟨by omega, Nat.le_trans hsz HJs.out, Nat.le_refl _⟩, hm, ?_, ?_, ?_, ?_, HR2.out.len, ?_, HR2.out.nd, fun b hb => Nat.le_trans hsz (Hbl.out b hb), ?_⟩
  · rw [hp_setCell, if_pos rfl, Hx2.out]; rfl
  · refine JnAt.keepK Hj2.out (K := [80]) ((Fr.one (w.heap.size + 1) w2 0 _).toK ?_) (by decide)
    rintro k o rfl ho
    rw [Hx2.out] at ho; cases ho; simp [kindOf]
  · have := Hdl.out
    exact Hd2.out.frame (Fr.one (w.heap.size + 1) w2 0 _) (by rintro k rfl; exact ⟨by omega, by omega, _, Hx2.out, by simp [kindOf]⟩)
  · refine map_keepK HR2.out.mp (K := [80]) ((Fr.one (w.heap.size + 1) w2 0 _).toK ?_) (by decide)
    rintro k o rfl ho
    rw [Hx2.out] at ho; cases ho; simp [kindOf]
  · refine sgs_keepK HR2.out.sg (K := [80]) ((Fr.one (w.heap.size + 1) w2 0 _).toK ?_) (by decide) (by decide)
    rintro k o rfl ho
    rw [Hx2.out] at ho; cases ho; simp [kindOf]
  · exact HF2.out.trans' (Fr.one (w.heap.size + 1) w2 0 _) (by rintro i hi e; omega)
end Go.Proofs.YtkafmfdipmhleaaGreatDoor

namespace Go.Proofs.YtkafmfdipmhleaaGreatDoor
open Go.RowKit
theorem toldP_nil (w : World) : Calls Tryz.prog 26 #[.nilIface] w fun e w' => e = .returned (.int .i64 0) ∧ w' = w := by
  go_enter Tryz.func26, Tryz.ntmps26
  go_wp2
  go_ret
  exact ⟨rfl, rfl⟩
set_option maxRecDepth 100000 in
set_option maxHeartbeats 2000000 in
theorem toldP_fault (fb : Nat) (op : ByteArray) (n : Int) (w : World) (hg : w.cell? ⟨0, 0, none⟩ = some (.iface 176 (.agg #[.pointer (some ⟨1, 32, none⟩)]))) (hfb : w.heap[fb]? = some (.cells (faultCells op n) 123 (0, 0))) :
    Calls Tryz.prog 26 #[.iface 121 (.pointer (some ⟨fb, 0, none⟩))] w fun e w' => e = .returned (.int .i64 n) ∧ New w w' := by
  have hfl := lt_of_hp hfb
  have h1 := heap_alloc_new w (.cells #[.int .i64 0] 55)
  have h2 := heap_alloc_keep (.cells #[.int .i64 0] 55) hfb
  have hg1 : (w.alloc (.cells #[.int .i64 0] 55)).cell? ⟨0, 0, none⟩ = some (.iface 176 (.agg #[.pointer (some ⟨1, 32, none⟩)])) := by
    rw [World.cell?_alloc_lt _ _ ⟨0, 0, none⟩ (by show 0 < _; omega)]; exact hg
  have HA := Lib.hid (as_fault fb w.heap.size op n (.int .i64 0) _ hg1 h2 h1)
  have HF : Hid (New w (w.alloc (.cells #[.int .i64 0] 55))) := (Fr.refl _ w).alloc _
  clear hg hfb hfl h1 h2 hg1
  go_enter Tryz.func26, Tryz.ntmps26
  go_upto_region 5 with (first
    | (go_at_call 56; refine Calls.mono HA.out ?_; rintro e w2 ⟨rfl, hf2, ht2⟩)
    | fail)
  have Hf2 := Lib.hid hf2
  have a1 : w2.cell? ⟨w.heap.size, 0, none⟩ = some (.int .i64 n) := by rw [cellv, ht2]; rfl
  clear hf2 ht2
  go_wp2_with fail
  go_ret
  exact ⟨rfl, HF.out.trans' Hf2.out (fun i hi e => by omega)⟩
end Go.Proofs.YtkafmfdipmhleaaGreatDoor

namespace Go.Proofs.YtkafmfdipmhleaaGreatDoor
open Go.RowKit Go.Maps
def opnStr : ByteArray := ⟨#[111, 112, 101, 110]⟩
def jBadPost (w : World) (db bb : Nat) (d : DiskM) (n : Int) (e : Ending) (w' : World) : Prop :=
  ∃ nb, e = .returned (.tuple #[.pointer none, .iface 121 (.pointer (some ⟨nb, 0, none⟩))]) ∧ w.heap.size ≤ nb ∧ w'.heap[nb]? = some (.cells (faultCells opnStr n) 123 (0, 0)) ∧ DiskAt w' db bb d ∧ Fr (· = db) w w'
set_option maxRecDepth 100000 in
set_option maxHeartbeats 4000000 in
/-- There is no journal on the disk. -/
theorem jOpen_bad {w : World} {db bb : Nat} {d : DiskM} (h : DiskAt w db bb d) (hq : d.quiet) (r0 : RecM) (h0 : parseM (d.look 0) = some (r0, false)) (hl : 0 < d.blocks.length) (tv mv : Value) :
    Calls Tryz.prog 80 #[.iface 27 (.pointer (some ⟨db, 0, none⟩)), tv, mv] w (jBadPost w db bb d.count 6) := by
  have hmf : ∀ (fn : Fn) (first cap : Array Value) (w : World), (Instr.makeFunc fn first cap).run Tryz.prog w = .ok (.func fn first cap) w := fun _ _ _ _ => rfl
  have hlk := DiskM.look_length h.wf hl
  have hdl := disk_lt h
  have Hq := Lib.hid hq
  have H0 := Lib.hid h0
  have Hl := Lib.hid hl
  have Hlk := Lib.hid hlk
  have Hd := Lib.hid h
  have Hdl := Lib.hid hdl
  clear h hq h0 hl hlk hdl
  go_enter_defers Tryz.func80, Tryz.ntmps80
  go_upto_region 1 with fail
  apply wp_scope_straight
  go_upto_region 3 with fail
  have hN1 : New w ((w.alloc (.cells #[.nilIface] 32)).alloc (.cells #[.iface 27 (.pointer (some ⟨db, 0, none⟩)), .int .u32 0, .int .i64 1, .bool true] 132)) := ((Fr.refl _ w).alloc _).alloc _
  have he1 := heap_alloc_keep (.cells #[.iface 27 (.pointer (some ⟨db, 0, none⟩)), .int .u32 0, .int .i64 1, .bool true] 132) (heap_alloc_new w (.cells #[.nilIface] 32))
  have hj1 := heap_alloc_new (w.alloc (.cells #[.nilIface] 32)) (.cells #[.iface 27 (.pointer (some ⟨db, 0, none⟩)), .int .u32 0, .int .i64 1, .bool true] 132)
  rw [sz_alloc] at hj1
  have HN1 := Lib.hid hN1
  have HE1 := Lib.hid he1
  clear hN1 he1
  generalize ((w.alloc (.cells #[.nilIface] 32)).alloc (.cells #[.iface 27 (.pointer (some ⟨db, 0, none⟩)), .int .u32 0, .int .i64 1, .bool true] 132)) = W1 at HN1 HE1 hj1 ⊢
  have Hd1 := Lib.hid (Hd.out.new HN1.out)
  have hcv := cellv W1
  go_upto_region 4 with (first
    | (go_at_call 105; refine Calls.mono (read_quiet Hd1.out Hq.out 0 Hl.out) ?_; rintro e w2 ⟨g, hg, rfl, hgc, hd2, hf2⟩)
    | (go_at_call 104; refine Calls.mono (parse_calls w2 g _ 5 (d.look 0) r0 false Hlk.out hgc (by intro j hj; simp [Hlk.out, hj]) H0.out) ?_; rintro e w3 ⟨sv, rfl, hsv, hf3⟩; obtain ⟨sa, sm, sc, rfl⟩ := own_slice hsv; simp only [rcells])
    | fail)
  have hlt := Hdl.out
  have hf23 : Fr (· = db) W1 w3 := hf2.trans (hf3.mono (fun _ _ f => f.elim))
  have hf24 : Fr (· = db) W1 (w3.alloc (.cells #[.int .u8 r0.kind, .int .u32 r0.epoch, .int .i64 r0.index, .int .i64 r0.saga, .int .i64 r0.reply, .slice sa sm sc] 91)) := hf23.alloc _
  have he4 := hf24.get HE1.out (by omega)
  have hd4 := hd2.new (hf3.alloc (.cells #[.int .u8 r0.kind, .int .u32 r0.epoch, .int .i64 r0.index, .int .i64 r0.saga, .int .i64 r0.reply, .slice sa sm sc] 91))
  have Hf4 := Lib.hid hf24
  have He4 := Lib.hid he4
  have Hd4 := Lib.hid hd4
  clear hf23 hf24 he4 hd4 hcv hj1 hsv hf2 hf3 hd2 hg hgc
  generalize w3.alloc (.cells #[.int .u8 r0.kind, .int .u32 r0.epoch, .int .i64 r0.index, .int .i64 r0.saga, .int .i64 r0.reply, .slice sa sm sc] 91) = W4 at Hf4 He4 Hd4 ⊢
  generalize hB : w3.heap.size = B at *
  have hec := He4.out
  have hn5 := heap_alloc_new W4 (.cells #[.string ⟨#[111, 112, 101, 110]⟩, .iface 55 (.int .i64 6)] 123)
  have hN5 : New W4 (W4.alloc (.cells #[.string ⟨#[111, 112, 101, 110]⟩, .iface 55 (.int .i64 6)] 123)) := (Fr.refl _ W4).alloc _
  have hec5 := hN5.get hec (fun f => f)
  have Hn5 := Lib.hid hn5
  have HN5 := Lib.hid hN5
  clear hN5
  have hcv := cellv (W4.alloc (.cells #[.string ⟨#[111, 112, 101, 110]⟩, .iface 55 (.int .i64 6)] 123))
  have hfv := frozv (W4.alloc (.cells #[.string ⟨#[111, 112, 101, 110]⟩, .iface 55 (.int .i64 6)] 123))
  go_wp2_with fail
  rw [Exit.noGoto_ret]
  refine leaves_cons (f := 103) (args := #[.pointer (some ⟨w.heap.size, 0, none⟩)]) (by simp) (by simp [go_sem]) ?_
  refine (idle103 _ _).mono ?_
  rintro e u' w'' ⟨rfl, rfl, rfl⟩
  have hsome : ((W4.alloc (.cells #[.string ⟨#[111, 112, 101, 110]⟩, .iface 55 (.int .i64 6)] 123)).setCell ⟨w.heap.size, 0, none⟩ (.iface 121 (.pointer (some ⟨W4.heap.size, 0, none⟩)))).cell? ⟨w.heap.size, 0, none⟩ = some (.iface 121 (.pointer (some ⟨W4.heap.size, 0, none⟩))) := by rw [cellv, hp_setCell, if_pos rfl, hec5]; rfl
  have hsz := HN1.out.size
  have hsz4 := Hf4.out.size
  have hw4 : w.heap.size < W4.heap.size := lt_of_hp hec
  refine ⟨.tuple #[.pointer none, .iface 121 (.pointer (some ⟨W4.heap.size, 0, none⟩))], ?_, W4.heap.size, rfl, by omega, ?_, ?_, ?_⟩
  · simp [results, Tryz.results80, go_sem, hsome]
  · rw [hp_setCell, if_neg (by omega)]; exact Hn5.out
  · exact (Hd4.out.new HN5.out).frame (Fr.one w.heap.size _ 0 _) (by rintro k rfl; exact ⟨by omega, by omega, _, hec5, by simp [kindOf]⟩)
  · exact (((HN1.out.mono (fun _ _ f => f.elim)).trans Hf4.out).trans (HN5.out.mono (fun _ _ f => f.elim))).trans' (Fr.one w.heap.size _ 0 _) (by rintro i hi e; omega)
/-- A pause, or a size, that is none. -/
def errOf (d : DiskM) (pause : Int) : Int := if pause < 1 ∨ 64 < pause then 8 else if d.fits = false then 7 else 6
set_option maxRecDepth 100000 in
set_option maxHeartbeats 4000000 in
theorem sOpen_pause {w : World} {db : Nat} {pause : Int} (hp : pause < 1 ∨ 64 < pause) (fv : Value) :
    Calls Tryz.prog 57 #[.iface 27 (.pointer (some ⟨db, 0, none⟩)), .int .i64 pause, fv] w fun e w' => ∃ nb, e = .returned (.tuple #[.pointer none, .iface 121 (.pointer (some ⟨nb, 0, none⟩))]) ∧ w.heap.size ≤ nb ∧ w'.heap[nb]? = some (.cells (faultCells opnStr 8) 123 (0, 0)) ∧ New w w' := by
  by_cases h1 : pause < 1
  · clear hp
    go_enter Tryz.func57, Tryz.ntmps57
    go_wp2_with (first
      | (go_at_call 40; refine Calls.mono (fail_calls w opnStr 8) ?_; rintro e w3 ⟨v, rfl, ⟨fb, hb, rfl, hfb⟩, hf3⟩)
      | fail)
    go_ret2
    exact ⟨fb, rfl, hb, hfb, hf3⟩
  · have h2 : 64 < pause := hp.resolve_left h1
    clear hp
    go_enter Tryz.func57, Tryz.ntmps57
    go_wp2_with (first
      | (go_at_call 40; refine Calls.mono (fail_calls w opnStr 8) ?_; rintro e w3 ⟨v, rfl, ⟨fb, hb, rfl, hfb⟩, hf3⟩)
      | fail)
    go_ret2
    exact ⟨fb, rfl, hb, hfb, hf3⟩
set_option maxRecDepth 100000 in
set_option maxHeartbeats 4000000 in
theorem sOpen_size {w : World} {db bb : Nat} {d : DiskM} {pause : Int} (h : DiskAt w db bb d) (hl : d.fits = false) (hp : 1 ≤ pause ∧ pause ≤ 64) (fv : Value) :
    Calls Tryz.prog 57 #[.iface 27 (.pointer (some ⟨db, 0, none⟩)), .int .i64 pause, fv] w fun e w' => ∃ nb, e = .returned (.tuple #[.pointer none, .iface 121 (.pointer (some ⟨nb, 0, none⟩))]) ∧ w.heap.size ≤ nb ∧ w'.heap[nb]? = some (.cells (faultCells opnStr 7) 123 (0, 0)) ∧ New w w' := by
  have HF := Lib.hid (fits_calls h)
  rw [hl] at HF
  have h1 : ¬ pause < 1 := by omega
  have h2 : ¬ (64 : Int) < pause := by omega
  clear h hl hp
  go_enter Tryz.func57, Tryz.ntmps57
  go_wp2_with (first
    | (go_at_call 79; refine Calls.mono HF.out ?_; rintro e w2 ⟨rfl, rfl⟩)
    | (go_at_call 40; refine Calls.mono (fail_calls w opnStr 7) ?_; rintro e w3 ⟨v, rfl, ⟨fb, hb, rfl, hfb⟩, hf3⟩)
    | fail)
  go_ret2
  exact ⟨fb, rfl, hb, hfb, hf3⟩
set_option maxRecDepth 100000 in
set_option maxHeartbeats 4000000 in
theorem sOpen_bad {w : World} {db bb : Nat} {d : DiskM} {pause : Int} (h : DiskAt w db bb d) (hq : d.quiet) (r0 : RecM) (h0 : parseM (d.look 0) = some (r0, false)) (hl : d.fits = true) (hp : 1 ≤ pause ∧ pause ≤ 64) (fn : Fn) (fs cs : Array Value) :
    Calls Tryz.prog 57 #[.iface 27 (.pointer (some ⟨db, 0, none⟩)), .int .i64 pause, .func fn fs cs] w (jBadPost w db bb d.count 6) := by
  have hmf : ∀ (fn : Fn) (first cap : Array Value) (w : World), (Instr.makeFunc fn first cap).run Tryz.prog w = .ok (.func fn first cap) w := fun _ _ _ _ => rfl
  have hmm := @run_makeMap Tryz.prog
  have HF := Lib.hid (fits_calls h)
  rw [hl] at HF
  have hl0 : 0 < d.blocks.length := by simp [DiskM.fits] at hl; omega
  have HJ := Lib.hid (fun (w' : World) (tv mv : Value) (hf : New w w') => jOpen_bad (h.new hf) hq r0 h0 hl0 tv mv)
  have h1 : ¬ pause < 1 := by omega
  have h2 : ¬ (64 : Int) < pause := by omega
  clear h hq h0 hl hp hl0
  go_enter Tryz.func57, Tryz.ntmps57
  go_upto_region 6 with (first
    | (go_at_call 79; refine Calls.mono HF.out ?_; rintro e w2 ⟨rfl, rfl⟩)
    | fail)
  have hN1 : New w (((w.alloc (.map #[] 0)).alloc (.cells #[.pointer none, .map (some w.heap.size), .int .i64 pause, .func fn fs cs, .int .i64 0, .bool false] 79)).alloc (.cells #[.pointer (some ⟨w.heap.size + 1, 0, none⟩)] 28)) := (((Fr.refl _ w).alloc _).alloc _).alloc _
  generalize (((w.alloc (.map #[] 0)).alloc (.cells #[.pointer none, .map (some w.heap.size), .int .i64 pause, .func fn fs cs, .int .i64 0, .bool false] 79)).alloc (.cells #[.pointer (some ⟨w.heap.size + 1, 0, none⟩)] 28)) = W1 at hN1 ⊢
  have HN1 := Lib.hid hN1
  clear hN1
  go_wp2_with (first
    | (go_at_call 80; refine Calls.mono (HJ.out W1 _ _ HN1.out) ?_; rintro e w2 ⟨nb, rfl, hnb, hfb, hd2, hf2⟩)
    | fail)
  go_ret2
  exact ⟨nb, rfl, Nat.le_trans HN1.out.size hnb, hfb, hd2, (HN1.out.mono (fun _ _ f => f.elim)).trans hf2⟩
def OpErr (w : World) (db bb : Nat) (d : DiskM) (n : Int) (e : Ending) (w' : World) : Prop :=
  ∃ nb m, m ≤ 10000 ∧ e = .returned (.tuple #[.pointer none, .iface 121 (.pointer (some ⟨nb, 0, none⟩))]) ∧ w'.heap[nb]? = some (.cells (faultCells opnStr n) 123 (0, 0)) ∧ DiskAt w' db bb (d.reads m) ∧ Fr (· = db) w w'
set_option maxRecDepth 100000 in
set_option maxHeartbeats 4000000 in
/-- plain.Open that tells an error. -/
theorem pOpen_err {w : World} {db bb pb : Nat} {d : DiskM} {pause : Int} (h : DiskAt w db bb d) (hq : d.quiet) (hc : 0 ≤ d.calls ∧ d.calls < 2 ^ 40) (r0 : RecM) (h0 : parseM (d.look 0) = some (r0, false) ∨ (pause < 1 ∨ 64 < pause) ∨ d.fits = false) :
    Calls Tryz.prog 30 #[.pointer (some ⟨db, 0, none⟩), .int .i64 pause, .pointer (some ⟨pb, 0, none⟩)] w (OpErr w db bb d (errOf d pause)) := by
  have hmf : ∀ (fn : Fn) (first cap : Array Value) (w : World), (Instr.makeFunc fn first cap).run Tryz.prog w = .ok (.func fn first cap) w := fun _ _ _ _ => rfl
  have key : Hid (Calls Tryz.prog 57 #[.iface 27 (.pointer (some ⟨db, 0, none⟩)), .int .i64 pause, .func (.func 58) #[.pointer (some ⟨pb, 0, none⟩)] #[]] w (OpErr w db bb d (errOf d pause))) := by
    show Calls _ _ _ _ _
    have hr0 : d.reads 0 = d := by simp [DiskM.reads]
    by_cases hp : pause < 1 ∨ 64 < pause
    · have he : errOf d pause = 8 := by unfold errOf; rw [if_pos hp]
      rw [he]
      refine Calls.mono (sOpen_pause hp _) ?_
      rintro e w' ⟨nb, rfl, hnb, hfb, hf⟩
      exact ⟨nb, 0, by omega, rfl, hfb, by rw [hr0]; exact h.new hf, hf.mono (fun _ _ f => f.elim)⟩
    · have hp2 : 1 ≤ pause ∧ pause ≤ 64 := by omega
      by_cases hl : d.fits = false
      · have he : errOf d pause = 7 := by unfold errOf; rw [if_neg hp, if_pos hl]
        rw [he]
        refine Calls.mono (sOpen_size h hl hp2 _) ?_
        rintro e w' ⟨nb, rfl, hnb, hfb, hf⟩
        exact ⟨nb, 0, by omega, rfl, hfb, by rw [hr0]; exact h.new hf, hf.mono (fun _ _ f => f.elim)⟩
      · have he : errOf d pause = 6 := by unfold errOf; rw [if_neg hp, if_neg hl]
        rw [he]
        have hl : d.fits = true := by simpa using hl
        have h0' : parseM (d.look 0) = some (r0, false) := by
          rcases h0 with h0 | h0 | h0
          · exact h0
          · exact absurd h0 hp
          · rw [hl] at h0; cases h0
        refine Calls.mono (sOpen_bad h hq r0 h0' hl hp2 _ _ _) ?_
        rintro e w' ⟨nb, rfl, hnb, hfb, hd, hf⟩
        have hr1 := reads_count hq hc 0 (by omega)
        rw [hr0] at hr1
        exact ⟨nb, 1, by omega, rfl, hfb, by rw [← hr1]; exact hd, hf⟩
  generalize errOf d pause = n at key ⊢
  clear h hq hc h0
  go_enter Tryz.func30, Tryz.ntmps30
  go_wp2_with (first
    | (go_at_call 57; refine Calls.mono key.out ?_; rintro e w2 ⟨nb, m, hm, rfl, hfb, hd2, hf2⟩)
    | fail)
  go_ret2
  exact ⟨nb, m, hm, rfl, hfb, hd2, hf2⟩
set_option maxRecDepth 100000 in
set_option maxHeartbeats 4000000 in
/-- plain.Open of a journal, whatever its partner is. -/
theorem pOpen_any {w : World} {db bb pb : Nat} {d : DiskM} (h : DiskAt w db bb d) (hq : d.quiet) (hc : 0 ≤ d.calls ∧ d.calls < 2 ^ 40) (r0 : RecM) (h0 : parseM (d.look 0) = some (r0, true)) (hk : r0.kind = 1) (evs : List Ev)
    (hev : EvsOn d r0.epoch 1 evs) (hst : JStop d r0.epoch (1 + evLen evs)) (hok : EvsOk [] evs) (hel : evLen evs + 1 < d.blocks.length) (hl : d.fits = true) (pause : Int) (hpz : 1 ≤ pause ∧ pause ≤ 64) :
    Calls Tryz.prog 30 #[.pointer (some ⟨db, 0, none⟩), .int .i64 pause, .pointer (some ⟨pb, 0, none⟩)] w (OpnPost w db bb d ⟨r0.epoch, 1 + evLen evs, true⟩ (evs.foldl applyEv []) pause (.func (.func 58) #[.pointer (some ⟨pb, 0, none⟩)] #[])) := by
  have hmf : ∀ (fn : Fn) (first cap : Array Value) (w : World), (Instr.makeFunc fn first cap).run Tryz.prog w = .ok (.func fn first cap) w := fun _ _ _ _ => rfl
  have HO := Lib.hid (sOpen_calls h hq hc r0 h0 hk evs hev hst hok hel hl pause hpz (.func 58) #[.pointer (some ⟨pb, 0, none⟩)] #[])
  clear h hq hc h0 hk hev hst hok hel hl hpz
  go_enter Tryz.func30, Tryz.ntmps30
  go_wp2_with (first
    | (go_at_call 57; refine Calls.mono HO.out ?_; rintro e w2 ⟨xb, jb, mb, bl, m, rfl, hxs, hm10, hx, hj, hd, hm, hlen, hsg, hnd, hbl, hf⟩)
    | fail)
  go_ret2
  exact ⟨xb, jb, mb, bl, m, rfl, hxs, hm10, hx, hj, hd, hm, hlen, hsg, hnd, hbl, hf⟩
end Go.Proofs.YtkafmfdipmhleaaGreatDoor

namespace Go.Proofs.YtkafmfdipmhleaaGreatDoor
open Go.RowKit Go.Maps
theorem StM.fine.mono {s : StM} {m k : Nat} (h : s.fine m) (hk : k ≤ m) : s.fine k := by
  obtain ⟨h1, h2, h3, h4, h5, h6⟩ := h
  exact ⟨by omega, by omega, h3, h4, by omega, h6⟩
end Go.Proofs.YtkafmfdipmhleaaGreatDoor

namespace Go.Proofs.YtkafmfdipmhleaaGreatDoor
open Go.RowKit Go.Maps
theorem leB_toNat (n k : Nat) : (leB n k).toNat = n / 2 ^ (8 * k) % 256 := by
  unfold leB
  rw [UInt8.toNat_ofNat']
theorem leN1 (n : Nat) : leN 1 n = [leB n 0] := rfl
theorem leN4 (n : Nat) : leN 4 n = [leB n 0, leB n 1, leB n 2, leB n 3] := rfl
theorem leVal1 (n : Nat) (h : n < 256) : leVal [leB n 0] = n := by
  simp only [leVal, leB_toNat]; omega
theorem leVal2 (n : Nat) (h : n < 65536) : leVal [leB n 0, leB n 1] = n := by
  simp only [leVal, leB_toNat]; omega
theorem leVal4 (n : Nat) (h : n < 4294967296) : leVal [leB n 0, leB n 1, leB n 2, leB n 3] = n := by
  simp only [leVal, leB_toNat]; omega
/-- What a short record's first sector holds behind its sum. -/
def shortB (r : RecM) : List UInt8 := [leB r.kind 0, leB r.epoch 0, leB r.epoch 1, leB r.epoch 2, leB r.epoch 3, leB r.index 0, leB r.index 1, leB r.saga 0, leB r.saga 1, leB r.reply 0] ++ List.replicate 18 0
theorem head_short (r : RecM) : headB r = [leB r.kind 0, leB r.epoch 0, leB r.epoch 1, leB r.epoch 2, leB r.epoch 3, leB r.index 0, leB r.index 1, leB r.saga 0, leB r.saga 1, leB r.reply 0] := rfl
def sumS (r : RecM) : Nat := (crcM (shortB r)).toNat
theorem sumS_lt (r : RecM) : sumS r < 4294967296 := by
  have := crcM_u32 (shortB r)
  unfold sumS; omega
theorem sumS_int (r : RecM) : (sumS r : Int) = crcM (shortB r) := by
  have := crcM_u32 (shortB r)
  unfold sumS; omega
def secS (r : RecM) : List UInt8 := [leB (sumS r) 0, leB (sumS r) 1, leB (sumS r) 2, leB (sumS r) 3] ++ shortB r
theorem secS_len (r : RecM) : (secS r).length = 32 := rfl
theorem base_short (r : RecM) (hk : r.kind ≠ 2) : (baseB r).drop 4 = shortB r ++ List.replicate 96 0 := by
  unfold baseB bodyB
  rw [if_neg hk, head_short]
  rfl
theorem bytes_short (r : RecM) (hk : r.kind ≠ 2) : recBytes r = secS r := by
  have h1 := base_short r hk
  have h2 : sumB r = sumS r := by
    unfold sumB sumS
    rw [h1, show endOf r = 32 from by unfold endOf; rw [if_neg hk]]
    rfl
  unfold recBytes recB wrAt
  rw [h2, show endOf r = 32 from by unfold endOf; rw [if_neg hk], leN4]
  show ((baseB r).take 0 ++ _ ++ (baseB r).drop 4).take 32 = _
  rw [h1]
  rfl
theorem pad_short (r : RecM) (hk : r.kind ≠ 2) : padB (recBytes r) = secS r ++ List.replicate 96 0 := by
  rw [bytes_short r hk]
  unfold padB
  rw [secS_len]
/-- A short record is read whatever stands in the sectors behind its own. -/
theorem parse_short (r : RecM) (C : List UInt8) (h : r.ok) (hk : r.kind ≠ 2) (hk4 : 1 ≤ r.kind ∧ r.kind ≤ 4) : parseM (secS r ++ C) = some (r, true) := by
  obtain ⟨h1, h2, h3, h4, h5, h6, _⟩ := h
  have hkb : kindB (secS r ++ C) = r.kind := by
    show (leB r.kind 0).toNat = r.kind
    rw [leB_toNat]; omega
  have hsum : sumOk (secS r ++ C) := by
    unfold sumOk
    rw [hkb, if_neg hk]
    have e1 : (secS r ++ C).take 4 = [leB (sumS r) 0, leB (sumS r) 1, leB (sumS r) 2, leB (sumS r) 3] := rfl
    have e2 : ((secS r ++ C).drop 4).take (32 - 4) = shortB r := rfl
    rw [e1, e2, leVal4 _ (sumS_lt r), sumS_int]
  have hrec : recOf (secS r ++ C) [] = r := by
    obtain ⟨kind, epoch, index, saga, reply, steps⟩ := r
    have e3 : epochB (secS ⟨kind, epoch, index, saga, reply, steps⟩ ++ C) = epoch := leVal4 epoch h2
    have e4 : indexB (secS ⟨kind, epoch, index, saga, reply, steps⟩ ++ C) = index := leVal2 index h3
    have e5 : sagaB (secS ⟨kind, epoch, index, saga, reply, steps⟩ ++ C) = saga := leVal2 saga h4
    have e6 : replyB (secS ⟨kind, epoch, index, saga, reply, steps⟩ ++ C) = reply := leVal1 reply h5
    simp only [recOf, hkb, e3, e4, e5, e6]
    have h7 := h6 hk
    simp only at h7
    rw [h7]
  unfold parseM
  rw [if_pos hsum, hkb, if_neg hk, hrec]
  simp [hk4.1, hk4.2]
/-- A block of two sectors and noughts. -/
def two (a b : List UInt8) : List UInt8 := a ++ b ++ List.replicate 64 0
def z32 : List UInt8 := List.replicate 32 0
end Go.Proofs.YtkafmfdipmhleaaGreatDoor

namespace Go.Proofs.YtkafmfdipmhleaaGreatDoor
open Go.RowKit Go.Maps
theorem head_len (r : RecM) : (headB r).length = 10 := rfl
end Go.Proofs.YtkafmfdipmhleaaGreatDoor

namespace Go.Proofs.YtkafmfdipmhleaaGreatDoor
open Go.RowKit Go.Maps
theorem handle_low {w w' : World} {B : Nat} (h : Handle w) (hf : Low B w w') (h0 : 0 < B) : Handle w' := by
  unfold Handle at h ⊢
  rw [← h]; exact World.cell?_of_block (hf.block 0 h0)
end Go.Proofs.YtkafmfdipmhleaaGreatDoor

namespace Go.Proofs.YtkafmfdipmhleaaGreatDoor
open Go.RowKit Go.Maps
theorem moved_tries (g : SagaM) (rp : Int) : (g.moved rp).tries = 0 := by
  by_cases h1 : g.st = 1 <;> by_cases h2 : rp = 0 <;> by_cases h3 : (g.steps.length : Int) < g.step + 1 <;> simp [SagaM.moved, SagaM.forward, SagaM.backward, h1, h2, h3]
theorem waits_st {g : SagaM} {clock : Int} (hok : g.ok) (hw : g.waits clock = true) : g.st = 1 ∨ g.st = 2 := by
  simp [SagaM.waits] at hw
  obtain ⟨_, _, _, _, h | h⟩ := hok
  · exact h.1
  · omega
end Go.Proofs.YtkafmfdipmhleaaGreatDoor

namespace Go.Proofs.YtkafmfdipmhleaaGreatDoor
open Go.RowKit Go.Maps
def rawD (bs : List (List UInt8)) : DiskM := ⟨bs, none, 0, 0, 0, -1, 0, 0⟩
theorem raw_look (bs : List (List UInt8)) (i : Nat) : (rawD bs).look i = bs.getD i [] := rfl
theorem evLen_snoc (evs : List Ev) (e : Ev) : evLen (evs ++ [e]) = evLen evs + e.len := by simp [evLen]
theorem EvOn_congr {d d' : DiskM} {ep i : Nat} {e : Ev} (h : ∀ j, i ≤ j → j < i + e.len → d.look j = d'.look j) (he : EvOn d ep i e) : EvOn d' ep i e := by
  cases e with
  | taken id st =>
    have h1 := h i (Nat.le_refl _) (by show i < i + 2; omega)
    have h2 := h (i + 1) (by omega) (by show i + 1 < i + 2; omega)
    unfold EvOn at he ⊢
    rw [← h1, ← h2]; exact he
  | moved id rp =>
    have h1 := h i (Nat.le_refl _) (by show i < i + 1; omega)
    unfold EvOn at he ⊢
    rw [← h1]; exact he
theorem EvsOn_congr {d d' : DiskM} {ep : Nat} {evs : List Ev} {i : Nat} (h : ∀ j, i ≤ j → j < i + evLen evs → d.look j = d'.look j) (he : EvsOn d ep i evs) : EvsOn d' ep i evs := by
  induction evs generalizing i with
  | nil => trivial
  | cons e r ih =>
    have hl : evLen (e :: r) = e.len + evLen r := by simp [evLen]
    rw [hl] at h
    exact ⟨EvOn_congr (fun j h1 h2 => h j h1 (by omega)) he.1, ih (fun j h1 h2 => h j (by omega) (by omega)) he.2⟩
theorem EvsOn_snoc {d : DiskM} {ep : Nat} {evs : List Ev} {i : Nat} {e : Ev} (h : EvsOn d ep i evs) (he : EvOn d ep (i + evLen evs) e) : EvsOn d ep i (evs ++ [e]) := by
  induction evs generalizing i with
  | nil => exact ⟨he, trivial⟩
  | cons a r ih =>
    have hl : evLen (a :: r) = a.len + evLen r := by simp [evLen]
    rw [hl, ← Nat.add_assoc] at he
    exact ⟨h.1, ih h.2 he⟩
theorem EvsOk_snoc {l : List SagaM} {evs : List Ev} {e : Ev} (h : EvsOk l evs) (he : EvOk (evs.foldl applyEv l) e) : EvsOk l (evs ++ [e]) := by
  induction evs generalizing l with
  | nil => exact ⟨he, trivial⟩
  | cons a r ih => exact ⟨h.1, ih h.2 he⟩
theorem getD_set_ne (bs : List (List UInt8)) (i j : Nat) (X : List UInt8) (h : i ≠ j) : (bs.set i X).getD j [] = bs.getD j [] := by
  rw [List.getD_eq_getElem?_getD, List.getElem?_set_ne h, ← List.getD_eq_getElem?_getD]
theorem getD_set_self (bs : List (List UInt8)) (i : Nat) (X : List UInt8) (h : i < bs.length) : (bs.set i X).getD i [] = X := by
  rw [List.getD_eq_getElem?_getD, List.getElem?_set_self h]; rfl
end Go.Proofs.YtkafmfdipmhleaaGreatDoor

namespace Go.Proofs.YtkafmfdipmhleaaGreatDoor
open Go.RowKit Go.Maps
/-- What a journal knows of a saga. -/
def SagaM.core (g : SagaM) : Int × Int × Int × List (ByteArray × ByteArray) := (g.id, g.st, g.step, g.steps)
end Go.Proofs.YtkafmfdipmhleaaGreatDoor
