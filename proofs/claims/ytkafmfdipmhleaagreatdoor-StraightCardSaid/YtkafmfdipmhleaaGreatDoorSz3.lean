/-
  What is proved: the contract of journal.Open, of a journal that holds records, on a disk that tells no errors. contracts of sagas.Open and plain.Open, of a journal that holds records, on a disk that tells no errors. the contract of the statements' helper straight, where what was done has the right form. the contract of the statements' helper begun.
-/
import Derived.Test.YtkafmfdipmhleaaGreatDoorSz2

namespace Go.Proofs.YtkafmfdipmhleaaGreatDoor
open Go.RowKit Go.Maps

/-- What a journal tells: a saga was taken; one moved. -/
inductive Ev where
  | taken (id : Int) (l : List (ByteArray × ByteArray))
  | moved (id : Int) (rp : Int)
def Ev.len : Ev → Nat
  | .taken _ _ => 2
  | .moved _ _ => 1
def evLen (l : List Ev) : Nat := (l.map Ev.len).sum
def applyEv (l : List SagaM) : Ev → List SagaM
  | .taken id st => insSaga (SagaM.new id st) l
  | .moved id rp => l.map (fun g => if g.id = id then g.moved rp else g)
def EvOk (l : List SagaM) : Ev → Prop
  | .taken id st => (∀ x ∈ l, x.id ≠ id) ∧ 1 ≤ id ∧ id ≤ 1000 ∧ smallSteps st
  | .moved id rp => 0 ≤ rp ∧ ∃ g ∈ l, g.id = id ∧ (g.st = 1 ∨ g.st = 2)
def EvsOk (l : List SagaM) : List Ev → Prop
  | [] => True
  | e :: r => EvOk l e ∧ EvsOk (applyEv l e) r
def EvOn (d : DiskM) (ep i : Nat) : Ev → Prop
  | .taken id st => ∃ r t : RecM, parseM (d.look i) = some (r, true) ∧ r.epoch = ep ∧ r.index = i ∧ r.kind = 2 ∧ r.saga = id.toNat ∧ r.steps = st ∧
      parseM (d.look (i + 1)) = some (t, true) ∧ t.epoch = ep ∧ t.index = i + 1 ∧ t.kind = 3 ∧ t.saga = id.toNat
  | .moved id rp => ∃ r : RecM, parseM (d.look i) = some (r, true) ∧ r.epoch = ep ∧ r.index = i ∧ r.kind = 4 ∧ r.saga = id.toNat ∧ r.reply = rp.toNat
def EvsOn (d : DiskM) (ep : Nat) (i : Nat) : List Ev → Prop
  | [] => True
  | e :: r => EvOn d ep i e ∧ EvsOn d ep (i + e.len) r
/-- Where a journal ends. -/
def JStop (d : DiskM) (ep i : Nat) : Prop :=
  ∃ r ok, parseM (d.look i) = some (r, ok) ∧ (atOk ⟨ep, i, true⟩ i r ok = false ∨ (r.kind ≠ 4 ∧ r.kind ≠ 2) ∨
    (r.kind = 2 ∧ i + 1 < d.blocks.length ∧ ∃ t ok', parseM (d.look (i + 1)) = some (t, ok') ∧ (atOk ⟨ep, i, true⟩ (i + 1) t ok' = false ∨ t.kind ≠ 3 ∨ t.saga ≠ r.saga)))
def DiskM.reads (d : DiskM) (m : Nat) : DiskM := { d with calls := d.calls + m }
theorem reads_count {d : DiskM} (hq : d.quiet) (hc : 0 ≤ d.calls ∧ d.calls < 2 ^ 40) (m : Nat) (hm : m ≤ 10000) : (d.reads m).count = d.reads (m + 1) := by
  have hq' : (d.reads m).quiet := hq
  have hb := hq'.bad
  have hw : wrap64 (d.calls + (m : Int) + 1) = d.calls + (m : Int) + 1 := wrap_in _ (by omega)
  unfold DiskM.count
  rw [hb]
  simp only [DiskM.reads, hw]
  congr 1
  omega
/-- Where a journal stands, as its block in memory tells it. -/
def enOf (w : World) (jb : Nat) : Nat := match w.cell? ⟨jb, 2, none⟩ with | some (.int _ q) => q.toNat | _ => 0
theorem wrap_one (n : Nat) (h : n ≤ 2000) : wrap64 ((n : Int) + 1) = ((n + 1 : Nat) : Int) := by
  have := wrap_in ((n : Int) + 1) (by omega)
  omega
theorem wrap_two (n : Nat) (h : n ≤ 2000) : wrap64 ((n : Int) + 2) = ((n + 2 : Nat) : Int) := by
  have := wrap_in ((n : Int) + 2) (by omega)
  omega
theorem wrap_two' (n m : Nat) (hm : m = n + 2) (h : n ≤ 2000) : wrap64 ((n : Int) + 2) = (m : Int) := by
  have := wrap_in ((n : Int) + 2) (by omega)
  omega
theorem evLen_take (l : List Ev) (k : Nat) (e : Ev) (h : l[k]? = some e) : evLen (l.take (k + 1)) = evLen (l.take k) + e.len ∧ evLen (l.take k) + e.len ≤ evLen l := by
  have hk := (List.getElem?_eq_some_iff.1 h).1
  have he : l[k] = e := (List.getElem?_eq_some_iff.1 h).2
  have h1 : evLen (l.take (k + 1)) = evLen (l.take k) + e.len := by
    rw [List.take_succ_eq_append_getElem hk, he]; simp [evLen]
  refine ⟨h1, ?_⟩
  rw [← h1]
  have h2 : evLen l = evLen (l.take (k + 1)) + evLen (l.drop (k + 1)) := by
    unfold evLen
    rw [← List.sum_append_nat, ← List.map_append, List.take_append_drop]
  omega
theorem evLen_len (l : List Ev) : l.length ≤ evLen l := by
  induction l with
  | nil => simp [evLen]
  | cons a l ih => cases a <;> simp [evLen, Ev.len] at ih ⊢ <;> omega
theorem evsOn_at {d : DiskM} {ep i : Nat} {l : List Ev} (h : EvsOn d ep i l) (k : Nat) (e : Ev) (hk : l[k]? = some e) : EvOn d ep (i + evLen (l.take k)) e := by
  induction l generalizing i k with
  | nil => simp at hk
  | cons a l ih =>
    cases k with
    | zero => simp at hk; subst hk; exact h.1
    | succ k =>
      have := ih h.2 k (by simpa using hk)
      rw [List.take_succ_cons, show evLen (a :: l.take k) = a.len + evLen (l.take k) by simp [evLen], ← Nat.add_assoc]
      exact this
theorem evsOk_at {m : List SagaM} {l : List Ev} (h : EvsOk m l) (k : Nat) (e : Ev) (hk : l[k]? = some e) : EvOk ((l.take k).foldl applyEv m) e ∧ (l.take (k + 1)).foldl applyEv m = applyEv ((l.take k).foldl applyEv m) e := by
  induction l generalizing m k with
  | nil => simp at hk
  | cons a l ih =>
    cases k with
    | zero => simp at hk; subst hk; exact ⟨h.1, rfl⟩
    | succ k => exact ih h.2 k (by simpa using hk)
/-- The sagas of a journal. -/
structure SgsOk (l : List SagaM) : Prop where
  ok : ∀ g ∈ l, g.ok
  ord : l.Pairwise (fun a b => a.id < b.id)
theorem SgsOk.nil : SgsOk [] := ⟨fun _ h => by simp at h, List.Pairwise.nil⟩
theorem SgsOk.len {l : List SagaM} (h : SgsOk l) : l.length ≤ 1000 := by
  have := len_of_ord l 0 1000 h.ord (fun g hg => by have := h.ok g hg; exact ⟨by have := this.1; omega, this.2.1⟩) (by omega)
  omega
theorem map_if_set {l : List SagaM} (h : l.Pairwise (fun a b => a.id < b.id)) {i : Nat} {g : SagaM} (hg : l[i]? = some g) (rp : Int) : l.map (fun x => if x.id = g.id then x.moved rp else x) = l.set i (g.moved rp) := by
  have hi := (List.getElem?_eq_some_iff.1 hg).1
  apply List.ext_getElem?
  intro j
  rw [List.getElem?_map]
  by_cases e : j = i
  · subst e
    rw [List.getElem?_set_self hi, hg]; simp
  · rw [List.getElem?_set_ne (fun h => e h.symm)]
    cases hj : l[j]? with
    | none => rfl
    | some x =>
      obtain ⟨p1, q1⟩ := List.getElem?_eq_some_iff.1 hj
      obtain ⟨p2, q2⟩ := List.getElem?_eq_some_iff.1 hg
      have hpw := List.pairwise_iff_getElem.1 h
      have : x.id ≠ g.id := by
        rcases Nat.lt_or_ge j i with h3 | h3
        · have := hpw j i p1 p2 h3; rw [q1, q2] at this; omega
        · have := hpw i j p2 p1 (by omega); rw [q1, q2] at this; omega
      simp [this]
theorem SgsOk.ev {l : List SagaM} {e : Ev} (h : SgsOk l) (he : EvOk l e) : SgsOk (applyEv l e) := by
  cases e with
  | taken id st =>
    obtain ⟨h1, h2, h3, h4⟩ := he
    refine ⟨fun g hg => ?_, insSaga_ord _ _ h.ord h1⟩
    rcases insSaga_mem.1 hg with rfl | hg
    · exact ⟨h2, h3, h4, by simp [SagaM.new], .inl ⟨.inl rfl, by simp [SagaM.new], by have := h4.1; simp only [SagaM.new]; omega⟩⟩
    · exact h.ok g hg
  | moved id rp =>
    obtain ⟨_, g, hg, rfl, hst⟩ := he
    obtain ⟨i, hi⟩ := List.getElem?_of_mem hg
    show SgsOk (l.map _)
    rw [map_if_set h.ord hi rp]
    refine ⟨fun x hx => ?_, ord_set h.ord hi (moved_id g rp)⟩
    rcases mem_set_cases hx with rfl | hx
    · exact ((h.ok g hg).moved hst rp).1
    · exact h.ok x hx
theorem sgsOk_take {l : List Ev} (h : EvsOk [] l) (k : Nat) : SgsOk ((l.take k).foldl applyEv []) := by
  have key : ∀ (l : List Ev) (m : List SagaM) (k : Nat), SgsOk m → EvsOk m l → SgsOk ((l.take k).foldl applyEv m) := by
    intro l
    induction l with
    | nil => intro m k hm _; simpa using hm
    | cons a l ih =>
      intro m k hm ho
      cases k with
      | zero => exact hm
      | succ k => exact ih _ k (hm.ev ho.1) ho.2
  exact key l [] k SgsOk.nil h
theorem RdAt.keepK {w w' : World} {C xb mb : Nat} {bl : List Nat} {l : List SagaM} {K : List Nat} (h : RdAt w C xb mb bl l) (hf : FrK K w w') (h1 : 29 ∉ K) (h2 : 80 ∉ K) (h3 : 0 ∉ K) (h4 : 89 ∉ K) (h5 : 55 ∉ K) : RdAt w' C xb mb bl l := by
  obtain ⟨c0, c2, c3, c4, c5, he⟩ := h.eng
  exact ⟨hf.block _ _ h.cap h1, ⟨c0, c2, c3, c4, c5, hf.block _ _ he h2⟩, map_keepK h.mp hf h3, h.len, sgs_keepK h.sg hf h4 h5, h.nd⟩
theorem enOf_jn {w : World} {jb db : Nat} {j : JnM} (h : JnAt w jb db j) : enOf w jb = j.en := by
  unfold JnAt jnCells at h
  unfold enOf
  rw [cellv, h]
  simp [cellOf]
def jOpnPost (w : World) (db bb C xb mb : Nat) (d : DiskM) (j : JnM) (l : List SagaM) (e : Ending) (w' : World) : Prop :=
  ∃ jb, e = .returned (.tuple #[.pointer (some ⟨jb, 0, none⟩), .nilIface]) ∧ w.heap.size ≤ jb ∧ JnAt w' jb db j ∧ (∃ m, m ≤ 10000 ∧ DiskAt w' db bb (d.reads m)) ∧
    (∃ bl, RdAt w' C xb mb bl l ∧ ∀ b ∈ bl, w.heap.size ≤ b) ∧ Fr (fun k => k = db ∨ k = mb) w w'
set_option maxRecDepth 100000 in
set_option maxHeartbeats 4000000 in
theorem jOpen_calls {w : World} {db bb C xb mb : Nat} {d : DiskM} (h : DiskAt w db bb d) (hq : d.quiet) (hc : 0 ≤ d.calls ∧ d.calls < 2 ^ 40) (hb : d.blocks.length ≤ 1000) (r0 : RecM) (h0 : parseM (d.look 0) = some (r0, true)) (hk : r0.kind = 1) (evs : List Ev)
    (hev : EvsOn d r0.epoch 1 evs) (hst : JStop d r0.epoch (1 + evLen evs)) (hok : EvsOk [] evs) (hel : evLen evs + 1 < d.blocks.length) (hR : RdAt w C xb mb [] []) :
    Calls Tryz.prog 80 #[.iface 27 (.pointer (some ⟨db, 0, none⟩)), .func (.func 81) #[] #[.pointer (some ⟨C, 0, none⟩)], .func (.func 82) #[] #[.pointer (some ⟨C, 0, none⟩)]] w (jOpnPost w db bb C xb mb d ⟨r0.epoch, 1 + evLen evs, true⟩ (evs.foldl applyEv [])) := by
  have hmf : ∀ (fn : Fn) (first cap : Array Value) (w : World), (Instr.makeFunc fn first cap).run Tryz.prog w = .ok (.func fn first cap) w := fun _ _ _ _ => rfl
  have hlk := DiskM.look_length h.wf (show 0 < d.blocks.length by omega)
  have hdl := disk_lt h
  have Hq := Lib.hid hq
  have H0 := Lib.hid h0
  have Hk := Lib.hid hk
  have Hc := Lib.hid hc
  have Hb := Lib.hid hb
  have Hev := Lib.hid hev
  have Hst := Lib.hid hst
  have Hok := Lib.hid hok
  have Hel := Lib.hid hel
  have HR := Lib.hid hR
  have Hl : Hid (1 < d.blocks.length) := by show _ < _; omega
  have Hlk := Lib.hid hlk
  have Hd := Lib.hid h
  have Hdl := Lib.hid hdl
  clear h hq h0 hk hc hb hev hst hok hel hR hlk hdl
  go_enter_defers Tryz.func80, Tryz.ntmps80
  go_upto_region 1 with fail
  apply wp_scope_straight
  go_upto_region 3 with fail
  have hN1 : New w ((w.alloc (.cells #[.nilIface] 32)).alloc (.cells #[.iface 27 (.pointer (some ⟨db, 0, none⟩)), .int .u32 0, .int .i64 1, .bool true] 132)) := ((Fr.refl _ w).alloc _).alloc _
  have he1 := heap_alloc_keep (.cells #[.iface 27 (.pointer (some ⟨db, 0, none⟩)), .int .u32 0, .int .i64 1, .bool true] 132) (heap_alloc_new w (.cells #[.nilIface] 32))
  have hj1 := heap_alloc_new (w.alloc (.cells #[.nilIface] 32)) (.cells #[.iface 27 (.pointer (some ⟨db, 0, none⟩)), .int .u32 0, .int .i64 1, .bool true] 132)
  rw [sz_alloc] at hj1
  have hsz1 : ((w.alloc (.cells #[.nilIface] 32)).alloc (.cells #[.iface 27 (.pointer (some ⟨db, 0, none⟩)), .int .u32 0, .int .i64 1, .bool true] 132)).heap.size = w.heap.size + 1 + 1 := by rw [sz_alloc, sz_alloc]
  have HN1 := Lib.hid hN1
  have HE1 := Lib.hid he1
  have HJ1 := Lib.hid hj1
  have Hsz1 := Lib.hid hsz1
  clear hN1 he1 hsz1
  generalize ((w.alloc (.cells #[.nilIface] 32)).alloc (.cells #[.iface 27 (.pointer (some ⟨db, 0, none⟩)), .int .u32 0, .int .i64 1, .bool true] 132)) = W1 at HN1 HE1 HJ1 Hsz1 hj1 ⊢
  have Hd1 := Lib.hid (Hd.out.new HN1.out)
  have hcv := cellv W1
  go_upto_region 4 with (first
    | (go_at_call 105; refine Calls.mono (read_quiet Hd1.out Hq.out 0 (by have := Hl.out; omega)) ?_; rintro e w2 ⟨g, hg, rfl, hgc, hd2, hf2⟩)
    | (go_at_call 104; refine Calls.mono (parse_calls w2 g _ 5 (d.look 0) r0 true Hlk.out hgc (by intro j hj; simp [Hlk.out, hj]) H0.out) ?_; rintro e w3 ⟨sv, rfl, hsv, hf3⟩; obtain ⟨sa, sm, sc, rfl⟩ := own_slice hsv; simp only [rcells])
    | fail)
  have hlt := Hdl.out
  have hs1 := HN1.out.size
  have hf23 : Fr (· = db) W1 w3 := hf2.trans (hf3.mono (fun _ _ f => f.elim))
  have hf24 : Fr (· = db) W1 (w3.alloc (.cells #[.int .u8 r0.kind, .int .u32 r0.epoch, .int .i64 r0.index, .int .i64 r0.saga, .int .i64 r0.reply, .slice sa sm sc] 91)) := hf23.alloc _
  have hj4 := hf24.get HJ1.out (by omega)
  have he4 := hf24.get HE1.out (by omega)
  have hr4 := heap_alloc_new w3 (.cells #[.int .u8 r0.kind, .int .u32 r0.epoch, .int .i64 r0.index, .int .i64 r0.saga, .int .i64 r0.reply, .slice sa sm sc] 91)
  have hd4 := hd2.new (hf3.alloc (.cells #[.int .u8 r0.kind, .int .u32 r0.epoch, .int .i64 r0.index, .int .i64 r0.saga, .int .i64 r0.reply, .slice sa sm sc] 91))
  have hne4 : w3.heap.size ≠ w.heap.size + 1 ∧ w3.heap.size ≠ w.heap.size := by have := hf23.size; have := Hsz1.out; omega
  have Hne4 := Lib.hid hne4
  have Hf4 := Lib.hid hf24
  have Hj4 := Lib.hid hj4
  have He4 := Lib.hid he4
  have Hd4 := Lib.hid hd4
  clear hlt hs1 hf23 hf24 he4 hd4 hne4 hcv hj1 hsv hf2 hf3 hd2 hg hgc
  generalize w3.alloc (.cells #[.int .u8 r0.kind, .int .u32 r0.epoch, .int .i64 r0.index, .int .i64 r0.saga, .int .i64 r0.reply, .slice sa sm sc] 91) = W4 at Hf4 Hj4 He4 Hd4 hj4 hr4 ⊢
  generalize hB : w3.heap.size = B at Hne4 hr4 ⊢
  clear hB
  have hk1 : r0.kind = 1 := Hk.out
  rw [hk1] at hr4
  have hcv := cellv W4
  have hfv := frozv W4
  go_upto_region 7 with fail
  have hj6 : JnAt (W4.setCell ⟨w.heap.size + 1, 1, none⟩ (.int .u32 r0.epoch)) (w.heap.size + 1) db ⟨r0.epoch, 1, true⟩ := by
    unfold JnAt
    rw [hp_setCell, if_pos rfl, hj4]; rfl
  have he6 : (W4.setCell ⟨w.heap.size + 1, 1, none⟩ (.int .u32 r0.epoch)).heap[w.heap.size]? = some (.cells #[.nilIface] 32 (0, 0)) := by
    rw [hp_setCell, if_neg (by omega), He4.out]
  have hd6 := Hd4.out.frame (Fr.one (w.heap.size + 1) W4 1 (.int .u32 r0.epoch)) (by
    rintro k rfl
    have := Hdl.out
    exact ⟨by omega, by omega, _, Hj4.out, by simp [kindOf]⟩)
  have hF6 : Fr (· = db) w (W4.setCell ⟨w.heap.size + 1, 1, none⟩ (.int .u32 r0.epoch)) :=
    ((HN1.out.mono (fun _ _ f => f.elim)).trans Hf4.out).trans' (Fr.one (w.heap.size + 1) W4 1 _) (by rintro i hi e; omega)
  have Hj6 := Lib.hid hj6
  have He6 := Lib.hid he6
  have Hd6 := Lib.hid hd6
  have HF6 := Lib.hid hF6
  have hjj := hj6
  unfold JnAt jnCells at hjj
  simp only at hjj
  clear hj6 he6 hd6 hF6 hcv hfv hj4 hr4
  generalize W4.setCell ⟨w.heap.size + 1, 1, none⟩ (.int .u32 r0.epoch) = W6 at Hj6 He6 Hd6 HF6 hjj ⊢
  apply wp_label
  go_wp2_with fail
  have hF6' : Hid (Fr (fun k => k = db ∨ k = mb) w W6) := HF6.out.mono (fun _ _ e => .inl e)
  have HR6 : Hid (RdAt W6 C xb mb [] []) := HR.out.keepK (HF6.out.toK (K := [103]) (by
    rintro k o rfl ho
    obtain ⟨_, _, _, _, e1, _⟩ := Hd.out
    rw [e1] at ho; cases ho; simp [kindOf])) (by decide) (by decide) (by decide) (by decide) (by decide)
  have HD6 : Hid (DiskAt W6 db bb (d.reads 1)) := by
    have := reads_count Hq.out Hc.out 0 (by omega)
    rw [show d.reads 0 = d by simp [DiskM.reads]] at this
    show DiskAt _ _ _ _
    rw [← this]; exact Hd6.out
  have HC0 : Hid (∀ m, m ≤ 10000 → (d.reads m).count = d.reads (m + 1)) := fun m hm => reads_count Hq.out Hc.out m hm
  have Hmb : Hid (mb < w.heap.size) := by
    obtain ⟨_, _, h, _⟩ := HR.out.mp
    exact lt_of_hp h
  clear hjj hk1
  generalize ((r0.kind : Nat) : Int) = kk0
  go_loopw [44] (fun _ wr => ∃ k : Nat, k ≤ evs.length ∧ JnAt wr (w.heap.size + 1) db ⟨r0.epoch, 1 + evLen (evs.take k), true⟩ ∧ (∃ m, m ≤ 2 * k + 1 ∧ DiskAt wr db bb (d.reads m)) ∧
    (∃ bl, RdAt wr C xb mb bl ((evs.take k).foldl applyEv []) ∧ ∀ b ∈ bl, w.heap.size + 2 ≤ b) ∧ wr.heap[w.heap.size]? = some (.cells #[.nilIface] 32 (0, 0)) ∧ Fr (fun k => k = db ∨ k = mb) w wr) (fun _ wr => d.blocks.length + 1 - enOf wr (w.heap.size + 1))
  case atStart => exact ⟨0, Nat.zero_le _, Hj6.out, ⟨1, by omega, HD6.out⟩, ⟨[], HR6.out, fun b hb => by simp at hb⟩, He6.out, hF6'.out⟩
  case round =>
    obtain ⟨k, hk, hjk, ⟨m, hm, hdk⟩, ⟨bl, hrk, hbl⟩, hek, hfk⟩ := hrel
    have Hjk := Lib.hid hjk
    have Hdk := Lib.hid hdk
    have Hrk := Lib.hid hrk
    have Hbl := Lib.hid hbl
    have Hek := Lib.hid hek
    have Hfk := Lib.hid hfk
    have Hm := Lib.hid hm
    have hjj := hjk
    unfold JnAt jnCells at hjj
    simp only at hjj
    clear hjk hdk hrk hbl hek hfk hm
    by_cases hkn : k < evs.length
    · obtain ⟨e, he⟩ : ∃ e, evs[k]? = some e := ⟨evs[k], List.getElem?_eq_getElem hkn⟩
      obtain ⟨hl1, hl2⟩ := evLen_take evs k e he
      obtain ⟨ho1, ho2⟩ := evsOk_at Hok.out k e he
      have hon := evsOn_at Hev.out k e he
      have hsg := sgsOk_take Hok.out k
      have hel1 : Hid (evs.length ≤ 1000) := by have := evLen_len evs; have := Hel.out; have := Hb.out; show _ ≤ _; omega
      cases e with
      | moved id rp =>
        obtain ⟨hrp, g, hg, rfl, hgst⟩ := ho1
        obtain ⟨r, hp, hre, hri, hrk, hrs, hrr⟩ := hon
        obtain ⟨i, hi⟩ := List.getElem?_of_mem hg
        have hid1 := hsg.ok g hg
        have hil : 1 + evLen (evs.take k) < d.blocks.length := by have := Hel.out; simp only [Ev.len] at hl2; omega
        have HA := Lib.hid (at_calls Hjk.out Hdk.out Hq.out (1 + evLen (evs.take k)) r true hp hil)
        have hat : atOk ⟨r0.epoch, 1 + evLen (evs.take k), true⟩ (1 + evLen (evs.take k)) r true = true := by simp [atOk, hre, hri]
        rw [hat] at HA
        have HC1 := Lib.hid (HC0.out m (by have := Hm.out; have := hel1.out; omega))
        have hsid : ((r.saga : Nat) : Int) = g.id := by rw [hrs]; have := hid1.1; omega
        have hrpl : ((r.reply : Nat) : Int) = rp := by rw [hrr]; omega
        have HAP : Hid (applyEv ((evs.take k).foldl applyEv []) (.moved g.id rp) = ((evs.take k).foldl applyEv []).set i (g.moved rp)) := map_if_set hsg.ord hi rp
        have Hi := Lib.hid hi
        have Hg := Lib.hid hid1
        have Hsg := Lib.hid hsg
        have Ho2 := Lib.hid ho2
        have Hl1 := Lib.hid hl1
        have Hl2 := Lib.hid hl2
        have Hil := Lib.hid hil
        have Hst2 := Lib.hid hgst
        have Hrk2 := Lib.hid hrk
        have Hsid := Lib.hid hsid
        have Hrpl := Lib.hid hrpl
        have Hkn := Lib.hid hkn
        clear he hl1 hl2 ho2 hsg hrp hg hgst hp hre hri hrk hrs hrr hi hid1 hil hat hsid hrpl hkn
        have hcv := cellv wr
        go_upto_region 8 with (first
          | (go_at_call 106; refine Calls.mono HA.out ?_; rintro e w7 ⟨sv, rfl, hsv, hd7, hf7⟩; obtain ⟨ta, tm, tc, rfl⟩ := own_slice hsv; simp only [rcells])
          | fail)
        rw [HC1.out] at hd7
        have hN8 := (Fr.refl (fun _ => False) w7).alloc (.cells #[.int .u8 r.kind, .int .u32 r.epoch, .int .i64 r.index, .int .i64 r.saga, .int .i64 r.reply, .slice ta tm tc] 91)
        have hr8 := heap_alloc_new w7 (.cells #[.int .u8 r.kind, .int .u32 r.epoch, .int .i64 r.index, .int .i64 r.saga, .int .i64 r.reply, .slice ta tm tc] 91)
        have hf8 : Fr (· = db) wr (w7.alloc (.cells #[.int .u8 r.kind, .int .u32 r.epoch, .int .i64 r.index, .int .i64 r.saga, .int .i64 r.reply, .slice ta tm tc] 91)) := hf7.alloc _
        have hd8 := hd7.new hN8
        rw [Hrk2.out, Hsid.out, Hrpl.out] at hr8 hf8 hd8 ⊢
        generalize w7.alloc _ = W8 at hr8 hf8 hd8 ⊢
        generalize w7.heap.size = B8 at hr8 ⊢
        have hj8 := hf8.get Hjk.out (by have := Hdl.out; omega)
        have he8 := hf8.get Hek.out (by have := Hdl.out; omega)
        have hk8 : FrK [103] wr W8 := hf8.toK (by
          rintro k o rfl ho
          obtain ⟨_, _, _, _, e1, _⟩ := Hdk.out
          rw [e1] at ho; cases ho; simp [kindOf])
        have hR8 := Hrk.out.keepK hk8 (by decide) (by decide) (by decide) (by decide) (by decide)
        have HM := Lib.hid (moved_calls (rp := rp) hR8 Hsg.out.ord Hi.out Hg.out Hst2.out)
        have Hr8 := Lib.hid hr8
        have Hf8 := Lib.hid hf8
        have Hd8 := Lib.hid hd8
        have Hj8 := Lib.hid hj8
        have He8 := Lib.hid he8
        have HR8 := Lib.hid hR8
        have b0 : W8.cell? ⟨B8, 0, none⟩ = some (.int .u8 4) := by rw [cellv, hr8]; rfl
        have b3 : W8.cell? ⟨B8, 3, none⟩ = some (.int .i64 g.id) := by rw [cellv, hr8]; rfl
        have b4 : W8.cell? ⟨B8, 4, none⟩ = some (.int .i64 rp) := by rw [cellv, hr8]; rfl
        clear hcv hjj hf7 hd7 hsv hN8 hr8 hf8 hd8 hj8 he8 hk8 hR8
        go_upto_region 10 with (first
          | (go_at_call 82; refine Calls.mono HM.out ?_; rintro e w9 ⟨rfl, hR9, hf9⟩)
          | fail)
        have hblk : ∀ k, k ∈ bl → w.heap.size + 2 ≤ k := Hbl.out
        have hj9 : JnAt w9 (w.heap.size + 1) db ⟨r0.epoch, 1 + evLen (evs.take k), true⟩ := hf9.get Hj8.out (fun e => by have := hblk _ e; omega)
        have he9 := hf9.get He8.out (fun e => by have := hblk _ e; omega)
        have hd9 : DiskAt w9 db bb (d.reads (m + 1)) := Hd8.out.frame hf9 (fun k hk => by
          have h1 := hblk k hk
          have h2 := Hdl.out
          obtain ⟨i, hi⟩ := List.getElem?_of_mem hk
          obtain ⟨_, e1, _⟩ := HR8.out.sg i _ k (List.getElem?_eq_getElem (by rw [← HR8.out.len]; exact (List.getElem?_eq_some_iff.1 hi).1)) hi
          exact ⟨by omega, by omega, _, e1, by simp [kindOf]⟩)
        have hF9 : Fr (fun k => k = db ∨ k = mb) w w9 := (Hfk.out.trans (Hf8.out.mono (fun _ _ e => .inl e))).trans' hf9 (fun i hi e => by have := hblk i e; omega)
        rw [← HAP.out, ← Ho2.out] at hR9
        have hjj9 := hj9
        unfold JnAt jnCells at hjj9
        simp only at hjj9
        have Hj9 := Lib.hid hj9
        have He9 := Lib.hid he9
        have Hd9 := Lib.hid hd9
        have HF9 := Lib.hid hF9
        have HR9 := Lib.hid hR9
        clear hblk hj9 he9 hd9 hF9 hR9 hf9 b0 b3 b4
        have hcv := cellv w9
        have hfv := frozv w9
        have hw1 : wrap64 (((1 + evLen (evs.take k) : Nat) : Int) + 1) = ((1 + evLen (evs.take (k + 1)) : Nat) : Int) := by
          have h1 := Hl1.out; have h2 := Hl2.out; have h3 := Hel.out; have h4 := Hb.out
          simp only [Ev.len] at h1 h2
          rw [wrap_in _ (by omega)]; omega
        have HEN : Hid (1 + evLen (evs.take (k + 1)) = 1 + evLen (evs.take k) + 1 ∧ 1 + evLen (evs.take k) ≤ d.blocks.length) := by
          have h1 := Hl1.out; have h2 := Hl2.out; have h3 := Hel.out
          simp only [Ev.len] at h1 h2
          exact ⟨by omega, by omega⟩
        generalize hE0 : 1 + evLen (evs.take k) = E0 at hjj9 hw1 Hj9 HEN Hjk
        generalize hE1 : 1 + evLen (evs.take (k + 1)) = E1 at hw1 HEN ⊢
        have HE1 := Lib.hid hE1
        have HE0 := Lib.hid hE0
        clear hE0 hE1
        go_wp2_with fail
        have hj10 : JnAt (w9.setCell ⟨w.heap.size + 1, 2, none⟩ (.int .i64 (E1 : Nat))) (w.heap.size + 1) db ⟨r0.epoch, E1, true⟩ := by
          have h9 := Hj9.out
          unfold JnAt jnCells at h9 ⊢
          rw [hp_setCell, if_pos rfl, h9]; rfl
        have hk10 : FrK [133] w9 (w9.setCell ⟨w.heap.size + 1, 2, none⟩ (.int .i64 (E1 : Nat))) := (Fr.one (w.heap.size + 1) w9 2 _).toK (by
          rintro k o rfl ho
          have h9 := Hj9.out
          unfold JnAt at h9
          rw [h9] at ho; cases ho; simp [kindOf])
        go_roundw
        case rel =>
          refine ⟨k + 1, Hkn.out, by rw [HE1.out]; exact hj10, ⟨m + 1, by have := Hm.out; omega, ?_⟩, ⟨bl, HR9.out.keepK hk10 (by decide) (by decide) (by decide) (by decide) (by decide), Hbl.out⟩, ?_, ?_⟩
          · exact Hd9.out.frame (Fr.one (w.heap.size + 1) w9 2 _) (by rintro k rfl; have := Hdl.out; exact ⟨by omega, by omega, _, Hj9.out, by simp [kindOf]⟩)
          · rw [hp_setCell, if_neg (by omega)]; exact He9.out
          · exact HF9.out.trans' (Fr.one (w.heap.size + 1) w9 2 _) (fun i hi e => by omega)
        case measure =>
          rw [enOf_jn hj10, enOf_jn Hjk.out]
          have := HEN.out
          simp only; omega
      | taken id st =>
        obtain ⟨hnew, hid1, hid2, hsm⟩ := ho1
        obtain ⟨r, t, hp, hre, hri, hrk, hrs, hrst, hp2, hte, hti, htk, hts⟩ := hon
        simp only [Ev.len] at hl1 hl2
        have hil : 1 + evLen (evs.take k) + 1 < d.blocks.length := by have := Hel.out; omega
        have HA := Lib.hid (at_calls Hjk.out Hdk.out Hq.out (1 + evLen (evs.take k)) r true hp (show 1 + evLen (evs.take k) < d.blocks.length by omega))
        have hat : atOk ⟨r0.epoch, 1 + evLen (evs.take k), true⟩ (1 + evLen (evs.take k)) r true = true := by simp [atOk, hre, hri]
        have hat2 : atOk ⟨r0.epoch, 1 + evLen (evs.take k), true⟩ (1 + evLen (evs.take k) + 1) t true = true := by simp [atOk, hte, hti]
        have HA2 := Lib.hid (fun (w' : World) (hj : JnAt w' (w.heap.size + 1) db ⟨r0.epoch, 1 + evLen (evs.take k), true⟩) (hd : DiskAt w' db bb (d.reads (m + 1))) => at_calls hj hd Hq.out (1 + evLen (evs.take k) + 1) t true hp2 hil)
        rw [hat2] at HA2
        rw [hat] at HA
        have HC1 := Lib.hid (HC0.out m (by have := Hm.out; have := hel1.out; omega))
        have HC2 := Lib.hid (HC0.out (m + 1) (by have := Hm.out; have := hel1.out; omega))
        have hsid : ((r.saga : Nat) : Int) = id := by rw [hrs]; omega
        have hsid2 : ((t.saga : Nat) : Int) = id := by rw [hts]; omega
        have HAP : Hid (applyEv ((evs.take k).foldl applyEv []) (.taken id st) = insSaga (SagaM.new id st) ((evs.take k).foldl applyEv [])) := rfl
        have e2 : 1 + evLen (evs.take (k + 1)) = 1 + evLen (evs.take k) + 2 := by omega
        have e3 : 1 + evLen (evs.take k) ≤ 2000 := by have h4 := Hb.out; omega
        have HW1 := Lib.hid (wrap_one (1 + evLen (evs.take k)) e3)
        have HW2 := Lib.hid (wrap_two' (1 + evLen (evs.take k)) (1 + evLen (evs.take (k + 1))) e2 e3)
        have HEN : Hid (1 + evLen (evs.take (k + 1)) = 1 + evLen (evs.take k) + 2 ∧ 1 + evLen (evs.take k) ≤ d.blocks.length) := ⟨by omega, by omega⟩
        have Hsm := Lib.hid hsm
        have Hnew := Lib.hid hnew
        have Hidb := Lib.hid (And.intro hid1 hid2)
        have Hsg := Lib.hid hsg
        have Ho2 := Lib.hid ho2
        have Hrk2 := Lib.hid hrk
        have Htk2 := Lib.hid htk
        have Hsid := Lib.hid hsid
        have Hsid2 := Lib.hid hsid2
        have Hrst := Lib.hid hrst
        have Hkn := Lib.hid hkn
        clear e2 he hl1 hl2 ho2 hsg hnew hid1 hid2 hsm hp hre hri hrk hrs hrst hp2 hte hti htk hts hil hat hat2 hsid hsid2 hkn e3
        have hcv := cellv wr
        go_upto_region 8 with (first
          | (go_at_call 106; refine Calls.mono HA.out ?_; rintro e w7 ⟨sv, rfl, hsv, hd7, hf7⟩; obtain ⟨ta, tm, tc, rfl⟩ := own_slice hsv; simp only [rcells])
          | fail)
        rw [HC1.out] at hd7
        have hN8 := (Fr.refl (fun _ => False) w7).alloc (.cells #[.int .u8 r.kind, .int .u32 r.epoch, .int .i64 r.index, .int .i64 r.saga, .int .i64 r.reply, .slice ta tm tc] 91)
        have hr8 := heap_alloc_new w7 (.cells #[.int .u8 r.kind, .int .u32 r.epoch, .int .i64 r.index, .int .i64 r.saga, .int .i64 r.reply, .slice ta tm tc] 91)
        have hf8 : Fr (· = db) wr (w7.alloc (.cells #[.int .u8 r.kind, .int .u32 r.epoch, .int .i64 r.index, .int .i64 r.saga, .int .i64 r.reply, .slice ta tm tc] 91)) := hf7.alloc _
        have hd8 := hd7.new hN8
        have hst8 : StepsAt (w7.alloc (.cells #[.int .u8 r.kind, .int .u32 r.epoch, .int .i64 r.index, .int .i64 r.saga, .int .i64 r.reply, .slice ta tm tc] 91)) (.slice ta tm tc) st := by
          rw [Hrst.out] at hsv
          exact (hsv.at (by have := Hsm.out.1; have := Hsm.out.2.1; omega)).frame hN8 (fun _ f => f.elim)
        rw [Hrk2.out, Hsid.out] at hr8 hf8 hd8 hst8 ⊢
        generalize w7.alloc _ = W8 at hr8 hf8 hd8 hst8 ⊢
        generalize w7.heap.size = B8 at hr8 ⊢
        have hne8 : ¬ (w.heap.size + 1 = db) := by have := Hdl.out; omega
        have hj80 := Fr.get (k := w.heap.size + 1) hf8 Hjk.out hne8
        clear hne8
        have hj8 : JnAt W8 (w.heap.size + 1) db ⟨r0.epoch, 1 + evLen (evs.take k), true⟩ := hj80
        clear hj80
        have hne8 : ¬ (w.heap.size = db) := by have := Hdl.out; omega
        have he8 := Fr.get (k := w.heap.size) hf8 Hek.out hne8
        clear hne8
        have Hr8 := Lib.hid hr8
        have Hf8 := Lib.hid hf8
        have Hd8 := Lib.hid hd8
        have Hj8 := Lib.hid hj8
        have He8 := Lib.hid he8
        have Hst8 := Lib.hid hst8
        have HA3 := Lib.hid (HA2.out W8 hj8 hd8)
        have b0 : W8.cell? ⟨B8, 0, none⟩ = some (.int .u8 2) := by rw [cellv, hr8]; rfl
        have hjj8 := hj8
        unfold JnAt jnCells at hjj8
        simp only at hjj8
        have j2 : W8.cell? ⟨w.heap.size + 1, 2, none⟩ = some (.int .i64 ((1 + evLen (evs.take k) : Nat) : Int)) := by rw [cellv, hjj8]; rfl
        clear hcv hjj hf7 hd7 hsv hN8 hr8 hf8 hd8 hj8 he8 hst8 hjj8
        have hw1 := HW1.out
        generalize hE2 : 1 + evLen (evs.take k) + 1 = E2 at hw1 HA3 HW1
        generalize hE0 : 1 + evLen (evs.take k) = E0 at j2 hw1 HA3 Hj8 HEN HW2 Hjk HW1 hE2
        have HE2 := Lib.hid hE2
        have HE0 := Lib.hid hE0
        clear hE2 hE0
        go_upto_region 13 with (first
          | (go_at_call 106; refine Calls.mono HA3.out ?_; rintro e w10 ⟨sv2, rfl, hsv2, hd10, hf10⟩; obtain ⟨tb, tn, td, rfl⟩ := own_slice hsv2; simp only [rcells])
          | fail)
        rw [HC2.out] at hd10
        have hN11 := (Fr.refl (fun _ => False) w10).alloc (.cells #[.int .u8 t.kind, .int .u32 t.epoch, .int .i64 t.index, .int .i64 t.saga, .int .i64 t.reply, .slice tb tn td] 91)
        have hr11 := heap_alloc_new w10 (.cells #[.int .u8 t.kind, .int .u32 t.epoch, .int .i64 t.index, .int .i64 t.saga, .int .i64 t.reply, .slice tb tn td] 91)
        have hf11 : Fr (· = db) W8 (w10.alloc (.cells #[.int .u8 t.kind, .int .u32 t.epoch, .int .i64 t.index, .int .i64 t.saga, .int .i64 t.reply, .slice tb tn td] 91)) := hf10.alloc _
        have hd11 := hd10.new hN11
        rw [Htk2.out, Hsid2.out] at hr11 hf11 hd11 ⊢
        generalize w10.alloc _ = W11 at hr11 hf11 hd11 ⊢
        generalize w10.heap.size = B12 at hr11 ⊢
        have hneD : ∀ k o, W8.heap[k]? = some o → kindOf o ≠ 103 → ¬ k = db := by
          rintro k o ho hk rfl
          obtain ⟨_, _, _, _, e1, _⟩ := Hd8.out
          rw [e1] at ho; cases ho; simp [kindOf] at hk
        have hr8' := Fr.get (k := B8) hf11 Hr8.out (hneD _ _ Hr8.out (by simp [kindOf]))
        have hj11 := Fr.get (k := w.heap.size + 1) hf11 Hj8.out (hneD _ _ Hj8.out (by simp [kindOf]))
        have he11 := Fr.get (k := w.heap.size) hf11 He8.out (hneD _ _ He8.out (by simp [kindOf]))
        have hk11 : FrK [103] wr W11 := (Hf8.out.trans hf11).toK (by
          rintro k o rfl ho
          obtain ⟨_, _, _, _, e1, _⟩ := Hdk.out
          rw [e1] at ho; cases ho; simp [kindOf])
        have hR11 := Hrk.out.keepK hk11 (by decide) (by decide) (by decide) (by decide) (by decide)
        have hst11 : StepsAt W11 (.slice ta tm tc) st := Hst8.out.frame hf11 (by
          rintro k rfl
          obtain ⟨_, _, _, _, e1, _⟩ := Hd8.out
          exact ⟨_, e1, by simp [kindOf]⟩)
        have HT := Lib.hid (taken_calls (id := id) hR11 hst11 ⟨Hsm.out.1, by have := Hsm.out.2.1; omega⟩ Hidb.out Hnew.out Hsg.out.len)
        have b0 : W11.cell? ⟨B8, 0, none⟩ = some (.int .u8 2) := by rw [cellv, hr8']; rfl
        have b3 : W11.cell? ⟨B8, 3, none⟩ = some (.int .i64 id) := by rw [cellv, hr8']; rfl
        have b5 : W11.cell? ⟨B8, 5, none⟩ = some (.slice ta tm tc) := by rw [cellv, hr8']; rfl
        have t0 : W11.cell? ⟨B12, 0, none⟩ = some (.int .u8 3) := by rw [cellv, hr11]; rfl
        have t3 : W11.cell? ⟨B12, 3, none⟩ = some (.int .i64 id) := by rw [cellv, hr11]; rfl
        have Hf11 := Lib.hid hf11
        have Hd11 := Lib.hid hd11
        have Hj11 := Lib.hid hj11
        have He11 := Lib.hid he11
        have HR11 := Lib.hid hR11
        clear j2 hw1 hd10 hf10 hsv2 hN11 hr11 hf11 hd11 hneD hr8' hj11 he11 hk11 hR11 hst11
        go_upto_region 15 with (first
          | (go_at_call 81; refine Calls.mono HT.out ?_; rintro e w9 ⟨rfl, ⟨BL, hR9, hBL⟩, hf9⟩)
          | fail)
        have hj9 : JnAt w9 (w.heap.size + 1) db ⟨r0.epoch, E0, true⟩ := Fr.get (k := w.heap.size + 1) hf9 Hj11.out (by have := Hmb.out; omega)
        have he9 := Fr.get (k := w.heap.size) hf9 He11.out (by have := Hmb.out; omega)
        have hd9 : DiskAt w9 db bb (d.reads (m + 2)) := Hd11.out.frame hf9 (by
          rintro k rfl
          obtain ⟨es, clock, hmb, _⟩ := HR11.out.mp
          obtain ⟨_, _, _, _, e1, e2, _⟩ := Hd11.out
          exact ⟨fun e => (by rw [e, e1] at hmb; cases hmb), fun e => (by rw [e, e2] at hmb; cases hmb), _, hmb, by simp [kindOf]⟩)
        have hF9 : Fr (fun k => k = db ∨ k = mb) w w9 := ((Hfk.out.trans (Hf8.out.mono (fun _ _ e => .inl e))).trans (Hf11.out.mono (fun _ _ e => .inl e))).trans (hf9.mono (fun _ _ e => .inr e))
        have hBL' : ∀ b ∈ BL, w.heap.size + 2 ≤ b := fun b hb => by
          rcases hBL b hb with h | h
          · exact Hbl.out b h
          · have := lt_of_hp Hj11.out; omega
        rw [← HAP.out, ← Ho2.out] at hR9
        have HBL := Lib.hid hBL'
        have hjj9 := hj9
        unfold JnAt jnCells at hjj9
        simp only at hjj9
        have Hj9 := Lib.hid hj9
        have He9 := Lib.hid he9
        have Hd9 := Lib.hid hd9
        have HF9 := Lib.hid hF9
        have HR9 := Lib.hid hR9
        clear hj9 he9 hd9 hF9 hR9 hf9 b0 b3 b5 t0 t3 hBL hBL'
        have hcv := cellv w9
        have hfv := frozv w9
        have hw2 := HW2.out
        generalize hE1 : 1 + evLen (evs.take (k + 1)) = E1 at hw2 HEN HW2 ⊢
        have HE1 := Lib.hid hE1
        clear hE1
        go_wp2_with fail
        have hj10 : JnAt (w9.setCell ⟨w.heap.size + 1, 2, none⟩ (.int .i64 (E1 : Nat))) (w.heap.size + 1) db ⟨r0.epoch, E1, true⟩ := by
          have h9 := Hj9.out
          unfold JnAt jnCells at h9 ⊢
          rw [hp_setCell, if_pos rfl, h9]; rfl
        have hk10 : FrK [133] w9 (w9.setCell ⟨w.heap.size + 1, 2, none⟩ (.int .i64 (E1 : Nat))) := (Fr.one (w.heap.size + 1) w9 2 _).toK (by
          rintro k o rfl ho
          have h9 := Hj9.out
          unfold JnAt at h9
          rw [h9] at ho; cases ho; simp [kindOf])
        go_roundw
        case rel =>
          refine ⟨k + 1, Hkn.out, by rw [HE1.out]; exact hj10, ⟨m + 2, by have := Hm.out; omega, ?_⟩, ⟨BL, HR9.out.keepK hk10 (by decide) (by decide) (by decide) (by decide) (by decide), HBL.out⟩, ?_, ?_⟩
          · exact Hd9.out.frame (Fr.one (w.heap.size + 1) w9 2 _) (by rintro k rfl; have := Hdl.out; exact ⟨by omega, by omega, _, Hj9.out, by simp [kindOf]⟩)
          · rw [hp_setCell, if_neg (by omega)]; exact He9.out
          · exact HF9.out.trans' (Fr.one (w.heap.size + 1) w9 2 _) (fun i hi e => by omega)
        case measure =>
          rw [enOf_jn hj10, enOf_jn Hjk.out]
          have := HEN.out
          simp only; omega
    · obtain rfl : k = evs.length := by omega
      rw [List.take_length] at Hjk Hrk hjj
      obtain ⟨r, ok, hp, hstop⟩ := Hst.out
      have hel1 : Hid (evs.length ≤ 1000) := by have := evLen_len evs; have := Hel.out; have := Hb.out; show _ ≤ _; omega
      have HC1 := Lib.hid (HC0.out m (by have := Hm.out; have := hel1.out; omega))
      have HC2 := Lib.hid (HC0.out (m + 1) (by have := Hm.out; have := hel1.out; omega))
      have HA := Lib.hid (at_calls Hjk.out Hdk.out Hq.out (1 + evLen evs) r ok hp (show 1 + evLen evs < d.blocks.length by have := Hel.out; omega))
      have hrk := r.kind
      have Hstop := Lib.hid hstop
      clear hp hstop hkn hk
      generalize hO : atOk ⟨r0.epoch, 1 + evLen evs, true⟩ (1 + evLen evs) r ok = O at HA
      have HO := Lib.hid hO
      clear hO hrk
      have hcv := cellv wr
      go_upto_region 8 with (first
        | (go_at_call 106; refine Calls.mono HA.out ?_; rintro e w7 ⟨sv, rfl, hsv, hd7, hf7⟩; obtain ⟨ta, tm, tc, rfl⟩ := own_slice hsv; simp only [rcells])
        | fail)
      rw [HC1.out] at hd7
      have hN8 := (Fr.refl (fun _ => False) w7).alloc (.cells #[.int .u8 r.kind, .int .u32 r.epoch, .int .i64 r.index, .int .i64 r.saga, .int .i64 r.reply, .slice ta tm tc] 91)
      have hr8 := heap_alloc_new w7 (.cells #[.int .u8 r.kind, .int .u32 r.epoch, .int .i64 r.index, .int .i64 r.saga, .int .i64 r.reply, .slice ta tm tc] 91)
      have hf8 : Fr (· = db) wr (w7.alloc (.cells #[.int .u8 r.kind, .int .u32 r.epoch, .int .i64 r.index, .int .i64 r.saga, .int .i64 r.reply, .slice ta tm tc] 91)) := hf7.alloc _
      have hd8 := hd7.new hN8
      generalize w7.alloc _ = W8 at hr8 hf8 hd8 ⊢
      generalize w7.heap.size = B8 at hr8 ⊢
      have hne8 : ¬ (w.heap.size + 1 = db) ∧ ¬ (w.heap.size = db) := by have := Hdl.out; omega
      have hj8 : JnAt W8 (w.heap.size + 1) db ⟨r0.epoch, 1 + evLen evs, true⟩ := Fr.get (k := w.heap.size + 1) hf8 Hjk.out hne8.1
      have he8 := Fr.get (k := w.heap.size) hf8 Hek.out hne8.2
      have hk8 : FrK [103] wr W8 := hf8.toK (by
        rintro k o rfl ho
        obtain ⟨_, _, _, _, e1, _⟩ := Hdk.out
        rw [e1] at ho; cases ho; simp [kindOf])
      have hR8 := Hrk.out.keepK hk8 (by decide) (by decide) (by decide) (by decide) (by decide)
      have hF8 : Fr (fun k => k = db ∨ k = mb) w W8 := Hfk.out.trans (hf8.mono (fun _ _ e => .inl e))
      have b0 : W8.cell? ⟨B8, 0, none⟩ = some (.int .u8 r.kind) := by rw [cellv, hr8]; rfl
      have b3 : W8.cell? ⟨B8, 3, none⟩ = some (.int .i64 r.saga) := by rw [cellv, hr8]; rfl
      have HFin : Hid (∀ W9, DiskAt W9 db bb (d.reads (m + 1)) ∨ DiskAt W9 db bb (d.reads (m + 2)) → Fr (· = db) W8 W9 → W9.heap[w.heap.size]? = some (.cells #[.nilIface] 32 (0, 0)) ∧
          jOpnPost w db bb C xb mb d ⟨r0.epoch, 1 + evLen evs, true⟩ (evs.foldl applyEv []) (.returned (.tuple #[.pointer (some ⟨w.heap.size + 1, 0, none⟩), .nilIface])) (W9.setCell ⟨w.heap.size, 0, none⟩ .nilIface)) := by
        intro W9 hd9 hf9
        have hj9 : JnAt W9 (w.heap.size + 1) db ⟨r0.epoch, 1 + evLen evs, true⟩ := Fr.get (k := w.heap.size + 1) hf9 hj8 hne8.1
        have he9 := Fr.get (k := w.heap.size) hf9 he8 hne8.2
        have hk9 : FrK [103, 33] W8 (W9.setCell ⟨w.heap.size, 0, none⟩ .nilIface) := (hf9.toK (by
          rintro k o rfl ho
          obtain ⟨_, _, _, _, e1, _⟩ := hd8
          rw [e1] at ho; cases ho; simp [kindOf])).trans ((Fr.one w.heap.size W9 0 .nilIface).toK (by
          rintro k o rfl ho
          rw [he9] at ho; cases ho; simp [kindOf]))
        have hdd : ∀ d', DiskAt W9 db bb d' → DiskAt (W9.setCell ⟨w.heap.size, 0, none⟩ .nilIface) db bb d' := fun d' h => h.frame (Fr.one w.heap.size W9 0 .nilIface) (by
          rintro k rfl
          have := Hdl.out
          exact ⟨by omega, by omega, _, he9, by simp [kindOf]⟩)
        refine ⟨he9, w.heap.size + 1, rfl, by omega, ?_, ?_, ⟨bl, hR8.keepK hk9 (by decide) (by decide) (by decide) (by decide) (by decide), fun b hb => by have := Hbl.out b hb; omega⟩, ?_⟩
        · unfold JnAt
          rw [hp_setCell, if_neg (by omega)]; exact hj9
        · have h1 := Hm.out
          have h2 := hel1.out
          rcases hd9 with h | h
          · exact ⟨m + 1, by omega, hdd _ h⟩
          · exact ⟨m + 2, by omega, hdd _ h⟩
        · exact (hF8.trans (hf9.mono (fun _ _ e => .inl e))).trans' (Fr.one w.heap.size W9 0 .nilIface) (by rintro i hi e; omega)
      have Hr8 := Lib.hid hr8
      have Hd8 := Lib.hid hd8
      have Hj8 := Lib.hid hj8
      clear hcv hjj hf7 hd7 hsv hN8 hr8 hf8 hd8 hj8 he8 hk8 hR8 hF8 hne8
      cases O with
      | false =>
        have he8 := (HFin.out W8 (.inl Hd8.out) (Fr.refl _ _)).1
        have hcv := cellv W8
        have hfv := frozv W8
        go_wp2_with fail
        rw [Exit.noGoto_ret]
        refine leaves_cons (f := 103) (args := #[.pointer (some ⟨w.heap.size, 0, none⟩)]) (by simp) (by simp [go_sem]) ?_
        refine (idle103 _ _).mono ?_
        rintro e u' w'' ⟨rfl, rfl, rfl⟩
        obtain ⟨hec, hpost⟩ := HFin.out W8 (.inl Hd8.out) (Fr.refl _ _)
        have hsome : (W8.setCell ⟨w.heap.size, 0, none⟩ Value.nilIface).cell? ⟨w.heap.size, 0, none⟩ = some .nilIface := by rw [cellv, hp_setCell, if_pos rfl, hec]; rfl
        refine ⟨.tuple #[.pointer (some ⟨w.heap.size + 1, 0, none⟩), .nilIface], ?_, hpost⟩
        simp [results, Tryz.results80, go_sem, hsome]
      | true =>
        rcases Hstop.out with h | ⟨h4, h2⟩ | ⟨hk2, hlt, t, ok', hp2, hs3⟩
        · rw [HO.out] at h; cases h
        · have he8 := (HFin.out W8 (.inl Hd8.out) (Fr.refl _ _)).1
          have hk4 : ¬ ((r.kind : Int) = 4) := by omega
          have hk2 : ¬ ((r.kind : Int) = 2) := by omega
          clear h4 h2
          have hcv := cellv W8
          have hfv := frozv W8
          go_wp2_with fail
          rw [Exit.noGoto_ret]
          refine leaves_cons (f := 103) (args := #[.pointer (some ⟨w.heap.size, 0, none⟩)]) (by simp) (by simp [go_sem]) ?_
          refine (idle103 _ _).mono ?_
          rintro e u' w'' ⟨rfl, rfl, rfl⟩
          obtain ⟨hec, hpost⟩ := HFin.out W8 (.inl Hd8.out) (Fr.refl _ _)
          have hsome : (W8.setCell ⟨w.heap.size, 0, none⟩ Value.nilIface).cell? ⟨w.heap.size, 0, none⟩ = some .nilIface := by rw [cellv, hp_setCell, if_pos rfl, hec]; rfl
          refine ⟨.tuple #[.pointer (some ⟨w.heap.size + 1, 0, none⟩), .nilIface], ?_, hpost⟩
          simp [results, Tryz.results80, go_sem, hsome]
        · rw [hk2] at b0
          have HA2 := Lib.hid (at_calls Hj8.out Hd8.out Hq.out (1 + evLen evs + 1) t ok' hp2 hlt)
          generalize hO : atOk ⟨r0.epoch, 1 + evLen evs, true⟩ (1 + evLen evs + 1) t ok' = O2 at HA2
          have e3 : 1 + evLen evs ≤ 2000 := by have h4 := Hb.out; have := Hel.out; omega
          have hw1 := wrap_one (1 + evLen evs) e3
          have hjj8 := Hj8.out
          unfold JnAt jnCells at hjj8
          simp only at hjj8
          have j2 : W8.cell? ⟨w.heap.size + 1, 2, none⟩ = some (.int .i64 ((1 + evLen evs : Nat) : Int)) := by rw [cellv, hjj8]; rfl
          have HO2 := Lib.hid hO
          have Hs3 := Lib.hid hs3
          clear hO hs3 hjj8 hk2 hlt hp2 e3
          have Hrk2 := Lib.hid b0
          generalize hE2 : 1 + evLen evs + 1 = E2 at hw1 HA2 HO2 Hs3
          generalize hE0 : 1 + evLen evs = E0 at j2 hw1 HA2 HO2 hE2 Hs3 ⊢
          have HE2 := Lib.hid hE2
          clear hE2 hE0
          go_upto_region 13 with (first
            | (go_at_call 106; refine Calls.mono HA2.out ?_; rintro e w10 ⟨sv2, rfl, hsv2, hd10, hf10⟩; obtain ⟨tb, tn, td, rfl⟩ := own_slice hsv2; simp only [rcells])
            | fail)
          rw [HC2.out] at hd10
          have hr11 := heap_alloc_new w10 (.cells #[.int .u8 t.kind, .int .u32 t.epoch, .int .i64 t.index, .int .i64 t.saga, .int .i64 t.reply, .slice tb tn td] 91)
          have hf11 : Fr (· = db) W8 (w10.alloc (.cells #[.int .u8 t.kind, .int .u32 t.epoch, .int .i64 t.index, .int .i64 t.saga, .int .i64 t.reply, .slice tb tn td] 91)) := hf10.alloc _
          have hd11 := hd10.new ((Fr.refl (fun _ => False) w10).alloc (.cells #[.int .u8 t.kind, .int .u32 t.epoch, .int .i64 t.index, .int .i64 t.saga, .int .i64 t.reply, .slice tb tn td] 91))
          generalize w10.alloc _ = W11 at hr11 hf11 hd11 ⊢
          generalize w10.heap.size = B12 at hr11 ⊢
          have hneD : ∀ k o, W8.heap[k]? = some o → kindOf o ≠ 103 → ¬ k = db := by
            rintro k o ho hk rfl
            obtain ⟨_, _, _, _, e1, _⟩ := Hd8.out
            rw [e1] at ho; cases ho; simp [kindOf] at hk
          have hr8' := Fr.get (k := B8) hf11 Hr8.out (hneD _ _ Hr8.out (by simp [kindOf]))
          have b3 : W11.cell? ⟨B8, 3, none⟩ = some (.int .i64 r.saga) := by rw [cellv, hr8']; rfl
          have t0 : W11.cell? ⟨B12, 0, none⟩ = some (.int .u8 t.kind) := by rw [cellv, hr11]; rfl
          have t3 : W11.cell? ⟨B12, 3, none⟩ = some (.int .i64 t.saga) := by rw [cellv, hr11]; rfl
          have he11 := (HFin.out W11 (.inr hd11) hf11).1
          have Hd11 := Lib.hid hd11
          have Hf11 := Lib.hid hf11
          clear hneD hr8' hr11 hd11 hf11 hd10 hf10 hsv2 j2 hw1
          have hcv := cellv W11
          have hfv := frozv W11
          cases O2 with
          | false =>
            go_wp2_with fail
            rw [Exit.noGoto_ret]
            refine leaves_cons (f := 103) (args := #[.pointer (some ⟨w.heap.size, 0, none⟩)]) (by simp) (by simp [go_sem]) ?_
            refine (idle103 _ _).mono ?_
            rintro e u' w'' ⟨rfl, rfl, rfl⟩
            obtain ⟨hec, hpost⟩ := HFin.out W11 (.inr Hd11.out) Hf11.out
            have hsome : (W11.setCell ⟨w.heap.size, 0, none⟩ Value.nilIface).cell? ⟨w.heap.size, 0, none⟩ = some .nilIface := by rw [cellv, hp_setCell, if_pos rfl, hec]; rfl
            refine ⟨.tuple #[.pointer (some ⟨w.heap.size + 1, 0, none⟩), .nilIface], ?_, hpost⟩
            simp [results, Tryz.results80, go_sem, hsome]
          | true =>
            rcases Hs3.out with h | h | h
            · rw [HO2.out] at h; cases h
            · have h3 : ¬ ((t.kind : Int) = 3) := by omega
              clear h
              go_wp2_with fail
              rw [Exit.noGoto_ret]
              refine leaves_cons (f := 103) (args := #[.pointer (some ⟨w.heap.size, 0, none⟩)]) (by simp) (by simp [go_sem]) ?_
              refine (idle103 _ _).mono ?_
              rintro e u' w'' ⟨rfl, rfl, rfl⟩
              obtain ⟨hec, hpost⟩ := HFin.out W11 (.inr Hd11.out) Hf11.out
              have hsome : (W11.setCell ⟨w.heap.size, 0, none⟩ Value.nilIface).cell? ⟨w.heap.size, 0, none⟩ = some .nilIface := by rw [cellv, hp_setCell, if_pos rfl, hec]; rfl
              refine ⟨.tuple #[.pointer (some ⟨w.heap.size + 1, 0, none⟩), .nilIface], ?_, hpost⟩
              simp [results, Tryz.results80, go_sem, hsome]
            · have h3 : ¬ ((t.saga : Int) = (r.saga : Int)) := by omega
              clear h
              rcases Nat.decEq t.kind 3 with h5 | h5
              · have h6 : ¬ ((t.kind : Int) = 3) := by omega
                clear h5
                go_wp2_with fail
                rw [Exit.noGoto_ret]
                refine leaves_cons (f := 103) (args := #[.pointer (some ⟨w.heap.size, 0, none⟩)]) (by simp) (by simp [go_sem]) ?_
                refine (idle103 _ _).mono ?_
                rintro e u' w'' ⟨rfl, rfl, rfl⟩
                obtain ⟨hec, hpost⟩ := HFin.out W11 (.inr Hd11.out) Hf11.out
                have hsome : (W11.setCell ⟨w.heap.size, 0, none⟩ Value.nilIface).cell? ⟨w.heap.size, 0, none⟩ = some .nilIface := by rw [cellv, hp_setCell, if_pos rfl, hec]; rfl
                refine ⟨.tuple #[.pointer (some ⟨w.heap.size + 1, 0, none⟩), .nilIface], ?_, hpost⟩
                simp [results, Tryz.results80, go_sem, hsome]
              · rw [h5] at t0
                clear h5
                go_wp2_with fail
                rw [Exit.noGoto_ret]
                refine leaves_cons (f := 103) (args := #[.pointer (some ⟨w.heap.size, 0, none⟩)]) (by simp) (by simp [go_sem]) ?_
                refine (idle103 _ _).mono ?_
                rintro e u' w'' ⟨rfl, rfl, rfl⟩
                obtain ⟨hec, hpost⟩ := HFin.out W11 (.inr Hd11.out) Hf11.out
                have hsome : (W11.setCell ⟨w.heap.size, 0, none⟩ Value.nilIface).cell? ⟨w.heap.size, 0, none⟩ = some .nilIface := by rw [cellv, hp_setCell, if_pos rfl, hec]; rfl
                refine ⟨.tuple #[.pointer (some ⟨w.heap.size + 1, 0, none⟩), .nilIface], ?_, hpost⟩
                simp [results, Tryz.results80, go_sem, hsome]
end Go.Proofs.YtkafmfdipmhleaaGreatDoor

namespace Go.Proofs.YtkafmfdipmhleaaGreatDoor
open Go.RowKit Go.Maps

/-- An engine was opened. -/
def OpnPost (w : World) (db bb : Nat) (d : DiskM) (j : JnM) (l : List SagaM) (pause : Int) (cv : Value) (e : Ending) (w' : World) : Prop :=
  ∃ xb jb mb bl m, e = .returned (.tuple #[.pointer (some ⟨xb, 0, none⟩), .nilIface]) ∧ (w.heap.size ≤ xb ∧ w.heap.size ≤ jb ∧ w.heap.size ≤ mb) ∧ m ≤ 10000 ∧ w'.heap[xb]? = some (.cells (egCells jb mb pause cv 0 false) 79 (0, 0)) ∧ JnAt w' jb db j ∧ DiskAt w' db bb (d.reads m) ∧
    w'.ownsMap Tryz.prog 3 ptrR mb l.length (dataOf (ilOf l bl)) ∧ bl.length = l.length ∧ (∀ (i : Nat) (g : SagaM) (b : Nat), l[i]? = some g → bl[i]? = some b → SagaAt w' b g) ∧ bl.Nodup ∧ (∀ b ∈ bl, w.heap.size ≤ b) ∧ Fr (· = db) w w'
set_option maxRecDepth 100000 in
set_option maxHeartbeats 4000000 in
theorem sOpen_calls {w : World} {db bb : Nat} {d : DiskM} (h : DiskAt w db bb d) (hq : d.quiet) (hc : 0 ≤ d.calls ∧ d.calls < 2 ^ 40) (r0 : RecM) (h0 : parseM (d.look 0) = some (r0, true)) (hk : r0.kind = 1) (evs : List Ev)
    (hev : EvsOn d r0.epoch 1 evs) (hst : JStop d r0.epoch (1 + evLen evs)) (hok : EvsOk [] evs) (hel : evLen evs + 1 < d.blocks.length) (hl : d.fits = true) (pause : Int) (hp : 1 ≤ pause ∧ pause ≤ 64) (fn : Fn) (fs cs : Array Value) :
    Calls Tryz.prog 57 #[.iface 27 (.pointer (some ⟨db, 0, none⟩)), .int .i64 pause, .func fn fs cs] w (OpnPost w db bb d ⟨r0.epoch, 1 + evLen evs, true⟩ (evs.foldl applyEv []) pause (.func fn fs cs)) := by
  have hmf : ∀ (fn : Fn) (first cap : Array Value) (w : World), (Instr.makeFunc fn first cap).run Tryz.prog w = .ok (.func fn first cap) w := fun _ _ _ _ => rfl
  have hmm := @run_makeMap Tryz.prog
  have HF := Lib.hid (fits_calls h)
  rw [hl] at HF
  have hlen : d.blocks.length ≤ 1000 := by simp [DiskM.fits] at hl; omega
  have HJ := Lib.hid (fun (w' : World) (C xb mb : Nat) (h' : DiskAt w' db bb d) (hR : RdAt w' C xb mb [] []) => jOpen_calls h' hq hc hlen r0 h0 hk evs hev hst hok hel hR)
  have Hd := Lib.hid h
  have hdl := disk_lt h
  have Hdl := Lib.hid hdl
  have hp1 : ¬ pause < 1 := by omega
  have hp2 : ¬ (64 : Int) < pause := by omega
  clear h hq hc h0 hk hev hst hok hel hl hp hlen hdl
  go_enter Tryz.func57, Tryz.ntmps57
  go_upto_region 6 with (first
    | (go_at_call 79; refine Calls.mono HF.out ?_; rintro e w2 ⟨rfl, rfl⟩)
    | fail)
  have hN1 : New w (((w.alloc (.map #[] 0)).alloc (.cells #[.pointer none, .map (some w.heap.size), .int .i64 pause, .func fn fs cs, .int .i64 0, .bool false] 79)).alloc (.cells #[.pointer (some ⟨w.heap.size + 1, 0, none⟩)] 28)) := (((Fr.refl _ w).alloc _).alloc _).alloc _
  have hm0 : (w.alloc (.map #[] 0)).ownsMap Tryz.prog 3 ptrR w.heap.size 0 (dataOf []) := World.ownsMap_made w Tryz.prog 3 ptrR
  have hx0 := heap_alloc_new (w.alloc (.map #[] 0)) (.cells #[.pointer none, .map (some w.heap.size), .int .i64 pause, .func fn fs cs, .int .i64 0, .bool false] 79)
  have hx1 := heap_alloc_keep (.cells #[.pointer (some ⟨w.heap.size + 1, 0, none⟩)] 28) hx0
  have hc1 := heap_alloc_new ((w.alloc (.map #[] 0)).alloc (.cells #[.pointer none, .map (some w.heap.size), .int .i64 pause, .func fn fs cs, .int .i64 0, .bool false] 79)) (.cells #[.pointer (some ⟨w.heap.size + 1, 0, none⟩)] 28)
  have hm1 : (((w.alloc (.map #[] 0)).alloc (.cells #[.pointer none, .map (some w.heap.size), .int .i64 pause, .func fn fs cs, .int .i64 0, .bool false] 79)).alloc (.cells #[.pointer (some ⟨w.heap.size + 1, 0, none⟩)] 28)).ownsMap Tryz.prog 3 ptrR w.heap.size 0 (dataOf []) := map_keepK hm0 ((((Fr.refl (fun _ => False) _).alloc _).alloc _).toK (K := []) (fun _ _ f _ => f.elim)) (by simp)
  rw [sz_alloc] at hx1
  rw [sz_alloc, sz_alloc] at hc1
  have hR1 : RdAt (((w.alloc (.map #[] 0)).alloc (.cells #[.pointer none, .map (some w.heap.size), .int .i64 pause, .func fn fs cs, .int .i64 0, .bool false] 79)).alloc (.cells #[.pointer (some ⟨w.heap.size + 1, 0, none⟩)] 28)) (w.heap.size + 1 + 1) (w.heap.size + 1) w.heap.size [] [] := ⟨hc1, ⟨_, _, _, _, _, hx1⟩, hm1, rfl, fun i g b hg => by simp at hg, by simp⟩
  have HJ1 := Lib.hid (HJ.out _ _ _ _ (Hd.out.new hN1) hR1)
  have HN1 := Lib.hid hN1
  have HM1 := Lib.hid hm1
  have HX1 := Lib.hid hx1
  have HC1 := Lib.hid hc1
  clear hN1 hm0 hx0 hx1 hc1 hm1 hR1
  generalize (((w.alloc (.map #[] 0)).alloc (.cells #[.pointer none, .map (some w.heap.size), .int .i64 pause, .func fn fs cs, .int .i64 0, .bool false] 79)).alloc (.cells #[.pointer (some ⟨w.heap.size + 1, 0, none⟩)] 28)) = W1 at HJ1 HN1 HM1 HX1 HC1 ⊢
  go_upto_region 9 with (first
    | (go_at_call 80; refine Calls.mono HJ1.out ?_; rintro e w2 ⟨jb, rfl, hjs, hj2, ⟨m, hm, hd2⟩, ⟨bl, hR2, hbl⟩, hf2⟩)
    | fail)
  have hlt := Hdl.out
  have hx2 := hf2.get HX1.out (by omega)
  have hc2 := hf2.get HC1.out (by omega)
  have HJs := Lib.hid hjs
  have Hj2 := Lib.hid hj2
  have Hd2 := Lib.hid hd2
  have HR2 := Lib.hid hR2
  have Hbl := Lib.hid hbl
  have Hx2 := Lib.hid hx2
  have HF2 : Hid (Fr (· = db) w w2) := (HN1.out.mono (fun _ _ f => f.elim)).trans' hf2 (fun i hi e => e.elim id (fun e => by omega))
  have hne : w.heap.size + 1 ≠ w.heap.size + 1 + 1 := by omega
  clear hlt hj2 hd2 hf2 hjs hR2 hbl
  have hcv := cellv w2
  have hfv := frozv w2
  go_wp2_with fail
  go_ret2
  have hsz := HN1.out.size
  refine ⟨w.heap.size + 1, jb, w.heap.size, bl, m, rfl, ⟨by omega, Nat.le_trans hsz HJs.out, Nat.le_refl _⟩, hm, ?_, ?_, ?_, ?_, HR2.out.len, ?_, HR2.out.nd, fun b hb => Nat.le_trans hsz (Hbl.out b hb), ?_⟩
  · rw [hp_setCell, if_pos rfl, Hx2.out]; rfl
  · refine JnAt.keepK Hj2.out (K := [80]) ((Fr.one (w.heap.size + 1) w2 0 _).toK ?_) (by decide)
    rintro k o rfl ho
    rw [Hx2.out] at ho; cases ho; simp [kindOf]
  · have := Hdl.out
    exact Hd2.out.frame (Fr.one (w.heap.size + 1) w2 0 _) (by rintro k rfl; exact ⟨by omega, by omega, _, Hx2.out, by simp [kindOf]⟩)
  · refine map_keepK HR2.out.mp (K := [80]) ((Fr.one (w.heap.size + 1) w2 0 _).toK ?_) (by decide)
    rintro k o rfl ho
    rw [Hx2.out] at ho; cases ho; simp [kindOf]
  · refine sgs_keepK HR2.out.sg (K := [80]) ((Fr.one (w.heap.size + 1) w2 0 _).toK ?_) (by decide) (by decide)
    rintro k o rfl ho
    rw [Hx2.out] at ho; cases ho; simp [kindOf]
  · exact HF2.out.trans' (Fr.one (w.heap.size + 1) w2 0 _) (by rintro i hi e; omega)

set_option maxRecDepth 100000 in
set_option maxHeartbeats 4000000 in
/-- plain.Open, of a journal with records. -/
theorem pOpen_calls {w : World} {db bb pb : Nat} {d : DiskM} {p : PartM} (h : DiskAt w db bb d) (hp : PAt w pb p) (hlo : p.lo ≤ db ∧ p.lo ≤ bb) (hq : d.quiet) (hc : 0 ≤ d.calls ∧ d.calls < 2 ^ 40) (r0 : RecM) (h0 : parseM (d.look 0) = some (r0, true)) (hk : r0.kind = 1) (evs : List Ev)
    (hev : EvsOn d r0.epoch 1 evs) (hst : JStop d r0.epoch (1 + evLen evs)) (hok : EvsOk [] evs) (hel : evLen evs + 1 < d.blocks.length) (hl : d.fits = true) (pause : Int) (hpz : 1 ≤ pause ∧ pause ≤ 64) :
    Calls Tryz.prog 30 #[.pointer (some ⟨db, 0, none⟩), .int .i64 pause, .pointer (some ⟨pb, 0, none⟩)] w fun e w' => ∃ xb jb mb bl m, e = .returned (.tuple #[.pointer (some ⟨xb, 0, none⟩), .nilIface]) ∧ w.heap.size ≤ xb ∧ m ≤ 10000 ∧
      StAt w' ⟨xb, jb, mb, db, bb, pb⟩ bl ⟨pause, 0, evs.foldl applyEv [], ⟨r0.epoch, 1 + evLen evs, true⟩, d.reads m, p⟩ ∧ Fr (· = db) w w' := by
  have hmf : ∀ (fn : Fn) (first cap : Array Value) (w : World), (Instr.makeFunc fn first cap).run Tryz.prog w = .ok (.func fn first cap) w := fun _ _ _ _ => rfl
  have HO := Lib.hid (sOpen_calls h hq hc r0 h0 hk evs hev hst hok hel hl pause hpz (.func 58) #[.pointer (some ⟨pb, 0, none⟩)] #[])
  have Hd := Lib.hid h
  have Hp := Lib.hid hp
  have Hlo := Lib.hid hlo
  clear h hp hq hc h0 hk hev hst hok hel hl hpz hlo
  go_enter Tryz.func30, Tryz.ntmps30
  go_wp2_with (first
    | (go_at_call 57; refine Calls.mono HO.out ?_; rintro e w2 ⟨xb, jb, mb, bl, m, rfl, hxs, hm10, hx, hj, hd, hm, hlen, hsg, hnd, hbl, hf⟩)
    | fail)
  go_ret2
  refine ⟨xb, jb, mb, bl, m, rfl, hxs.1, hm10, ⟨hx, hj, hd, ?_, hm, hlen, hsg, hnd, ?_⟩, hf⟩
  · refine Hp.out.keepK (hf.toK (K := [103]) ?_) (by decide) (by decide) (by decide) (by decide)
    rintro k o rfl ho
    obtain ⟨_, _, _, _, e1, _⟩ := Hd.out
    rw [e1] at ho; cases ho; simp [kindOf]
  · have hb : p.lo ≤ w.heap.size := by
      obtain ⟨⟨_, _, _, _, h1, _, _, _, hb, _⟩⟩ := Hp.out
      have := lt_of_hp h1; omega
    have := Hlo.out
    exact ⟨Nat.le_trans hb hxs.1, Nat.le_trans hb hxs.2.1, Nat.le_trans hb hxs.2.2, Hlo.out.1, Hlo.out.2, fun b hb2 => Nat.le_trans hb (hbl b hb2)⟩
end Go.Proofs.YtkafmfdipmhleaaGreatDoor

namespace Go.Proofs.YtkafmfdipmhleaaGreatDoor
open Go.RowKit Go.Maps

/-- What the list of a saga's effects reads as. -/
theorem shape_at {F : List CallM} {K M : Nat} (h : F.map (fun c => (c.step, c.back)) = fw K ++ bw K M) : F.length = K + M ∧ (∀ k (hk : k < F.length), k < K → F[k].step = (k : Int) + 1 ∧ F[k].back = false) ∧ (∀ k (hk : k < F.length), K ≤ k → F[k].step = (K : Int) - ((k : Int) - K) ∧ F[k].back = true) := by
  have hlen : F.length = K + M := by
    have := congrArg List.length h
    simpa [fw, bw] using this
  have key : ∀ k (hk : k < F.length), (fw K ++ bw K M)[k]? = some (F[k].step, F[k].back) := by
    intro k hk
    rw [← h, List.getElem?_map, List.getElem?_eq_getElem hk]; rfl
  refine ⟨hlen, fun k hk hK => ?_, fun k hk hK => ?_⟩
  · have := key k hk
    rw [List.getElem?_append_left (by simp [fw]; exact hK)] at this
    simp only [fw, List.getElem?_map, List.getElem?_range hK, Option.map_some, Option.some.injEq, Prod.mk.injEq] at this
    exact ⟨this.1.symm, this.2.symm⟩
  · have := key k hk
    rw [List.getElem?_append_right (by simp [fw]; exact hK)] at this
    have hl : (fw K).length = K := by simp [fw]
    rw [hl] at this
    simp only [bw, List.getElem?_map, List.getElem?_range (show k - K < M by omega), Option.map_some, Option.some.injEq, Prod.mk.injEq] at this
    exact ⟨by rw [← this.1]; omega, this.2.symm⟩
/-- How an own slice of calls reads. -/
theorem calls_read {w : World} {B : Nat} {v : Value} {F : List CallM} (h : w.ownsRow B 46 4 v F.length (effCells F)) : ∃ va vc, v = .slice va F.length vc ∧
    ∀ k (hk : k < F.length), ∃ g, va = some ⟨g, 0, none⟩ ∧ (∃ o, w.heap[g]? = some o) ∧ ∀ w' : World, w'.heap[g]? = w.heap[g]? → cellOf w'.heap[g]? (k * 4) = some (.int .i64 F[k].saga) ∧ cellOf w'.heap[g]? (k * 4 + 1) = some (.int .i64 F[k].step) ∧
      cellOf w'.heap[g]? (k * 4 + 2) = some (.bool F[k].back) ∧ cellOf w'.heap[g]? (k * 4 + 3) = some (.string F[k].data) := by
  obtain ⟨o1, ⟨rfl, h0⟩ | ⟨g, cap, cur, rfl, hg, hh, _, _, _, htk⟩⟩ := h
  · exact ⟨none, 0, by rw [h0], fun k hk => by omega⟩
  · refine ⟨_, cap, rfl, fun k hk => ⟨g, rfl, ⟨_, hh⟩, fun w' hf => ?_⟩⟩
    have key : ∀ q, q < 4 → cellOf w'.heap[g]? (k * 4 + q) = F[k].cells[q]? := by
      intro q hq
      have := effCells_get F k hk q hq
      rw [hf, hh, cellOf_cells]
      rw [← htk, List.getElem?_take_of_lt (by omega)] at this
      simpa using this
    exact ⟨key 0 (by omega), key 1 (by omega), key 2 (by omega), key 3 (by omega)⟩
theorem Tryz.info46s' : (Tryz.prog.info? 46).map (·.size) = some 4 := by kernel_rfl
set_option maxRecDepth 100000 in
set_option maxHeartbeats 4000000 in
theorem straight_calls {w : World} {pb : Nat} {p : PartM} (h : PAt w pb p) (hl : p.effs.length < 2 ^ 30) (id : Int) (n K M : Nat) (hm : mineOf p.effs id = fw K ++ bw K M) (hK : K ≤ n) (hM : M ≤ K) (hKM : M = 0 ∨ K < n) (hn : n < 2 ^ 30) :
    Calls Tryz.prog 22 #[.pointer (some ⟨pb, 0, none⟩), .int .i64 id, .int .i64 n] w fun e w' => e = .returned (.bool true) ∧ New w w' := by
  obtain ⟨lv, va, vc, iv, h1, hrow⟩ := effs_read h
  generalize p.effs = effs at *
  obtain ⟨i0, hi, hz0, hz1, hz2⟩ := info_parts Tryz.info46
  have Hsh := Lib.hid (shape_at (F := effs.filter fun c => c.saga == id) hm)
  have Hrow := Lib.hid hrow
  have Hl := Lib.hid hl
  have H1 := Lib.hid h1
  have HK := Lib.hid hK
  have HM := Lib.hid hM
  have HKM := Lib.hid hKM
  have Hn := Lib.hid hn
  clear h h1 hrow hl hm hK hM hKM hn
  go_enter Tryz.func22, Tryz.ntmps22
  go_wp2_with fail
  go_loopw [7, 8] (fun sv i wr => ∃ k : Nat, k ≤ effs.length ∧ i = .int .i64 k ∧ wr.ownsRow w.heap.size 46 4 sv ((effs.take k).filter fun c => c.saga == id).length (effCells ((effs.take k).filter fun c => c.saga == id)) ∧ New w wr) (fun _ i _ => effs.length - (intOf i).toNat)
  case atStart => exact ⟨0, Nat.zero_le _, rfl, World.ownsRow_nil w w.heap.size 46 4, Fr.refl _ _⟩
  case round =>
    obtain ⟨k, hk, rfl, hown, hf⟩ := hrel
    have Hown := Lib.hid hown
    have Hf := Lib.hid hf
    have hcP := hf.get H1.out (fun f => f)
    have hl30 : effs.length < 1073741824 := Hl.out
    clear hown hf
    by_cases hlt : k < effs.length
    · obtain ⟨g, rfl, ⟨o, ho⟩, hcc⟩ := Hrow.out k hlt
      have hgr : wr.heap[g]? = w.heap[g]? := by rw [ho]; exact Hf.out.get ho (fun f => f)
      obtain ⟨x0, x1, x2, x3⟩ := hcc wr hgr
      have htk : effs.take (k + 1) = effs.take k ++ [effs[k]] := List.take_succ_eq_append_getElem hlt
      have Htk := Lib.hid htk
      generalize effs[k] = e at x0 x1 x2 x3 Htk
      obtain ⟨es, et, eb, ed⟩ := e
      rw [cellv] at x0 x1 x2 x3
      have hkI : (k : Int) < effs.length := by omega
      have hk0 : (0 : Int) ≤ k := by omega
      have hkl := Lib.hid hlt
      have hfl : Hid (((effs.take k).filter fun c => c.saga == id).length ≤ k) := Nat.le_trans (List.length_filter_le _ _) (by rw [List.length_take]; omega)
      clear hcc ho hgr htk hlt
      have hcv := cellv wr
      by_cases q1 : es = id
      · subst q1
        have q1' : (es == es) = true := by simp
        have hfe : Hid ((effs.take (k + 1)).filter (fun c => c.saga == es) = (effs.take k).filter (fun c => c.saga == es) ++ [⟨es, et, eb, ed⟩]) := by
          show _ = _
          rw [Htk.out, List.filter_append]; simp
        have hoA := Lib.hid (Hown.out.alloc (.cells #[.int .i64 es, .int .i64 et, .bool eb, .string ed] 46))
        have hnews : ∀ (j : Nat) (u : Value), (CallM.cells ⟨es, et, eb, ed⟩)[j]? = some u → (wr.alloc (.cells #[.int .i64 es, .int .i64 et, .bool eb, .string ed] 46)).cell? ((⟨wr.heap.size, 0, none⟩ : Addr).add j) = some u := World.news_of_block (heap_alloc_new wr _)
        have Hnews := Lib.hid hnews
        clear hnews
        go_wp2_with (first
          | (at_builtin; refine wpList_append_own _ rfl _ _ 42 rfl w.heap.size 46 i0 (.agg #[.int .i64 0, .int .i64 0, .bool false, .string ⟨#[]⟩]) 4 40 Tryz.underlying42 hi hz0 hz1 hz2 rfl (by decide) _ _ _ rfl hoA.out ⟨wr.heap.size, 0, none⟩ 1 1 (CallM.cells ⟨es, et, eb, ed⟩) rfl rfl Hnews.out (call_one ⟨es, et, eb, ed⟩) (by have := hfl.out; unfold maxLen; omega) (by have := hfl.out; omega) (by have := Hf.out.size; simp; omega) ?_; intro sv' w1 hown1 hg1 _; go_frame)
          | fail)
        go_roundw
        case rel =>
          refine ⟨k + 1, hkl.out, by go_num, ?_, ?_⟩
          · rw [hfe.out, List.length_append, show effCells ((effs.take k).filter (fun c => c.saga == es) ++ [⟨es, et, eb, ed⟩]) = effCells ((effs.take k).filter (fun c => c.saga == es)) ++ CallM.cells ⟨es, et, eb, ed⟩ by simp [effCells]]
            exact hown1
          · refine (Hf.out.alloc _).trans' (Fr.ofGrown hg1) (fun i hi e => ?_)
            have := (Hown.out.lt i e).1
            omega
        case measure => have := hkl.out; simp [intOf]; omega
      · have q1' : (es == id) = false := by simpa using q1
        have hfe : Hid ((effs.take (k + 1)).filter (fun c => c.saga == id) = (effs.take k).filter (fun c => c.saga == id)) := by
          show _ = _
          rw [Htk.out, List.filter_append]; simp [q1']
        go_wp2_with fail
        go_roundw
        case rel => exact ⟨k + 1, hkl.out, by go_num, by rw [hfe.out]; exact Hown.out, Hf.out⟩
        case measure => have := hkl.out; simp [intOf]; omega
    · obtain rfl : k = effs.length := by omega
      have hnk : ¬ ((effs.length : Int) < effs.length) := by omega
      have Hown := Hown
      rw [List.take_length] at Hown
      obtain ⟨ma, mc, rfl, hmr⟩ := calls_read Hown.out
      have Hmr := Lib.hid hmr
      have hFl : Hid ((effs.filter fun c => c.saga == id).length < 1073741824) := Nat.lt_of_le_of_lt (List.length_filter_le _ _) hl30
      clear hk hlt hmr
      generalize (effs.filter fun c => c.saga == id) = F at Hsh Hown Hmr hFl ⊢
      have hcv := cellv wr
      go_upto_region 8 with fail
      obtain ⟨wO, rfl⟩ : ∃ x, x = wr := ⟨wr, rfl⟩
      go_loopw [9] (fun i w2 => ∃ k : Nat, k ≤ K ∧ i = .int .i64 k ∧ New wO w2) (fun i _ => K - (intOf i).toNat)
      case atStart => exact ⟨0, Nat.zero_le _, rfl, Fr.refl _ _⟩
      case round =>
        obtain ⟨k, hk, rfl, hf2⟩ := hrel
        have Hf2 := Lib.hid hf2
        clear hf2
        have hlenF := Hsh.out.1
        have hl31 : F.length < 1073741824 := hFl.out
        have hn30 : n < 1073741824 := Hn.out
        have hKn := HK.out
        by_cases hkK : k < K
        · have hkF : k < F.length := by omega
          obtain ⟨g, rfl, ⟨o, ho⟩, hcc⟩ := Hmr.out k hkF
          have hgr : wr.heap[g]? = wO.heap[g]? := by rw [ho]; exact Hf2.out.get ho (fun f => f)
          obtain ⟨x0, x1, x2, x3⟩ := hcc wr hgr
          obtain ⟨s1, s2⟩ := Hsh.out.2.1 k hkF hkK
          rw [s1] at x1
          rw [s2] at x2
          have hkI : (k : Int) < F.length := by omega
          have hk0 : (0 : Int) ≤ k := by omega
          have hnI : ¬ ((n : Int) ≤ k) := by omega
          have hkl := Lib.hid hkK
          have hw1 : wrap64 ((k : Int) + 1) = (k : Int) + 1 := wrap_in _ (by omega)
          clear hcc ho hgr x0 x3 s1 s2 hlenF hkK
          have hcv := cellv wr
          go_wp2_with fail
          go_roundw
          case rel => exact ⟨k + 1, hkl.out, by go_num, Hf2.out⟩
          case measure => have := hkl.out; simp [intOf]; omega
        · obtain rfl : k = K := by omega
          by_cases hM0 : M = 0
          · have hFe : F.length = k := by omega
            have hnk2 : ¬ ((k : Int) < F.length) := by omega
            clear hFe hM0 hk hkK hlenF
            have hcv := cellv wr
            go_upto_region 15 with fail
            obtain ⟨wP, rfl⟩ : ∃ x, x = wr := ⟨wr, rfl⟩
            go_loopw [10] (fun i w3 => ∃ m : Nat, k ≤ m ∧ m ≤ F.length ∧ i = .int .i64 m ∧ New wP w3) (fun i _ => F.length - (intOf i).toNat)
            case atStart => exact ⟨k, Nat.le_refl _, by have := Hsh.out.1; omega, rfl, Fr.refl _ _⟩
            case round =>
              obtain ⟨m, hm1, hm2, rfl, hf3⟩ := hrel
              have Hf3 := Lib.hid hf3
              clear hf3 hcv
              by_cases hmF : m < F.length
              · obtain ⟨g', hg', ⟨o', ho'⟩, hcc'⟩ := Hmr.out m hmF
                have hgr' : wr.heap[g']? = wO.heap[g']? := by rw [ho']; exact (Hf2.out.trans Hf3.out).get ho' (fun f => f)
                obtain ⟨x0', x1', x2', x3'⟩ := hcc' wr hgr'
                obtain ⟨s1', s2'⟩ := Hsh.out.2.2 m hmF hm1
                rw [s1'] at x1'
                rw [s2'] at x2'
                first | subst hg' | (obtain rfl : g = g' := by simpa using hg')
                have hmI : (m : Int) < F.length := by omega
                have hm0 : (0 : Int) ≤ m := by omega
                have hml := Lib.hid hmF
                have hw3 : wrap64 ((m : Int) - k) = (m : Int) - k := wrap_in _ (by omega)
                have hw4 : wrap64 ((k : Int) - ((m : Int) - k)) = (k : Int) - ((m : Int) - k) := wrap_in _ (by omega)
                have hm1' := Lib.hid hm1
                clear hcc' ho' hgr' x0' x3' s1' s2' hm1 hm2 hmF
                have hcv := cellv wr
                go_wp2_with fail
                go_roundw
                case rel => exact ⟨m + 1, by have := hm1'.out; omega, hml.out, by go_num, Hf3.out⟩
                case measure => have := hml.out; simp [intOf]; omega
              · have hmI : ¬ ((m : Int) < F.length) := by omega
                have hw2 : wrap64 (2 * (k : Int)) = 2 * (k : Int) := wrap_in _ (by omega)
                have hle : (F.length : Int) ≤ 2 * (k : Int) := by have := Hsh.out.1; have := HM.out; omega
                have HFin := Lib.hid ((Hf.out.trans Hf2.out).trans Hf3.out)
                clear hmF hm1 hm2
                go_wp2_with fail
                go_ret
                exact ⟨rfl, by first | exact HFin.out | exact HFin.out.drewN _⟩
          · have hkF : k < F.length := by omega
            obtain ⟨g, rfl, ⟨o, ho⟩, hcc⟩ := Hmr.out k hkF
            have hgr : wr.heap[g]? = wO.heap[g]? := by rw [ho]; exact Hf2.out.get ho (fun f => f)
            obtain ⟨x0, x1, x2, x3⟩ := hcc wr hgr
            obtain ⟨s1, s2⟩ := Hsh.out.2.2 k hkF (Nat.le_refl _)
            rw [s2] at x2
            have hkI : (k : Int) < F.length := by omega
            have hk0 : (0 : Int) ≤ k := by omega
            have hnI : ((k : Int) == n) = false := by have := HKM.out; simp; omega
            clear hcc ho hgr x0 x1 x3 s1 s2 hM0 hkF
            have hcv := cellv wr
            go_upto_region 15 with fail
            obtain ⟨wP, rfl⟩ : ∃ x, x = wr := ⟨wr, rfl⟩
            go_loopw [10] (fun i w3 => ∃ m : Nat, k ≤ m ∧ m ≤ F.length ∧ i = .int .i64 m ∧ New wP w3) (fun i _ => F.length - (intOf i).toNat)
            case atStart => exact ⟨k, Nat.le_refl _, by have := Hsh.out.1; omega, rfl, Fr.refl _ _⟩
            case round =>
              obtain ⟨m, hm1, hm2, rfl, hf3⟩ := hrel
              have Hf3 := Lib.hid hf3
              clear hf3 hcv
              by_cases hmF : m < F.length
              · obtain ⟨g', hg', ⟨o', ho'⟩, hcc'⟩ := Hmr.out m hmF
                have hgr' : wr.heap[g']? = wO.heap[g']? := by rw [ho']; exact (Hf2.out.trans Hf3.out).get ho' (fun f => f)
                obtain ⟨x0', x1', x2', x3'⟩ := hcc' wr hgr'
                obtain ⟨s1', s2'⟩ := Hsh.out.2.2 m hmF hm1
                rw [s1'] at x1'
                rw [s2'] at x2'
                first | subst hg' | (obtain rfl : g = g' := by simpa using hg')
                have hmI : (m : Int) < F.length := by omega
                have hm0 : (0 : Int) ≤ m := by omega
                have hml := Lib.hid hmF
                have hw3 : wrap64 ((m : Int) - k) = (m : Int) - k := wrap_in _ (by omega)
                have hw4 : wrap64 ((k : Int) - ((m : Int) - k)) = (k : Int) - ((m : Int) - k) := wrap_in _ (by omega)
                have hm1' := Lib.hid hm1
                clear hcc' ho' hgr' x0' x3' s1' s2' hm1 hm2 hmF
                have hcv := cellv wr
                go_wp2_with fail
                go_roundw
                case rel => exact ⟨m + 1, by have := hm1'.out; omega, hml.out, by go_num, Hf3.out⟩
                case measure => have := hml.out; simp [intOf]; omega
              · have hmI : ¬ ((m : Int) < F.length) := by omega
                have hw2 : wrap64 (2 * (k : Int)) = 2 * (k : Int) := wrap_in _ (by omega)
                have hle : (F.length : Int) ≤ 2 * (k : Int) := by have := Hsh.out.1; have := HM.out; omega
                have HFin := Lib.hid ((Hf.out.trans Hf2.out).trans Hf3.out)
                clear hmF hm1 hm2
                go_wp2_with fail
                go_ret
                exact ⟨rfl, by first | exact HFin.out | exact HFin.out.drewN _⟩
end Go.Proofs.YtkafmfdipmhleaaGreatDoor

namespace Go.Proofs.YtkafmfdipmhleaaGreatDoor
open Go.RowKit Go.Maps

theorem PAt.low {w w' : World} {pb : Nat} {p : PartM} (h : PAt w pb p) (hl : Low w.heap.size w w') (hs : w.heap.size ≤ w'.heap.size) : PAt w' pb p :=
  h.keep hs (fun k _ ho _ => (hl.block k (lt_of_hp ho)).trans ho)
theorem fits_of (d : DiskM) (h : 8 ≤ d.blocks.length ∧ d.blocks.length ≤ 400) : d.fits = true := by simp [DiskM.fits]; omega
/-- Format of a new disk. -/
theorem fmt_new {w : World} {db bb n : Nat} (h : DiskAt w db bb (DiskM.new n)) (hn : 8 ≤ n ∧ n ≤ 400) :
    Calls Tryz.prog 39 #[.pointer (some ⟨db, 0, none⟩)] w fun e w' => e = .returned .nilIface ∧ Fr (fun k => k = db ∨ k = bb) w w' ∧ DiskAt w' db bb (DiskM.fresh n) := by
  obtain ⟨r, hr⟩ := parse_zer
  have hl : (DiskM.new n).blocks.length = n := by simp [DiskM.new]
  refine Calls.mono (pFormat_calls h (new_quiet n) rfl r false (by rw [new_look0 n (by omega)]; exact hr)) ?_
  intro e w' he
  unfold sFmtPost at he
  rw [fits_of _ (by rw [hl]; exact hn)] at he
  have he : FmtPost w db bb (DiskM.new n) (nextEpoch r false) e w' := by simpa using he
  have : nextEpoch r false = 1 := by simp [nextEpoch]
  rw [this] at he
  exact he
/-- Open of a fresh disk. -/
theorem open_fresh {w : World} {db bb pb n : Nat} {p : PartM} (h : DiskAt w db bb (DiskM.fresh n)) (hp : PAt w pb p) (hlo : p.lo ≤ db ∧ p.lo ≤ bb) (hn : 8 ≤ n ∧ n ≤ 400) (pause : Int) (hpz : 1 ≤ pause ∧ pause ≤ 64) :
    Calls Tryz.prog 30 #[.pointer (some ⟨db, 0, none⟩), .int .i64 pause, .pointer (some ⟨pb, 0, none⟩)] w fun e w' => ∃ xb jb mb, e = .returned (.tuple #[.pointer (some ⟨xb, 0, none⟩), .nilIface]) ∧
      StAt w' ⟨xb, jb, mb, db, bb, pb⟩ [] (StM.fresh n pause p) ∧ Fr (· = db) w w' := by
  obtain ⟨r0, hr0, hk, he⟩ := parse_hdr
  obtain ⟨r1, hr1⟩ := parse_zer
  refine Calls.mono (pOpen0_calls h hp hlo (fresh_quiet n) r0 r1 false (by rw [fresh_look0 n (by omega)]; exact hr0) hk (by rw [fresh_look1 n (by omega)]; exact hr1) (by simp [atOk]) (fits_of _ (by rw [fresh_len]; exact hn)) pause hpz) ?_
  rintro e w' ⟨xb, jb, mb, rfl, _, hs, hf⟩
  rw [he] at hs
  exact ⟨xb, jb, mb, rfl, hs, hf⟩
theorem begun1_inv (lo : Nat) : (begun1 lo).inv ∧ (begun1 lo).fine (0 + (begun1 lo).sagas.length) := by
  have h0 := fresh_inv 20 1 ⟨[], [], [], 0, lo⟩ (by omega) (by omega)
  have hf : (StM.fresh 20 1 ⟨[], [], [], 0, lo⟩).fine 1 := ⟨by simp [StM.fresh], by simp [StM.fresh], by simp [StM.fresh], by simp [StM.fresh], by simp [StM.fresh], fun g hg => by simp [StM.fresh] at hg⟩
  have := submit_inv (id := 5) (l := kSteps 5 1) h0 hf (kSteps_whole 5 1 (by omega) (by omega)) (fun x hx => by simp [StM.fresh] at hx) (by
    have : (StM.fresh 20 1 ⟨[], [], [], 0, lo⟩).d.blocks.length = 20 := fresh_len 20
    rw [this]
    simp [StM.fresh, leftSum, kSteps_len])
  exact ⟨this.1, this.2⟩
theorem begun_sub {w : World} {q : Pl} {lo : Nat} {v : Value} (hs : StAt w q [] (StM.fresh 20 1 ⟨[], [], [], 0, lo⟩)) (hv : StepsAt w v (kSteps 5 1)) :
    Calls Tryz.prog 18 #[.pointer (some ⟨q.xb, 0, none⟩), .int .i64 5, v] w fun e w' => e = .returned .nilIface ∧ (∃ bl', StAt w' q bl' (begun1 lo)) ∧ FrK [0, 103, 104, 133, 80] w w' ∧ Low lo w w' :=
  Submit_calls (id := 5) (l := kSteps 5 1) hs (fresh_inv 20 1 ⟨[], [], [], 0, lo⟩ (by omega) (by omega)) hv (kSteps_whole 5 1 (by omega) (by omega)) (fun x hx => by simp [StM.fresh] at hx) (by
    have : (StM.fresh 20 1 ⟨[], [], [], 0, lo⟩).d.blocks.length = 20 := fresh_len 20
    rw [this]
    simp [StM.fresh, leftSum, kSteps_len])
theorem begun_tick {w : World} {q : Pl} {lo : Nat} {bl : List Nat} (hs : StAt w q bl (begun1 lo)) :
    Calls Tryz.prog 20 #[.pointer (some ⟨q.xb, 0, none⟩)] w fun e w' => e = .returned .nilIface ∧ StAt w' q bl (begun1 lo).tick ∧ FrK KT w w' ∧ Low lo w w' :=
  Tick_calls hs (begun1_inv lo).1 (begun1_inv lo).2 (show -9223372036854775808 ≤ (0 : Int) + 1 ∧ (0 : Int) + 1 ≤ 9223372036854775807 by omega)
theorem begun_status {w : World} {q : Pl} {lo : Nat} {bl : List Nat} (hs : StAt w q bl (begun1 lo).tick) :
    ∃ g : SagaM, g.st = 3 ∧ Calls Tryz.prog 21 #[.pointer (some ⟨q.xb, 0, none⟩), .int .i64 5] w fun e w' => e = .returned (.tuple #[.agg g.status, .nilIface]) ∧ New w w' := by
  obtain ⟨g, h1, h2, h3, _⟩ := begun1_tick lo
  refine ⟨g, h2, ?_⟩
  have ho := (tick_inv (m := 0) (begun1_inv lo).1 (begun1_inv lo).2).1.ord
  have := Status_calls (i := 0) (g := g) hs ho (by rw [h1]; rfl) (by omega)
  rw [h3] at this
  exact this
theorem begun_effs {w : World} {q : Pl} {lo : Nat} {bl : List Nat} (hs : StAt w q bl (begun1 lo).tick) : ∃ lv va vc iv at_, w.heap[q.pb]? = some (.cells #[lv, .slice va 1 vc, iv, at_] 44 (0, 0)) := by
  obtain ⟨lv, va, vc, iv, h, _⟩ := effs_read hs.pt
  obtain ⟨_, _, _, _, h4⟩ := begun1_tick lo
  rw [h4] at h
  exact ⟨lv, va, vc, iv, _, h⟩
set_option maxRecDepth 100000 in
set_option maxHeartbeats 4000000 in
theorem begun_calls {w : World} {pb n : Nat} {l : List Int} {lo : Nat} {pause : Int} (hp : PAt w pb ⟨[], [], l, 0, lo⟩) (hn : 8 ≤ n ∧ n ≤ 400) (hpz : 1 ≤ pause ∧ pause ≤ 64) :
    Calls Tryz.prog 17 #[.int .i64 n, .pointer (some ⟨pb, 0, none⟩), .int .i64 pause] w fun e w' => ∃ q : Pl, q.pb = pb ∧ e = .returned (.tuple #[.pointer (some ⟨q.db, 0, none⟩), .pointer (some ⟨q.xb, 0, none⟩)]) ∧
      StAt w' q [] (StM.fresh n pause ⟨[], [], l, 0, lo⟩) ∧ Low lo w w' ∧ w.heap.size ≤ w'.heap.size := by
  have Hp := Lib.hid hp
  have Hn := Lib.hid hn
  have Hpz := Lib.hid hpz
  clear hp hn hpz
  go_enter Tryz.func17, Tryz.ntmps17
  go_upto_region 3 with (first
    | (go_at_call 38; refine Calls.mono (NewDisk_calls w 20 (by omega)) ?_; rintro e w1 ⟨hf1, db, bb, hdb, hbb, rfl, hd1⟩)
    | (go_at_call 15; refine Calls.mono (NewPartner_calls (l := []) (.inl ⟨rfl, none, 0, rfl⟩) (by simp) w.heap.size hf1.size) ?_; rintro e w2 ⟨pq, rfl, hpq, hq2, hf2⟩)
    | fail)
  have HF3 := Lib.hid (fmt_new (hd1.new hf2) (by omega))
  have Hq2 := Lib.hid hq2
  have Hd1 := Lib.hid hd1
  have HL2 : Hid (Low w.heap.size w w2 ∧ w.heap.size ≤ w2.heap.size) := ⟨(hf1.low (Nat.le_refl _) (fun _ f => f.elim)).trans (hf2.low hf1.size (fun _ f => f.elim)), Nat.le_trans hf1.size hf2.size⟩
  have Hdb : Hid (w.heap.size ≤ db ∧ w.heap.size ≤ bb) := ⟨hdb, hbb⟩
  have Hf2 := Lib.hid hf2
  clear hdb hbb hf1 hd1 hpq hq2 hf2
  go_upto_region 4 with (first
    | (go_at_call 39; refine Calls.mono HF3.out ?_; rintro e w3 ⟨rfl, hf3, hd3⟩)
    | fail)
  have hdk : ∀ k, (k = db ∨ k = bb) → ∃ o, w2.heap[k]? = some o ∧ (kindOf o = 103 ∨ kindOf o = 104) := by
    obtain ⟨_, _, _, _, e1, e2, _⟩ := Hd1.out.new Hf2.out
    rintro k (rfl | rfl)
    · exact ⟨_, e1, .inl rfl⟩
    · exact ⟨_, e2, .inr rfl⟩
  have hk3 : FrK [103, 104] w2 w3 := hf3.toK (by
    intro k o hk ho
    obtain ⟨o', ho', h⟩ := hdk k hk
    rw [ho'] at ho; cases ho
    rcases h with h | h <;> simp [h])
  have HO4 := Lib.hid (open_fresh hd3 (Hq2.out.keepK hk3 (by decide) (by decide) (by decide) (by decide)) Hdb.out (by omega) 1 (by omega))
  have HL3 : Hid (Low w.heap.size w w3 ∧ w.heap.size ≤ w3.heap.size) := ⟨HL2.out.1.trans (hf3.low HL2.out.2 (by rintro k (rfl | rfl); exact Hdb.out.1; exact Hdb.out.2)), Nat.le_trans HL2.out.2 hf3.size⟩
  clear hf3 hd3 hdk hk3
  go_upto_region 7 with (first
    | (go_at_call 30; refine Calls.mono HO4.out ?_; rintro e w4 ⟨xb, jb, mb, rfl, hs4, hf4⟩)
    | fail)
  have Hs4 := Lib.hid hs4
  have HL4 : Hid (Low w.heap.size w w4 ∧ w.heap.size ≤ w4.heap.size) := ⟨HL3.out.1.trans (hf4.low HL3.out.2 (by rintro k rfl; exact Hdb.out.1)), Nat.le_trans HL3.out.2 hf4.size⟩
  have HSt := Lib.hid (steps_calls w4 5 1 (by omega) (by omega))
  have hi4 := fresh_inv 20 1 ⟨[], [], [], 0, w.heap.size⟩ (by omega) (by omega)
  have Hi4 := Lib.hid hi4
  clear hs4 hf4 hi4
  have HSub := Lib.hid (fun (w5 : World) (v : Value) (hf5 : New w4 w5) (hv : StepsAt w5 v (kSteps 5 1)) => begun_sub (Hs4.out.keepK (hf5.toK (K := []) (fun _ _ f _ => f.elim)) (by simp)) hv)
  go_upto_region 8 with (first
    | (go_at_call 19; refine Calls.mono HSt.out ?_; rintro e w5 ⟨sv, rfl, hsv, hf5⟩; obtain ⟨sa, sn, sc, rfl⟩ := own_slice hsv)
    | (go_at_call 18; refine Calls.mono (HSub.out _ _ hf5 (hsv.at (by rw [kSteps_len]; omega))) ?_; rintro e w6 ⟨rfl, ⟨bl, hs6⟩, hk6, hl6⟩)
    | fail)
  have HL6 : Hid (Low w.heap.size w w6 ∧ w.heap.size ≤ w6.heap.size) := ⟨(HL4.out.1.trans (hf5.low HL4.out.2 (fun _ f => f.elim))).trans hl6, Nat.le_trans HL4.out.2 (Nat.le_trans hf5.size hk6.size)⟩
  have HT := Lib.hid (begun_tick hs6)
  clear hsv hf5 hs6 hk6 hl6
  go_upto_region 9 with (first
    | (go_at_call 20; refine Calls.mono HT.out ?_; rintro e w7 ⟨rfl, hs7, hk7, hl7⟩)
    | fail)
  have HL7 : Hid (Low w.heap.size w w7 ∧ w.heap.size ≤ w7.heap.size) := ⟨HL6.out.1.trans hl7, Nat.le_trans HL6.out.2 hk7.size⟩
  obtain ⟨g, hg3, hst⟩ := begun_status hs7
  obtain ⟨lv, va, vc, iv, at_, hpb⟩ := begun_effs hs7
  have Hpb := Lib.hid hpb
  have HST := Lib.hid hst
  have Hg3 := Lib.hid hg3
  clear hs7 hk7 hl7 hpb hst hg3
  go_upto_region 10 with (first
    | (go_at_call 21; refine Calls.mono HST.out ?_; rintro e w8 ⟨rfl, hf8⟩; simp only [SagaM.status])
    | fail)
  have hc9 := heap_alloc_new w8 (.cells #[.int .i64 g.id, .int .i64 g.st, .int .i64 g.step, .int .i64 g.steps.length, .int .i64 g.tries, .int .i64 g.due] 38)
  have hq9 := heap_alloc_keep (.cells #[.int .i64 g.id, .int .i64 g.st, .int .i64 g.step, .int .i64 g.steps.length, .int .i64 g.tries, .int .i64 g.due] 38) (hf8.get Hpb.out (fun f => f))
  have hlt9 := lt_of_hp (hf8.get Hpb.out (fun f => f))
  have HL9 : Hid (Low w.heap.size w (w8.alloc (.cells #[.int .i64 g.id, .int .i64 g.st, .int .i64 g.step, .int .i64 g.steps.length, .int .i64 g.tries, .int .i64 g.due] 38)) ∧ w.heap.size ≤ (w8.alloc (.cells #[.int .i64 g.id, .int .i64 g.st, .int .i64 g.step, .int .i64 g.steps.length, .int .i64 g.tries, .int .i64 g.due] 38)).heap.size) := ⟨HL7.out.1.trans ((hf8.alloc (.cells #[.int .i64 g.id, .int .i64 g.st, .int .i64 g.step, .int .i64 g.steps.length, .int .i64 g.tries, .int .i64 g.due] 38)).low HL7.out.2 (fun _ f => f.elim)), Nat.le_trans HL7.out.2 (hf8.alloc (.cells #[.int .i64 g.id, .int .i64 g.st, .int .i64 g.step, .int .i64 g.steps.length, .int .i64 g.tries, .int .i64 g.due] 38)).size⟩
  clear hf8
  generalize w8.alloc (.cells #[.int .i64 g.id, .int .i64 g.st, .int .i64 g.step, .int .i64 g.steps.length, .int .i64 g.tries, .int .i64 g.due] 38) = W9 at hc9 hq9 HL9 ⊢
  generalize w8.heap.size = N9 at hc9 hlt9 ⊢
  rw [Hg3.out] at hc9
  have hq9' : W9.heap[pq]? = some (.cells #[lv, .slice va 1 vc, iv, at_] 44 (0, 0)) := hq9
  have a1 : W9.cell? ⟨N9, 1, none⟩ = some (.int .i64 3) := by rw [cellv, hc9]; rfl
  have a2 : W9.cell? ⟨pq, 1, none⟩ = some (.slice va 1 vc) := by rw [cellv, hq9']; rfl
  clear hc9 hq9 hq9'
  go_upto_region 13 with (first
    | (go_at_call 38; refine Calls.mono (NewDisk_calls W9 n (by have := Hn.out; omega)) ?_; rintro e w10 ⟨hf10, db', bb', hdb', hbb', rfl, hd10⟩)
    | fail)
  have HF10 := Lib.hid (fmt_new hd10 Hn.out)
  have HL10 : Hid (Low w.heap.size w w10 ∧ w.heap.size ≤ w10.heap.size) := ⟨HL9.out.1.trans (hf10.low HL9.out.2 (fun _ f => f.elim)), Nat.le_trans HL9.out.2 hf10.size⟩
  have Hdb' : Hid (w.heap.size ≤ db' ∧ w.heap.size ≤ bb') := ⟨Nat.le_trans HL9.out.2 hdb', Nat.le_trans HL9.out.2 hbb'⟩
  clear a1 a2 hlt9 hf10 hdb' hbb' hd10
  go_upto_region 14 with (first
    | (go_at_call 39; refine Calls.mono HF10.out ?_; rintro e w11 ⟨rfl, hf11, hd11⟩)
    | fail)
  have HL11 : Hid (Low w.heap.size w w11 ∧ w.heap.size ≤ w11.heap.size) := ⟨HL10.out.1.trans (hf11.low HL10.out.2 (by rintro k (rfl | rfl); exact Hdb'.out.1; exact Hdb'.out.2)), Nat.le_trans HL10.out.2 hf11.size⟩
  have hlo : lo ≤ w.heap.size := by
    obtain ⟨⟨_, _, _, _, _, _, _, _, hb, _⟩⟩ := Hp.out
    have := hb.1; have := hb.2.1; simp only at this; omega
  have Hlo := Lib.hid hlo
  have HO12 := Lib.hid (open_fresh hd11 (Hp.out.low HL11.out.1 HL11.out.2) ⟨Nat.le_trans hlo Hdb'.out.1, Nat.le_trans hlo Hdb'.out.2⟩ Hn.out pause Hpz.out)
  clear hf11 hd11 hlo
  go_wp2_with (first
    | (go_at_call 30; refine Calls.mono HO12.out ?_; rintro e w12 ⟨xb', jb', mb', rfl, hs12, hf12⟩)
    | fail)
  go_ret2
  refine ⟨⟨xb', jb', mb', db', bb', pb⟩, rfl, rfl, hs12, (HL11.out.1.trans (hf12.low HL11.out.2 (by rintro k rfl; exact Hdb'.out.1))).le Hlo.out, Nat.le_trans HL11.out.2 hf12.size⟩
end Go.Proofs.YtkafmfdipmhleaaGreatDoor
