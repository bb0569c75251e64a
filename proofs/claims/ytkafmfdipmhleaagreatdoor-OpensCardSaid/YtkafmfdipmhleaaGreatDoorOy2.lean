/-
  What is proved: the contract of the journal's Settle, on whatever disk. the contract of the journal's Append, on whatever disk. the contract of the journal's Append, on whatever disk. the contract of the engine's write, on whatever disk. the contract of Submit of a saga that is new, on whatever disk. the drawn region of the disk's After: a sector of a write that survived. the contract of the helper few, of a slice wherever it lies.
-/
import Derived.Test.YtkafmfdipmhleaaGreatDoorOy1

namespace Go.Proofs.YtkafmfdipmhleaaGreatDoor
open Go.RowKit

theorem Handle.fr {S : Nat → Prop} {w w' : World} (h : Handle w) (hf : Fr S w w') (h0 : ¬ S 0) : Handle w' := by
  unfold Handle at h ⊢
  have hlt := World.block_lt_of_cell? w _ h
  rw [← h]; exact World.cell?_of_block (hf.block 0 hlt h0)
theorem Handle.new {w w' : World} (h : Handle w) (hf : New w w') : Handle w' := by
  unfold Handle at h ⊢
  have hlt := World.block_lt_of_cell? w _ h
  rw [← h]; exact World.cell?_of_block (hf.block 0 hlt (fun f => f))
/-- An error that was told of. -/
def ErrP (w : World) (op : ByteArray) (e : Ending) (w' : World) : Prop := ∃ nb, w.heap.size ≤ nb ∧ e = .returned (.iface 121 (.pointer (some ⟨nb, 0, none⟩))) ∧ w'.heap[nb]? = some (.cells (faultCells op 5) 123 (0, 0))
def SettleG (w : World) (jb db bb : Nat) (j : JnM) (d : DiskM) (e : Ending) (w' : World) : Prop :=
  Fr (fun k => k = db ∨ k = bb ∨ k = jb) w w' ∧
    ((j.fresh = false ∨ d.bad = false) ∧ e = .returned .nilIface ∧ DiskAt w' db bb (settleD j d) ∧ JnAt w' jb db { j with fresh := false } ∨
     j.fresh = true ∧ d.bad = true ∧ ErrP w setStr e w' ∧ DiskAt w' db bb d.count ∧ JnAt w' jb db j)
set_option maxRecDepth 100000 in
set_option maxHeartbeats 2000000 in
theorem Settle_gen {w : World} {jb db bb : Nat} {j : JnM} {d : DiskM} (hj : JnAt w jb db j) (h : DiskAt w db bb d) (hg : Handle w) (h0 : db ≠ 0 ∧ bb ≠ 0 ∧ jb ≠ 0) :
    Calls Tryz.prog 50 #[.pointer (some ⟨jb, 0, none⟩)] w (SettleG w jb db bb j d) := by
  have hmf : ∀ (fn : Fn) (first cap : Array Value) (w : World), (Instr.makeFunc fn first cap).run Tryz.prog w = .ok (.func fn first cap) w := fun _ _ _ _ => rfl
  have hne := jn_ne hj h
  have hlt := disk_lt h
  have hjl := lt_of_hp hj
  have hd1 := h.new ((Fr.refl _ w).alloc (.cells #[.nilIface] 32))
  have hj1 := heap_alloc_keep (.cells #[.nilIface] 32) hj
  have he1 := heap_alloc_new w (.cells #[.nilIface] 32)
  have hF1 : Fr (fun k => k = db ∨ k = bb ∨ k = jb) w (w.alloc (.cells #[.nilIface] 32)) := (Fr.refl _ w).alloc _
  have Hg := Lib.hid hg
  have H0 := Lib.hid h0
  have Hs : Hid (settleD j d = if j.fresh then d.flush else d) := rfl
  obtain ⟨ep, en, fresh⟩ := j
  go_enter_defers Tryz.func50, Tryz.ntmps50
  go_upto_region 2 with fail
  have HE : Hid (w.heap.size ≠ db ∧ w.heap.size ≠ bb ∧ w.heap.size ≠ jb ∧ ¬ w.heap.size < w.heap.size) := ⟨by omega, by omega, by omega, by omega⟩
  have Hne := Lib.hid hne
  have HF1 := Lib.hid hF1
  have Hd1 := Lib.hid hd1
  have Hg1 : Hid (Handle (w.alloc (.cells #[.nilIface] 32))) := Handle.new hg ((Fr.refl _ w).alloc _)
  clear h hj hne hlt hjl hd1 hF1 hg h0
  generalize w.alloc (.cells #[.nilIface] 32) = W1 at hj1 he1 HF1 Hd1 Hg1 ⊢
  have HEl := Lib.hid (rfl : w.heap.size = w.heap.size)
  generalize hE : w.heap.size = E at he1 HE ⊢
  have HEe := Lib.hid hE
  clear hE HEl
  unfold jnCells at hj1
  simp only at hj1
  have hcv := cellv W1
  have hfv := frozv W1
  cases fresh
  · go_wp2_with fail
    refine leaves_cons (f := 69) (args := #[.pointer (some ⟨E, 0, none⟩)]) (by simp) (by simp [go_sem]) ?_
    refine (idle69 _ _).mono ?_
    rintro e u' w'' ⟨rfl, rfl, rfl⟩
    have hsome : (W1.setCell ⟨E, 0, none⟩ Value.nilIface).cell? ⟨E, 0, none⟩ = some .nilIface := by rw [cellv, hp_setCell, if_pos rfl, he1]; rfl
    refine ⟨.nilIface, ?_, HF1.out.setCell (b := E) (fun h => absurd h (by rw [HEe.out]; omega)) 0 .nilIface, .inl ⟨.inl rfl, rfl, ?_, ?_⟩⟩
    · simp [results, Tryz.results50, go_sem, hsome]
    · exact Hd1.out.frame (Fr.one E W1 0 .nilIface) (by rintro k rfl; exact ⟨HE.out.1, HE.out.2.1, _, he1, by simp [kindOf]⟩)
    · unfold JnAt
      rw [hp_setCell, if_neg (Ne.symm HE.out.2.2.1)]; exact hj1
  · go_upto_region 4 with (first
      | (go_at_call 178; refine Calls.mono (Flush_calls Hd1.out) ?_; rintro e w6 ⟨hf6, ⟨hb6, rfl, hd6⟩ | ⟨hb6, rfl, hd6⟩⟩)
      | (go_at_call 71; refine Calls.mono (check_bad w6 5) ?_; rintro e w7 ⟨rfl, rfl⟩)
      | (go_at_call 71; refine Calls.mono (check_ok w6) ?_; rintro e w7 ⟨rfl, rfl⟩)
      | fail)
    · have he6 := hf6.get he1 (by rintro (e | e); exact HE.out.1 e; exact HE.out.2.1 e)
      have hj6 := hf6.get hj1 (by rintro (e | e); exact Hne.out.1 e; exact Hne.out.2 e)
      have hg6 := (Hg1.out.fr hf6 (by rintro (e | e); exact H0.out.1 e.symm; exact H0.out.2.1 e.symm)).new ((Fr.refl _ w6).alloc (.cells (faultCells devStr 5) 123))
      refine leaves_cons (f := 69) (args := #[.pointer (some ⟨E, 0, none⟩)]) (by simp) (by simp [go_sem]) ?_
      refine (told69 hg6 (heap_alloc_new w6 _) (heap_alloc_keep _ he6)).mono ?_
      rintro e u' w'' ⟨rfl, rfl, hF, nb, hnb, hnb2, heb⟩
      have hsome : w''.cell? ⟨E, 0, none⟩ = some (.iface 121 (.pointer (some ⟨nb, 0, none⟩))) := by rw [cellv, heb]; rfl
      have hFr : Fr (fun k => k = db ∨ k = bb ∨ k = jb) w w'' := ((HF1.out.trans (hf6.mono (fun k _ e => e.elim .inl (fun e => .inr (.inl e))))).alloc _).trans' hF (fun i hi e => absurd hi (by rw [HEe.out]; omega))
      refine ⟨.iface 121 (.pointer (some ⟨nb, 0, none⟩)), ?_, hFr, .inr ⟨rfl, hb6, ⟨nb, ?_, rfl, hnb2⟩, ?_, ?_⟩⟩
      · simp [results, Tryz.results50, go_sem, hsome]
      · have := (HF1.out.trans (hf6.mono (fun k _ e => e.elim .inl (fun e => .inr (.inl e))))).size
        simp at hnb; omega
      · exact (hd6.new ((Fr.refl _ w6).alloc _)).frame hF (by rintro k rfl; exact ⟨HE.out.1, HE.out.2.1, _, heap_alloc_keep _ he6, by simp [kindOf]⟩)
      · exact hF.get (heap_alloc_keep _ hj6) (fun e => HE.out.2.2.1 e.symm)
    · have hj7 := hf6.get hj1 (by rintro (e | e); exact Hne.out.1 e; exact Hne.out.2 e)
      have he7 := hf6.get he1 (by rintro (e | e); exact HE.out.1 e; exact HE.out.2.1 e)
      have HF7 := Lib.hid (HF1.out.trans (hf6.mono (fun k _ e => e.elim .inl (fun e => .inr (.inl e)))))
      have Hd7 := Lib.hid hd6
      have hb6 := Lib.hid hb6
      clear hf6 hd6 hcv hfv
      have hcv := cellv w7
      have hfv := frozv w7
      go_upto_region 5 with fail
      have hj8 : (w7.setCell ⟨jb, 3, none⟩ (.bool false)).heap[jb]? = some (.cells #[.iface 27 (.pointer (some ⟨db, 0, none⟩)), .int .u32 ep, .int .i64 en, .bool false] 132 (0, 0)) := by
        rw [hp_setCell, if_pos rfl, hj7]; rfl
      have he8 : (w7.setCell ⟨jb, 3, none⟩ (.bool false)).heap[E]? = some (.cells #[.nilIface] 32 (0, 0)) := by
        rw [hp_setCell, if_neg HE.out.2.2.1]; exact he7
      have Hd8 := Lib.hid (Hd7.out.frame (Fr.one jb w7 3 (.bool false)) (by rintro k rfl; exact ⟨Hne.out.1, Hne.out.2, _, hj7, by simp [kindOf]⟩))
      have HF8 := Lib.hid (HF7.out.setCell (b := jb) (fun _ => .inr (.inr rfl)) 3 (.bool false))
      clear hcv hfv hj7 he7
      generalize w7.setCell ⟨jb, 3, none⟩ (.bool false) = W8 at hj8 he8 Hd8 HF8 ⊢
      have hcv := cellv W8
      have hfv := frozv W8
      go_wp2_with fail
      refine leaves_cons (f := 69) (args := #[.pointer (some ⟨E, 0, none⟩)]) (by simp) (by simp [go_sem]) ?_
      refine (idle69 _ _).mono ?_
      rintro e u' w'' ⟨rfl, rfl, rfl⟩
      have hsome : (W8.setCell ⟨E, 0, none⟩ Value.nilIface).cell? ⟨E, 0, none⟩ = some .nilIface := by rw [cellv, hp_setCell, if_pos rfl, he8]; rfl
      refine ⟨.nilIface, ?_, HF8.out.setCell (b := E) (fun h => absurd h (by rw [HEe.out]; omega)) 0 .nilIface, .inl ⟨.inr hb6.out, rfl, ?_, ?_⟩⟩
      · simp [results, Tryz.results50, go_sem, hsome]
      · exact Hd8.out.frame (Fr.one E W8 0 .nilIface) (by rintro k rfl; exact ⟨HE.out.1, HE.out.2.1, _, he8, by simp [kindOf]⟩)
      · unfold JnAt
        rw [hp_setCell, if_neg (Ne.symm HE.out.2.2.1)]; exact hj8
end Go.Proofs.YtkafmfdipmhleaaGreatDoor

namespace Go.Proofs.YtkafmfdipmhleaaGreatDoor
open Go.RowKit

/-- Where a fault is thrown: what stands behind knows of the frame only the deferred calls and the result's slot. -/
def thrownQ (x4 : Value) (ds : List Deferred) (R : Nat → World → Prop) : Exit → Act → World → Prop
  | .panic c, a, w => a.defers = ds ∧ a.tmps[4]? = some x4 ∧ ∃ fb, c = [{ v := .iface 121 (.pointer (some ⟨fb, 0, none⟩)), recovered := false }] ∧ R fb w
  | _, _, _ => False
theorem thrownQ_put {x4 : Value} {ds : List Deferred} {R : Nat → World → Prop} {d : Tmp} (hd : d ≠ 4) {v : Value} (c : List PanicEntry) (a : Act) (w : World) (h : thrownQ x4 ds R (.panic c) (a.put (some d) v) w) : thrownQ x4 ds R (.panic c) a w := by
  obtain ⟨h1, h2, h3⟩ := h
  refine ⟨h1, ?_, h3⟩
  simp only [Act.put] at h2
  rw [Array.getElem?_setIfInBounds_ne hd] at h2
  exact h2
/-- A block made sure of, on whatever disk: the disk behind it; was no error told? -/
def DiskM.sureG (d : DiskM) (i : Nat) (l : List UInt8) : DiskM × Bool :=
  if d.bad then (d.count, false) else if (d.put i l).bad then ((d.put i l).count, false) else (d.sure i l, true)
def SureG (w : World) (db bb : Nat) (d : DiskM) (i : Nat) (l : List UInt8) (e : Ending) (w' : World) : Prop :=
  Fr (fun k => k = db ∨ k = bb) w w' ∧
    ((d.sureG i l).2 = false ∧ Thrown w e w' ∧ DiskAt w' db bb (d.sureG i l).1 ∨
     (d.sureG i l).2 = true ∧ e = .returned (.tuple #[]) ∧ DiskAt w' db bb (d.sureG i l).1)
theorem sure_gen {w : World} {db bb : Nat} {d : DiskM} (h : DiskAt w db bb d) (i : Nat) (hi : i < d.blocks.length) (hp : d.pend = none) (nb : Nat) (r : RecM) (hr : (recB r).length = 128)
    (hs : w.heap[nb]? = some (.cells (wayCells (recB r) 4) 201 (0, 0))) :
    Calls Tryz.prog 95 #[vol db, .int .i64 i, .slice (some ⟨nb, 0, none⟩) (endOf r) (endOf r)] w (SureG w db bb d i (recBytes r)) := by
  have hl : (recBytes r).length = endOf r := by
    unfold recBytes endOf; simp [hr]; split <;> omega
  have he : endOf r ≤ 128 := by unfold endOf; split <;> omega
  refine Calls.mono (sure_calls h i hi hp nb 0 (endOf r) (endOf r) (recBytes r) hl.symm (by omega) _ 201 hs (by decide) ?_) ?_
  · intro j hj
    rw [Nat.zero_add, way_byte _ _ _ (by omega)]
    simp only [recBytes, List.getD_eq_getElem?_getD]
    rw [List.getElem?_take_of_lt (by omega)]
  · rintro e w' ⟨hf, ⟨hb, ht, hd⟩ | ⟨hb, hb2, ht, hd⟩ | ⟨hb, hb2, rfl, hd⟩⟩
    · exact ⟨hf, .inl (by simp only [DiskM.sureG, hb, if_true]; exact ⟨trivial, ht, hd⟩)⟩
    · exact ⟨hf, .inl (by simp [DiskM.sureG, hb, hb2]; exact ⟨ht, hd⟩)⟩
    · exact ⟨hf, .inr (by simp [DiskM.sureG, hb, hb2]; exact hd)⟩
set_option maxRecDepth 100000 in
set_option maxHeartbeats 4000000 in
/-- j.v.sure(r.Index, r.bytes()). -/
theorem app_g9ok (jb db bb R ix : Nat) (j : JnM) (d : DiskM) (r : RecM) (sa : Option Addr) (sm sc : Nat) (W : World) (hne : jb ≠ db ∧ jb ≠ bb) (hRd : R ≠ db ∧ R ≠ bb)
    (hj : W.heap[jb]? = some (.cells (jnCells db j) 132 (0, 0))) (hr : W.heap[R]? = some (.cells #[.int .u8 r.kind, .int .u32 r.epoch, .int .i64 r.index, .int .i64 r.saga, .int .i64 r.reply, .slice sa sm sc] 91 (0, 0)))
    (hst : r.kind = 2 → StepsAt W (.slice sa sm sc) r.steps) (hok : r.ok) (hd : DiskAt W db bb d) (hp : d.pend = none) (hix : ix = r.index) (hil : ix < d.blocks.length)
    {ds : List Deferred} {x1 x2 x3 x4 x5 x6 x8 x9 x10 x11 x12 x13 x14 x15 x16 x17 x18 x19 x20 x21 x22 x23 x24 x25 x26 x27 x28 x29 x30 x31 x32 x33 x34 x35 x36 x37 x38 x39 x40 x41 x42 x43 x44 x45 x46 x47 x48 x49 x50 x51 : Value} {Q : Exit → Act → World → Prop}
    (hb : (d.sureG ix (recBytes r)).2 = true) (hQ : ∀ (y33 y34 y35 y36 y37 y38 y39 y40 y41 : Value) (w' : World), Fr (fun k => k = db ∨ k = bb) W w' → DiskAt w' db bb (d.sureG ix (recBytes r)).1 → Q .normal ⟨#[.pointer (some ⟨jb, 0, none⟩), x1, x2, x3, x4, x5, x6, .pointer (some ⟨R, 0, none⟩), x8, x9, x10, x11, x12, x13, x14, x15, x16, x17, x18, x19, x20, x21, x22, x23, x24, x25, x26, x27, x28, x29, x30, x31, x32, y33, y34, y35, y36, y37, y38, y39, y40, y41, x42, x43, x44, x45, x46, x47, x48, x49, x50, x51], ds⟩ w')
 :
    Code.wp Tryz.prog appR9 Q ⟨#[.pointer (some ⟨jb, 0, none⟩), x1, x2, x3, x4, x5, x6, .pointer (some ⟨R, 0, none⟩), x8, x9, x10, x11, x12, x13, x14, x15, x16, x17, x18, x19, x20, x21, x22, x23, x24, x25, x26, x27, x28, x29, x30, x31, x32, x33, x34, x35, x36, x37, x38, x39, x40, x41, x42, x43, x44, x45, x46, x47, x48, x49, x50, x51], ds⟩ W := by
  subst hix
  have a0 : W.cell? ⟨jb, 0, none⟩ = some (.iface 27 (.pointer (some ⟨db, 0, none⟩))) := by rw [cellv, hj]; rfl
  have r0 : W.cell? ⟨R, 0, none⟩ = some (.int .u8 r.kind) := by rw [cellv, hr]; rfl
  have r1 : W.cell? ⟨R, 1, none⟩ = some (.int .u32 r.epoch) := by rw [cellv, hr]; rfl
  have r2 : W.cell? ⟨R, 2, none⟩ = some (.int .i64 r.index) := by rw [cellv, hr]; rfl
  have r3 : W.cell? ⟨R, 3, none⟩ = some (.int .i64 r.saga) := by rw [cellv, hr]; rfl
  have r4 : W.cell? ⟨R, 4, none⟩ = some (.int .i64 r.reply) := by rw [cellv, hr]; rfl
  have r5 : W.cell? ⟨R, 5, none⟩ = some (.slice sa sm sc) := by rw [cellv, hr]; rfl
  have HK := Lib.hid (show ∀ (w' : World), Fr (fun k => k = db ∨ k = bb) W.drew w' → w'.cell? ⟨jb, 0, none⟩ = some (.iface 27 (.pointer (some ⟨db, 0, none⟩))) ∧ w'.cell? ⟨R, 0, none⟩ = some (.int .u8 r.kind) ∧ w'.cell? ⟨R, 1, none⟩ = some (.int .u32 r.epoch) ∧ w'.cell? ⟨R, 2, none⟩ = some (.int .i64 r.index) ∧ w'.cell? ⟨R, 3, none⟩ = some (.int .i64 r.saga) ∧ w'.cell? ⟨R, 4, none⟩ = some (.int .i64 r.reply) ∧ w'.cell? ⟨R, 5, none⟩ = some (.slice sa sm sc) from by
    intro w' hf
    have e1 := hf.get (w := W.drew) hj (by omega)
    have e2 := hf.get (w := W.drew) hr (by omega)
    refine ⟨?_, ?_, ?_, ?_, ?_, ?_, ?_⟩ <;> rw [cellv] <;> first | (rw [e1]; rfl) | (rw [e2]; rfl))
  have HB := Lib.hid (show Calls Tryz.prog 96 #[.agg #[.int .u8 r.kind, .int .u32 r.epoch, .int .i64 r.index, .int .i64 r.saga, .int .i64 r.reply, .slice sa sm sc]] W.drew (BytesPost W.drew r) from bytes_rec W.drew r (.slice sa sm sc) hok (fun h => hst h))
  have HS := Lib.hid (fun (w10 : World) (nb : Nat) (hf10 : New W.drew w10) (hwc : w10.heap[nb]? = some (.cells (wayCells (recB r) 4) 201 (0, 0))) => show Calls Tryz.prog 95 #[.agg #[.iface 27 (.pointer (some ⟨db, 0, none⟩))], .int .i64 r.index, .slice (some ⟨nb, 0, none⟩) (endOf r) (endOf r)] w10 (fun e w' => Fr (fun k => k = db ∨ k = bb) w10 w' ∧ e = .returned (.tuple #[]) ∧ DiskAt w' db bb (d.sureG r.index (recBytes r)).1) from Calls.mono (sure_gen ((hd.new ((Fr.refl _ W).drew)).new hf10) r.index hil hp nb _ (recB_len_ok _ hok) hwc) (fun e w' ⟨h1, h2⟩ => ⟨h1, h2.elim (fun h => by rw [hb] at h; cases h.1) (fun h => h.2)⟩))
  have HQ := Lib.hid hQ
  clear hb hj hr hst hd hp hil hok hQ hne hRd
  conv => arg 2; whnf
  go_region_held3 (fun w' => w'.cell? ⟨jb, 0, none⟩ = some (.iface 27 (.pointer (some ⟨db, 0, none⟩))) ∧ w'.cell? ⟨R, 0, none⟩ = some (.int .u8 r.kind) ∧ w'.cell? ⟨R, 1, none⟩ = some (.int .u32 r.epoch) ∧ w'.cell? ⟨R, 2, none⟩ = some (.int .i64 r.index) ∧ w'.cell? ⟨R, 3, none⟩ = some (.int .i64 r.saga) ∧ w'.cell? ⟨R, 4, none⟩ = some (.int .i64 r.reply) ∧ w'.cell? ⟨R, 5, none⟩ = some (.slice sa sm sc))
    (first | exact HK.out _ (Fr.refl _ _) | exact HK.out _ (hf10.mono (fun _ _ f => f.elim)) | exact HK.out _ ((hf10.mono (fun _ _ f => f.elim)).trans hf11))
    ((first
      | (go_at_call 96; refine Calls.mono HB.out ?_; rintro e w10 ⟨nb, rfl, hnb, hwc, hf10⟩)
      | (go_at_call 95; refine Calls.mono (HS.out _ _ hf10 hwc) ?_; rintro e w11 ⟨hf11, rfl, hd11⟩)
      | fail))
  exact HQ.out _ _ _ _ _ _ _ _ _ _ (((Fr.refl _ W).drew.trans (hf10.mono (fun _ _ f => f.elim))).trans hf11) hd11

set_option maxRecDepth 100000 in
set_option maxHeartbeats 4000000 in
/-- j.v.sure(r.Index, r.bytes()). -/
theorem app_g9bad (jb db bb R ix : Nat) (j : JnM) (d : DiskM) (r : RecM) (sa : Option Addr) (sm sc : Nat) (W : World) (hne : jb ≠ db ∧ jb ≠ bb) (hRd : R ≠ db ∧ R ≠ bb)
    (hj : W.heap[jb]? = some (.cells (jnCells db j) 132 (0, 0))) (hr : W.heap[R]? = some (.cells #[.int .u8 r.kind, .int .u32 r.epoch, .int .i64 r.index, .int .i64 r.saga, .int .i64 r.reply, .slice sa sm sc] 91 (0, 0)))
    (hst : r.kind = 2 → StepsAt W (.slice sa sm sc) r.steps) (hok : r.ok) (hd : DiskAt W db bb d) (hp : d.pend = none) (hix : ix = r.index) (hil : ix < d.blocks.length)
    {ds : List Deferred} {x1 x2 x3 x4 x5 x6 x8 x9 x10 x11 x12 x13 x14 x15 x16 x17 x18 x19 x20 x21 x22 x23 x24 x25 x26 x27 x28 x29 x30 x31 x32 x33 x34 x35 x36 x37 x38 x39 x40 x41 x42 x43 x44 x45 x46 x47 x48 x49 x50 x51 : Value} {Q : Exit → Act → World → Prop}

    (hb : (d.sureG ix (recBytes r)).2 = false) (hQp : ∀ (a' : Act) (w' : World) (fb : Nat), a'.defers = ds → a'.tmps[4]? = some x4 → W.heap.size ≤ fb → w'.heap[fb]? = some (.cells (faultCells devStr 5) 123 (0, 0)) → Fr (fun k => k = db ∨ k = bb) W w' → DiskAt w' db bb (d.sureG ix (recBytes r)).1 → Q (.panic [{ v := .iface 121 (.pointer (some ⟨fb, 0, none⟩)), recovered := false }]) a' w') :
    Code.wp Tryz.prog appR9 Q ⟨#[.pointer (some ⟨jb, 0, none⟩), x1, x2, x3, x4, x5, x6, .pointer (some ⟨R, 0, none⟩), x8, x9, x10, x11, x12, x13, x14, x15, x16, x17, x18, x19, x20, x21, x22, x23, x24, x25, x26, x27, x28, x29, x30, x31, x32, x33, x34, x35, x36, x37, x38, x39, x40, x41, x42, x43, x44, x45, x46, x47, x48, x49, x50, x51], ds⟩ W := by
  subst hix
  have a0 : W.cell? ⟨jb, 0, none⟩ = some (.iface 27 (.pointer (some ⟨db, 0, none⟩))) := by rw [cellv, hj]; rfl
  have r0 : W.cell? ⟨R, 0, none⟩ = some (.int .u8 r.kind) := by rw [cellv, hr]; rfl
  have r1 : W.cell? ⟨R, 1, none⟩ = some (.int .u32 r.epoch) := by rw [cellv, hr]; rfl
  have r2 : W.cell? ⟨R, 2, none⟩ = some (.int .i64 r.index) := by rw [cellv, hr]; rfl
  have r3 : W.cell? ⟨R, 3, none⟩ = some (.int .i64 r.saga) := by rw [cellv, hr]; rfl
  have r4 : W.cell? ⟨R, 4, none⟩ = some (.int .i64 r.reply) := by rw [cellv, hr]; rfl
  have r5 : W.cell? ⟨R, 5, none⟩ = some (.slice sa sm sc) := by rw [cellv, hr]; rfl
  have HK := Lib.hid (show ∀ (w' : World), Fr (fun k => k = db ∨ k = bb) W.drew w' → w'.cell? ⟨jb, 0, none⟩ = some (.iface 27 (.pointer (some ⟨db, 0, none⟩))) ∧ w'.cell? ⟨R, 0, none⟩ = some (.int .u8 r.kind) ∧ w'.cell? ⟨R, 1, none⟩ = some (.int .u32 r.epoch) ∧ w'.cell? ⟨R, 2, none⟩ = some (.int .i64 r.index) ∧ w'.cell? ⟨R, 3, none⟩ = some (.int .i64 r.saga) ∧ w'.cell? ⟨R, 4, none⟩ = some (.int .i64 r.reply) ∧ w'.cell? ⟨R, 5, none⟩ = some (.slice sa sm sc) from by
    intro w' hf
    have e1 := hf.get (w := W.drew) hj (by omega)
    have e2 := hf.get (w := W.drew) hr (by omega)
    refine ⟨?_, ?_, ?_, ?_, ?_, ?_, ?_⟩ <;> rw [cellv] <;> first | (rw [e1]; rfl) | (rw [e2]; rfl))
  have HB := Lib.hid (show Calls Tryz.prog 96 #[.agg #[.int .u8 r.kind, .int .u32 r.epoch, .int .i64 r.index, .int .i64 r.saga, .int .i64 r.reply, .slice sa sm sc]] W.drew (BytesPost W.drew r) from bytes_rec W.drew r (.slice sa sm sc) hok (fun h => hst h))
  have HS := Lib.hid (fun (w10 : World) (nb : Nat) (hf10 : New W.drew w10) (hwc : w10.heap[nb]? = some (.cells (wayCells (recB r) 4) 201 (0, 0))) => show Calls Tryz.prog 95 #[.agg #[.iface 27 (.pointer (some ⟨db, 0, none⟩))], .int .i64 r.index, .slice (some ⟨nb, 0, none⟩) (endOf r) (endOf r)] w10 (fun e w' => Fr (fun k => k = db ∨ k = bb) w10 w' ∧ Thrown w10 e w' ∧ DiskAt w' db bb (d.sureG r.index (recBytes r)).1) from Calls.mono (sure_gen ((hd.new ((Fr.refl _ W).drew)).new hf10) r.index hil hp nb _ (recB_len_ok _ hok) hwc) (fun e w' ⟨h1, h2⟩ => ⟨h1, h2.elim (fun h => h.2) (fun h => by rw [hb] at h; cases h.1)⟩))
  have HQp := Lib.hid hQp
  clear hb hj hr hst hd hp hil hok hQp hne hRd
  conv => arg 2; whnf
  refine Code.wp_mono (Q := thrownQ x4 ds (fun fb w' => W.heap.size ≤ fb ∧ w'.heap[fb]? = some (.cells (faultCells devStr 5) 123 (0, 0)) ∧ Fr (fun k => k = db ∨ k = bb) W w' ∧ DiskAt w' db bb (d.sureG r.index (recBytes r)).1)) (fun e a w h => by
    cases e <;> first | exact h.elim | skip
    obtain ⟨h1, h2, fb, rfl, h4, h5, h6, h7⟩ := h
    exact HQp.out a w fb h1 h2 h4 h5 h6 h7) ?_
  refine wp_region_held_drew (S := (fun w' => w'.cell? ⟨jb, 0, none⟩ = some (.iface 27 (.pointer (some ⟨db, 0, none⟩))) ∧ w'.cell? ⟨R, 0, none⟩ = some (.int .u8 r.kind) ∧ w'.cell? ⟨R, 1, none⟩ = some (.int .u32 r.epoch) ∧ w'.cell? ⟨R, 2, none⟩ = some (.int .i64 r.index) ∧ w'.cell? ⟨R, 3, none⟩ = some (.int .i64 r.saga) ∧ w'.cell? ⟨R, 4, none⟩ = some (.int .i64 r.reply) ∧ w'.cell? ⟨R, 5, none⟩ = some (.slice sa sm sc))) (by kernel_rfl) (HK.out _ (Fr.refl _ _)) (fun hHeld => ?_)
  refine wpAnyH_take (i := 0) (v := ?vb0) rfl (by kernel_rfl) (by kernel_rfl) (by kernel_rfl) (thrownQ_put (by decide)) (Or.inl ⟨by rfl, ?yb0⟩) hHeld ?rb0
  case yb0 => intro w hSw; (try dsimp only at hSw); go_simp; (try with_reducible rfl)
  simp only [List.getElem_toArray, List.getElem_cons_zero, List.getElem_cons_succ, Act.put, List.setIfInBounds_toArray, List.set_cons_zero, List.set_cons_succ]
  refine wpAnyH_take (i := 1) (v := ?vb1) rfl (by kernel_rfl) (by kernel_rfl) (by kernel_rfl) (thrownQ_put (by decide)) (Or.inl ⟨by rfl, ?yb1⟩) hHeld ?rb1
  case yb1 => intro w hSw; (try dsimp only at hSw); go_simp; (try with_reducible rfl)
  simp only [List.getElem_toArray, List.getElem_cons_zero, List.getElem_cons_succ, Act.put, List.setIfInBounds_toArray, List.set_cons_zero, List.set_cons_succ]
  refine wpAnyH_take (i := 2) (v := ?vb2) rfl (by kernel_rfl) (by kernel_rfl) (by kernel_rfl) (thrownQ_put (by decide)) (Or.inl ⟨by rfl, ?yb2⟩) hHeld ?rb2
  case yb2 => intro w hSw; (try dsimp only at hSw); go_simp; (try with_reducible rfl)
  simp only [List.getElem_toArray, List.getElem_cons_zero, List.getElem_cons_succ, Act.put, List.setIfInBounds_toArray, List.set_cons_zero, List.set_cons_succ]
  refine wpAnyH_take (i := 3) (v := ?vb3) rfl (by kernel_rfl) (by kernel_rfl) (by kernel_rfl) (thrownQ_put (by decide)) (Or.inl ⟨by rfl, ?yb3⟩) hHeld ?rb3
  case yb3 => intro w hSw; (try dsimp only at hSw); go_simp; (try with_reducible rfl)
  simp only [List.getElem_toArray, List.getElem_cons_zero, List.getElem_cons_succ, Act.put, List.setIfInBounds_toArray, List.set_cons_zero, List.set_cons_succ]
  refine wpAnyH_take (i := 4) (v := ?vb4) rfl (by kernel_rfl) (by kernel_rfl) (by kernel_rfl) (thrownQ_put (by decide)) (Or.inl ⟨by rfl, ?yb4⟩) hHeld ?rb4
  case yb4 => intro w hSw; (try dsimp only at hSw); go_simp; (try with_reducible rfl)
  simp only [List.getElem_toArray, List.getElem_cons_zero, List.getElem_cons_succ, Act.put, List.setIfInBounds_toArray, List.set_cons_zero, List.set_cons_succ]
  refine wpAnyH_take (i := 5) (v := ?vb5) rfl (by kernel_rfl) (by kernel_rfl) (by kernel_rfl) (thrownQ_put (by decide)) (Or.inl ⟨by rfl, ?yb5⟩) hHeld ?rb5
  case yb5 => intro w hSw; (try dsimp only at hSw); go_simp; (try with_reducible rfl)
  simp only [List.getElem_toArray, List.getElem_cons_zero, List.getElem_cons_succ, Act.put, List.setIfInBounds_toArray, List.set_cons_zero, List.set_cons_succ]
  refine wpAnyH_take (i := 6) (v := ?vb6) rfl (by kernel_rfl) (by kernel_rfl) (by kernel_rfl) (thrownQ_put (by decide)) (Or.inl ⟨by rfl, ?yb6⟩) hHeld ?rb6
  case yb6 => intro w hSw; (try dsimp only at hSw); go_simp; (try with_reducible rfl)
  simp only [List.getElem_toArray, List.getElem_cons_zero, List.getElem_cons_succ, Act.put, List.setIfInBounds_toArray, List.set_cons_zero, List.set_cons_succ]
  refine wpAnyH_ready (rs := [7]) (by kernel_rfl) (by simp) ?_
  refine AllReadyH.cons rfl (fun K hK => ?_) AllReadyH.nil
  go_simp
  go_at_call 96
  refine Calls.mono HB.out ?_
  rintro e w10 ⟨nb, rfl, hnb, hwc, hf10⟩
  refine Shut.out hK _ _ (HK.out _ (hf10.mono (fun _ _ f => f.elim))) ?_
  clear hK K
  intro hHeld2
  clear hHeld
  try simp only [List.getElem_toArray, List.getElem_cons_zero, List.getElem_cons_succ, Act.put, List.setIfInBounds_toArray, List.set_cons_zero, List.set_cons_succ]
  refine wpAnyH_ready (rs := [8]) (by kernel_rfl) (by simp) ?_
  refine AllReadyH.cons rfl (fun K hK => ?_) AllReadyH.nil
  go_simp
  go_at_call 95
  refine Calls.mono (HS.out _ _ hf10 hwc) ?_
  rintro e w11 ⟨hf11, ⟨fb, hfb, rfl, hwf⟩, hd11⟩
  exact ⟨rfl, rfl, fb, rfl, Nat.le_trans hf10.size hfb, hwf, ((Fr.refl _ W).drew.trans (hf10.mono (fun _ _ f => f.elim))).trans hf11, hd11⟩

/-- Records made sure of, one behind the other, on whatever disk. -/
def DiskM.appendG (d : DiskM) (ep ix : Nat) : List RecM → DiskM × Bool
  | [] => (d, true)
  | r :: rs => if (d.sureG ix (recBytes (placed r ep ix))).2 then (d.sureG ix (recBytes (placed r ep ix))).1.appendG ep (ix + 1) rs else ((d.sureG ix (recBytes (placed r ep ix))).1, false)
theorem appendG_snoc (d : DiskM) (ep ix : Nat) (l : List RecM) (r : RecM) (h : (d.appendG ep ix l).2 = true) :
    d.appendG ep ix (l ++ [r]) = (d.appendG ep ix l).1.sureG (ix + l.length) (recBytes (placed r ep (ix + l.length))) := by
  induction l generalizing d ix with
  | nil =>
    simp only [List.nil_append, DiskM.appendG, List.length_nil, Nat.add_zero]
    split
    · rename_i h1; exact Prod.ext rfl (by simp [h1])
    · rename_i h1; exact Prod.ext rfl (by simp at h1; simp [h1])
  | cons a l ih =>
    by_cases h1 : (d.sureG ix (recBytes (placed a ep ix))).2 = true
    · simp only [List.cons_append, DiskM.appendG, h1, if_true, List.length_cons] at h ⊢
      rw [ih _ _ h, show ix + 1 + l.length = ix + (l.length + 1) by omega]
    · simp [DiskM.appendG, h1] at h
theorem appendG_false (d : DiskM) (ep ix : Nat) (l m : List RecM) (h : (d.appendG ep ix l).2 = false) : d.appendG ep ix (l ++ m) = d.appendG ep ix l := by
  induction l generalizing d ix with
  | nil => simp [DiskM.appendG] at h
  | cons a l ih =>
    by_cases h1 : (d.sureG ix (recBytes (placed a ep ix))).2 = true
    · simp only [List.cons_append, DiskM.appendG, h1, if_true] at h ⊢
      exact ih _ _ h
    · simp [DiskM.appendG, h1]
theorem sureG_len (d : DiskM) (i : Nat) (l : List UInt8) : (d.sureG i l).1.blocks.length = d.blocks.length := by
  unfold DiskM.sureG
  split
  · rfl
  · split
    · rfl
    · exact sure_len d i l
theorem sureG_pend (d : DiskM) (i : Nat) (l : List UInt8) (h : (d.sureG i l).2 = true) : (d.sureG i l).1.pend = none := by
  unfold DiskM.sureG at h ⊢
  split at h
  · cases h
  · rename_i h1
    split at h
    · cases h
    · rename_i h2
      rw [if_neg h1, if_neg h2]; rfl
theorem appendG_len (d : DiskM) (ep ix : Nat) (l : List RecM) : (d.appendG ep ix l).1.blocks.length = d.blocks.length := by
  induction l generalizing d ix with
  | nil => rfl
  | cons a l ih =>
    simp only [DiskM.appendG]
    split
    · rw [ih, sureG_len]
    · exact sureG_len _ _ _
theorem appendG_pend (d : DiskM) (ep ix : Nat) (l : List RecM) (hp : d.pend = none) (h : (d.appendG ep ix l).2 = true) : (d.appendG ep ix l).1.pend = none := by
  induction l generalizing d ix with
  | nil => exact hp
  | cons a l ih =>
    by_cases h1 : (d.sureG ix (recBytes (placed a ep ix))).2 = true
    · simp only [DiskM.appendG, h1, if_true] at h ⊢
      exact ih _ _ (sureG_pend _ _ _ h1) h
    · simp [DiskM.appendG, h1] at h
theorem settle_pend' (j : JnM) (d : DiskM) (h : j.fresh = false → d.pend = none) : (settleD j d).pend = none := by
  unfold settleD; split
  · rfl
  · rename_i h1; exact h (by simpa using h1)
theorem settle_len' (j : JnM) (d : DiskM) : (settleD j d).blocks.length = d.blocks.length := by
  unfold settleD; split
  · simp only [DiskM.flush, DiskM.count]; split <;> simp
  · rfl
end Go.Proofs.YtkafmfdipmhleaaGreatDoor

namespace Go.Proofs.YtkafmfdipmhleaaGreatDoor
open Go.RowKit

def AppG (w : World) (jb db bb : Nat) (j : JnM) (d : DiskM) (rs : List RecM) (e : Ending) (w' : World) : Prop :=
  Fr (fun k => k = db ∨ k = bb ∨ k = jb) w w' ∧
    (j.fresh = true ∧ d.bad = true ∧ (∃ op, ErrP w op e w') ∧ DiskAt w' db bb d.count ∧ JnAt w' jb db j ∨
     (j.fresh = false ∨ d.bad = false) ∧ ((settleD j d).appendG j.epoch j.en rs).2 = true ∧ e = .returned .nilIface ∧ DiskAt w' db bb ((settleD j d).appendG j.epoch j.en rs).1 ∧ JnAt w' jb db ⟨j.epoch, j.en + rs.length, false⟩ ∨
     (j.fresh = false ∨ d.bad = false) ∧ ((settleD j d).appendG j.epoch j.en rs).2 = false ∧ (∃ op, ErrP w op e w') ∧ DiskAt w' db bb ((settleD j d).appendG j.epoch j.en rs).1 ∧ JnAt w' jb db { j with fresh := false })
set_option maxRecDepth 100000 in
set_option maxHeartbeats 4000000 in
theorem Append_gen {w : World} {jb db bb lb n cap : Nat} {j : JnM} {d : DiskM} {rs : List RecM} (hj : JnAt w jb db j) (h : DiskAt w db bb d) (hg : Handle w) (h0 : db ≠ 0 ∧ bb ≠ 0 ∧ jb ≠ 0) (hp : j.fresh = false → d.pend = none) (hl : RecsAt w lb rs) (hn : n = rs.length)
    (hep : j.epoch < 2 ^ 32) (hroom : j.en + rs.length ≤ d.blocks.length) (hb : d.blocks.length ≤ 1000) :
    Calls Tryz.prog 65 #[.pointer (some ⟨jb, 0, none⟩), .slice (some ⟨lb, 0, none⟩) n cap] w (AppG w jb db bb j d rs) := by
  have hmf : ∀ (fn : Fn) (first cap : Array Value) (w : World), (Instr.makeFunc fn first cap).run Tryz.prog w = .ok (.func fn first cap) w := fun _ _ _ _ => rfl
  have hne := jn_ne hj h
  have hlt := disk_lt h
  have hjl := lt_of_hp hj
  have hd1 := h.new ((Fr.refl _ w).alloc (.cells #[.nilIface] 32))
  have hj1 := heap_alloc_keep (.cells #[.nilIface] 32) hj
  have he1 := heap_alloc_new w (.cells #[.nilIface] 32)
  have hl1 := hl.frame (S := fun _ => False) ((Fr.refl _ w).alloc (.cells #[.nilIface] 32)) (fun _ f => f.elim)
  have hF1 : Fr (fun k => k = db ∨ k = bb ∨ k = jb) w (w.alloc (.cells #[.nilIface] 32)) := (Fr.refl _ w).alloc _
  have H0 := Lib.hid h0
  have hg1 : Handle (w.alloc (.cells #[.nilIface] 32)) := hg.new ((Fr.refl _ w).alloc _)
  have Hg1 := Lib.hid hg1
  have Hp := Lib.hid hp
  have Hep := Lib.hid hep
  have Hroom := Lib.hid hroom
  have Hb := Lib.hid hb
  have Hn := Lib.hid hn
  go_enter_defers Tryz.func65, Tryz.ntmps65
  go_upto_region 2 with fail
  have HE : Hid (w.heap.size ≠ db ∧ w.heap.size ≠ bb ∧ w.heap.size ≠ jb ∧ ¬ w.heap.size < w.heap.size) := ⟨by omega, by omega, by omega, by omega⟩
  have Hne := Lib.hid hne
  have HF1 := Lib.hid hF1
  have Hd1 := Lib.hid hd1
  have Hl1 := Lib.hid hl1
  have Hj1 := Lib.hid (show JnAt (w.alloc (.cells #[.nilIface] 32)) jb db j from hj1)
  clear h hj hne hlt hjl hd1 hF1 hg h0 hg1 hj1 hl1 hp hep hroom hb hn hl
  generalize w.alloc (.cells #[.nilIface] 32) = W1 at Hj1 he1 HF1 Hd1 Hl1 Hg1 ⊢
  generalize hE : w.heap.size = E at he1 HE ⊢
  have HEe := Lib.hid hE
  clear hE
  have hS1 : ∀ k, (k = db ∨ k = bb ∨ k = jb) → ∃ o, W1.heap[k]? = some o ∧ kindOf o ≠ 55 ∧ kindOf o ≠ 92 := by
    obtain ⟨_, _, _, _, h1, h2, _⟩ := Hd1.out
    rintro k (rfl | rfl | rfl)
    · exact ⟨_, h1, by simp [kindOf], by simp [kindOf]⟩
    · exact ⟨_, h2, by simp [kindOf], by simp [kindOf]⟩
    · exact ⟨_, Hj1.out, by simp [kindOf], by simp [kindOf]⟩
  have HS1 := Lib.hid hS1
  clear hS1
  go_upto_region 3 with (first
    | (go_at_call 50; refine Calls.mono (Settle_gen Hj1.out Hd1.out Hg1.out H0.out) ?_; rintro e w2 ⟨hf2, ⟨hcond, rfl, hd2, hj2⟩ | ⟨hfr, hbad, ⟨nb, hnb, rfl, hnbw⟩, hd2, hj2⟩⟩)
    | fail)
  rotate_left 1
  focus
    have he2 := hf2.get he1 (by have := HE.out; omega)
    have HF2 := Lib.hid (HF1.out.trans hf2)
    have Hd2 := Lib.hid hd2
    have Hj2 := Lib.hid hj2
    have Hc := Lib.hid (And.intro hfr hbad)
    have Hnb := Lib.hid hnb
    have Hnbw := Lib.hid hnbw
    have HEl := Lib.hid (lt_of_hp he1)
    clear hf2 hd2 hj2 hfr hbad hnb hnbw he1
    have hcv := cellv w2
    have hfv := frozv w2
    go_wp2_with fail
    refine leaves_cons (f := 94) (args := #[.pointer (some ⟨E, 0, none⟩)]) (by simp) (by simp [go_sem]) ?_
    refine (idle94 _ _).mono ?_
    rintro e u' w'' ⟨rfl, rfl, rfl⟩
    have hsome : (w2.setCell ⟨E, 0, none⟩ (.iface 121 (.pointer (some ⟨nb, 0, none⟩)))).cell? ⟨E, 0, none⟩ = some (.iface 121 (.pointer (some ⟨nb, 0, none⟩))) := by rw [cellv, hp_setCell, if_pos rfl, he2]; rfl
    refine ⟨.iface 121 (.pointer (some ⟨nb, 0, none⟩)), ?_, HF2.out.setCell (b := E) (fun h => absurd h (by rw [HEe.out]; omega)) 0 _, .inl ⟨Hc.out.1, Hc.out.2, ⟨setStr, nb, ?_, rfl, ?_⟩, ?_, ?_⟩⟩
    · simp [results, Tryz.results65, go_sem, hsome]
    · have := HF1.out.size; have := Hnb.out; omega
    · rw [hp_setCell, if_neg (by have := Hnb.out; have := HEl.out; omega)]; exact Hnbw.out
    · exact Hd2.out.frame (Fr.one E w2 0 _) (by rintro k rfl; exact ⟨HE.out.1, HE.out.2.1, _, he2, by simp [kindOf]⟩)
    · unfold JnAt
      rw [hp_setCell, if_neg (Ne.symm HE.out.2.2.1)]; exact Hj2.out
  go_upto_region 5 with fail
  have hl2 := Hl1.out.frame hf2 HS1.out
  have he2 := hf2.get he1 (by have := HE.out; omega)
  have HF2 := Lib.hid (HF1.out.trans hf2)
  have HE2 := Lib.hid he2
  have Hl2 := Lib.hid hl2
  have Hd2 := Lib.hid hd2
  have Hj2 := Lib.hid hj2
  have Hg2 := Lib.hid (Hg1.out.fr hf2 (by have := H0.out; omega))
  have Hcond := Lib.hid hcond
  clear hcond
  have hnl : Hid (rs.length < 2 ^ 40) := by
    have := Hroom.out; have := Hb.out; show _ < _; omega
  clear hf2 hd2 hj2 hl2 he2 he1
  go_wp2_with fail
  go_loopw [16] (fun i wr => ∃ k, k ≤ rs.length ∧ i = .int .i64 (k : Nat) ∧ ((settleD j d).appendG j.epoch j.en (rs.take k)).2 = true ∧ DiskAt wr db bb ((settleD j d).appendG j.epoch j.en (rs.take k)).1 ∧ Fr (fun k => k = db ∨ k = bb) w2 wr) (fun i _ => rs.length - (intOf i).toNat)
  case atStart => exact ⟨0, Nat.zero_le _, rfl, by simp [DiskM.appendG], by simpa [DiskM.appendG] using Hd2.out, Fr.refl _ _⟩
  case round =>
    obtain ⟨k, hk, rfl, hok1, hdk, hfk⟩ := hrel
    have Hok1 := Lib.hid hok1
    clear hok1
    have Hdk := Lib.hid hdk
    have Hfk := Lib.hid hfk
    have hjk := hfk.get Hj2.out (by have := Hne.out; omega)
    have hek := hfk.get HE2.out (by have := HE.out; omega)
    have Hekk := Lib.hid hek
    have Hjkk := Lib.hid hjk
    have hlk := Hl2.out.frame hfk (by
      obtain ⟨_, _, _, _, h1, h2, _⟩ := Hd2.out
      rintro k (rfl | rfl)
      · exact ⟨_, h1, by simp [kindOf], by simp [kindOf]⟩
      · exact ⟨_, h2, by simp [kindOf], by simp [kindOf]⟩)
    clear hdk hfk
    by_cases hkn : k < rs.length
    · obtain ⟨hok, lc, hlb, hrec⟩ := hlk
      obtain ⟨sv, ⟨sa, sm, sc, rfl⟩, hst, hcells⟩ := hrec k rs[k] (by simp [hkn])
      have hokr := hok rs[k] (List.getElem_mem hkn)
      have htk : rs.take (k + 1) = rs.take k ++ [rs[k]] := List.take_succ_eq_append_getElem hkn
      generalize rs[k] = r at hst hcells hokr htk
      have Hok := Lib.hid hokr
      have Htk := Lib.hid htk
      have hrow : ∀ q v, ([.int .u8 r.kind, .int .u32 r.epoch, .int .i64 r.index, .int .i64 r.saga, .int .i64 r.reply, .slice sa sm sc] : List Value)[q]? = some v → cellOf wr.heap[lb]? (k * 6 + q) = some v := by
        intro q v hq
        have hq6 : q < 6 := by simpa using (List.getElem?_eq_some_iff.1 hq).1
        rw [hlb, cellOf_cells, hcells q hq6]
        simpa [rcells] using hq
      obtain ⟨d9, hu9, hr9⟩ := isRow_of (ty := 91) (by kernel_rfl)
      have Hrow := Lib.hid hrow
      have Hst := Lib.hid hst
      have Hkn := Lib.hid hkn
      clear hrow hcells hlb hrec hok hokr htk hst
      have hkl : (k : Int) < rs.length := by omega
      have hcv := cellv wr
      clear hkn
      go_upto_region 8 with (first
        | (refine wpl_load rfl 91 (.tmp 19) rfl lb (k * 6) rfl _ d9 Hrow.out hu9 hr9 Tryz.info91s ?_)
        | fail)
      have hr8 := heap_alloc_new wr (.cells #[.int .u8 r.kind, .int .u32 r.epoch, .int .i64 r.index, .int .i64 r.saga, .int .i64 r.reply, .slice sa sm sc] 91)
      have hj8 := heap_alloc_keep (.cells #[.int .u8 r.kind, .int .u32 r.epoch, .int .i64 r.index, .int .i64 r.saga, .int .i64 r.reply, .slice sa sm sc] 91) hjk
      have HF8 := Lib.hid ((Fr.refl (fun _ => False) wr).alloc (.cells #[.int .u8 r.kind, .int .u32 r.epoch, .int .i64 r.index, .int .i64 r.saga, .int .i64 r.reply, .slice sa sm sc] 91))
      clear hcv hek
      have HW8 := Lib.hid (rfl : wr.heap.size = wr.heap.size)
      have HRd : wr.heap.size ≠ db ∧ wr.heap.size ≠ bb := by
        have := disk_lt Hdk.out
        omega
      have HRb : ∀ k, k < wr.heap.size → ¬ k = wr.heap.size := fun k h e => by omega
      generalize wr.alloc (.cells #[.int .u8 r.kind, .int .u32 r.epoch, .int .i64 r.index, .int .i64 r.saga, .int .i64 r.reply, .slice sa sm sc] 91) = W8 at hr8 hj8 HF8 ⊢
      generalize hR : wr.heap.size = R at hr8 HRd HRb HW8 ⊢
      have HR := Lib.hid hR
      have HRd := Lib.hid HRd
      have HRb := Lib.hid HRb
      clear hR
      refine app_r8 jb db R ⟨j.epoch, j.en, false⟩ r.kind r.epoch r.index r.saga r.reply k (.slice sa sm sc) W8 hj8 hr8 ?_ ?_
      · have := Hroom.out; have := Hb.out; have := Hkn.out
        exact ⟨by show j.en ≤ 1000; omega, by omega⟩
      intro y21 y22 y23 y24 y25 y26 y27 y28 y29 y30 y31 y32 W9 hf9 hr9'
      have HF9 := Lib.hid (HF8.out.trans' hf9 (by rintro i hi e; rw [e] at hi; exact HRb.out R (by rw [HR.out] at hi; exact hi) rfl))
      have hj9 := hf9.get hj8 (by rintro rfl; rw [hj8] at hr8; simp at hr8)
      clear hr8 hj8 HF8 hf9
      go_upto_region 9 with fail
      have hix : j.en + k < 65536 := by have := Hroom.out; have := Hb.out; have := Hkn.out; omega
      have hsn := appendG_snoc (settleD j d) j.epoch j.en (rs.take k) r Hok1.out
      rw [← Htk.out, show (rs.take k).length = k by rw [List.length_take]; have := Hkn.out; omega] at hsn
      have hpd := appendG_pend (settleD j d) j.epoch j.en (rs.take k) (settle_pend' j d Hp.out) Hok1.out
      have hil : j.en + k < ((settleD j d).appendG j.epoch j.en (rs.take k)).1.blocks.length := by
        rw [appendG_len, settle_len' j d]
        have := Hroom.out; have := Hkn.out
        omega
      have Hsn := Lib.hid hsn
      have Hpd := Lib.hid hpd
      have Hil := Lib.hid hil
      clear hsn hpd hil
      rcases hb2 : (((settleD j d).appendG j.epoch j.en (rs.take k)).1.sureG (j.en + k) (recBytes (placed r j.epoch (j.en + k)))).2 with _ | _
      · refine app_g9bad jb db bb R (j.en + k) ⟨j.epoch, j.en, false⟩ ((settleD j d).appendG j.epoch j.en (rs.take k)).1 (placed r j.epoch (j.en + k)) sa sm sc W9 Hne.out HRd.out hj9 hr9'
          (fun h2 => (Hst.out h2).frame HF9.out (fun _ f => f.elim)) (Hok.out j.epoch (j.en + k) Hep.out hix) (Hdk.out.new HF9.out) Hpd.out rfl Hil.out hb2 ?_
        intro a' w11 fb hds h4 hfb hwf hf11 hd11
        change Leaves Tryz.prog Tryz.f65 a'.tmps (AppG w jb db bb j d rs) a'.defers (thrownF fb false) w11
        rw [hds]
        have hfr : Fr (fun k => k = db ∨ k = bb) wr w11 := (HF9.out.mono (fun _ _ f => f.elim)).trans hf11
        have hek11 := hfr.get Hekk.out (by rintro (e | e); exact HE.out.1 e; exact HE.out.2.1 e)
        have hjk11 := hfr.get Hjkk.out (by have := Hne.out; omega)
        have hfrk := Hfk.out.trans hfr
        have hg11 := Hg2.out.fr hfrk (by have := H0.out; omega)
        refine leaves_cons (f := 94) (args := #[.pointer (some ⟨E, 0, none⟩)]) (by simp [thrownF]) (by simp [go_sem]) ?_
        refine (told94 hg11 hwf hek11).mono ?_
        rintro e u' w'' ⟨rfl, rfl, hF, nb, hnb, hnb2, heb⟩
        have hsome : w''.cell? ⟨E, 0, none⟩ = some (.iface 121 (.pointer (some ⟨nb, 0, none⟩))) := by rw [cellv, heb]; rfl
        have hFr := (HF2.out.trans (hfrk.mono (fun k _ e => e.elim .inl (fun e => .inr (.inl e))))).trans' hF (fun i hi e => absurd hi (by rw [HEe.out]; omega))
        have hfl : ((settleD j d).appendG j.epoch j.en rs) = ((settleD j d).appendG j.epoch j.en (rs.take k)).1.sureG (j.en + k) (recBytes (placed r j.epoch (j.en + k))) := by
          have := appendG_false (settleD j d) j.epoch j.en (rs.take (k + 1)) (rs.drop (k + 1)) (by rw [Hsn.out]; exact hb2)
          rw [List.take_append_drop] at this
          rw [this, Hsn.out]
        refine ⟨.iface 121 (.pointer (some ⟨nb, 0, none⟩)), ?_, hFr, .inr (.inr ⟨Hcond.out, by rw [hfl]; exact hb2, ⟨appStr, nb, ?_, rfl, hnb2⟩, ?_, ?_⟩)⟩
        · simp [results, Tryz.results65, go_sem, h4, hsome]
        · have := (HF2.out.trans (hfrk.mono (fun k _ e => e.elim .inl (fun e => .inr (.inl e))))).size
          omega
        · rw [hfl]
          exact hd11.frame hF (by rintro k rfl; exact ⟨HE.out.1, HE.out.2.1, _, hek11, by simp [kindOf]⟩)
        · exact hF.get hjk11 (fun e => HE.out.2.2.1 e.symm)
      · refine app_g9ok jb db bb R (j.en + k) ⟨j.epoch, j.en, false⟩ ((settleD j d).appendG j.epoch j.en (rs.take k)).1 (placed r j.epoch (j.en + k)) sa sm sc W9 Hne.out HRd.out hj9 hr9'
          (fun h2 => (Hst.out h2).frame HF9.out (fun _ f => f.elim)) (Hok.out j.epoch (j.en + k) Hep.out hix) (Hdk.out.new HF9.out) Hpd.out rfl Hil.out hb2 ?_
        intro y33 y34 y35 y36 y37 y38 y39 y40 y41 w11 hf11 hd11
        have hb2' := Lib.hid hb2
        clear hr9' hj9 hb2
        go_wp2_with fail
        go_roundw
        case rel =>
          refine ⟨k + 1, Hkn.out, by go_num, by rw [Hsn.out]; exact hb2'.out, ?_, (Hfk.out.trans (HF9.out.mono (fun _ _ f => f.elim))).trans hf11⟩
          rw [Hsn.out]
          exact hd11
        case measure => have := Hkn.out; simp [intOf]; omega
    · have hkl : Hid (k = rs.length) := by show _ = _; omega
      have Hjk := Lib.hid hjk
      have Hek := Lib.hid hek
      clear hlk hjk hek
      have hnk : ¬ (k : Int) < rs.length := by omega
      go_upto_region 11 with fail
      have hjc := Hjk.out
      have hec := Hek.out
      simp only [jnCells] at hjc
      have hcv := cellv wr
      have hfv := frozv wr
      have hsum : wrap64 ((j.en : Int) + (rs.length : Int)) = (j.en : Int) + (rs.length : Int) := by
        have := Hroom.out; have := Hb.out
        exact wrap_in _ (by omega)
      go_upto_region 12 with fail
      have hj9 : (wr.setCell ⟨jb, 2, none⟩ (.int .i64 ((j.en : Int) + (rs.length : Int)))).heap[jb]? = some (.cells (jnCells db ⟨j.epoch, j.en + rs.length, false⟩) 132 (0, 0)) := by
        rw [hp_setCell, if_pos rfl, hjc]; simp [jnCells]
      have he9 : (wr.setCell ⟨jb, 2, none⟩ (.int .i64 ((j.en : Int) + (rs.length : Int)))).heap[E]? = some (.cells #[.nilIface] 32 (0, 0)) := by
        rw [hp_setCell, if_neg HE.out.2.2.1]; exact hec
      have Hd9 := Lib.hid (Hdk.out.frame (Fr.one jb wr 2 (.int .i64 ((j.en : Int) + (rs.length : Int)))) (by rintro k rfl; exact ⟨Hne.out.1, Hne.out.2, _, hjc, by simp [kindOf]⟩))
      have HF9 := Lib.hid ((HF2.out.trans (Hfk.out.mono (fun k _ e => e.elim .inl (fun e => .inr (.inl e))))).setCell (b := jb) (fun _ => .inr (.inr rfl)) 2 (.int .i64 ((j.en : Int) + (rs.length : Int))))
      have Hj9 := Lib.hid hj9
      clear hcv hfv hjc hec hj9
      generalize wr.setCell ⟨jb, 2, none⟩ (.int .i64 ((j.en : Int) + (rs.length : Int))) = W9 at he9 Hd9 HF9 Hj9 ⊢
      have hcv := cellv W9
      have hfv := frozv W9
      go_wp2_with fail
      refine leaves_cons (f := 94) (args := #[.pointer (some ⟨E, 0, none⟩)]) (by simp) (by simp [go_sem]) ?_
      refine (idle94 _ _).mono ?_
      rintro e u' w'' ⟨rfl, rfl, rfl⟩
      have hsome : (W9.setCell ⟨E, 0, none⟩ Value.nilIface).cell? ⟨E, 0, none⟩ = some .nilIface := by rw [cellv, hp_setCell, if_pos rfl, he9]; rfl
      refine ⟨.nilIface, ?_, HF9.out.setCell (b := E) (fun h => absurd h (by rw [HEe.out]; omega)) 0 .nilIface, .inr (.inl ⟨Hcond.out, by have := Hok1.out; rw [hkl.out, List.take_length] at this; exact this, rfl, ?_, ?_⟩)⟩
      · simp [results, Tryz.results65, go_sem, hsome]
      · have := Hd9.out.frame (Fr.one E W9 0 .nilIface) (by rintro k rfl; exact ⟨HE.out.1, HE.out.2.1, _, he9, by simp [kindOf]⟩)
        rw [hkl.out, List.take_length] at this
        exact this
      · unfold JnAt
        rw [hp_setCell, if_neg (Ne.symm HE.out.2.2.1)]; exact Hj9.out
end Go.Proofs.YtkafmfdipmhleaaGreatDoor

namespace Go.Proofs.YtkafmfdipmhleaaGreatDoor
open Go.RowKit Go.Maps

/-- What an Append makes of a disk; was no error told? -/
def DiskM.appendA (d : DiskM) (j : JnM) (rs : List RecM) : DiskM × Bool := if j.fresh = true ∧ d.bad = true then (d.count, false) else (settleD j d).appendG j.epoch j.en rs
theorem AppG.short {w : World} {jb db bb : Nat} {j : JnM} {d : DiskM} {rs : List RecM} {e : Ending} {w' : World} (h : AppG w jb db bb j d rs e w') :
    Fr (fun k => k = db ∨ k = bb ∨ k = jb) w w' ∧
      ((d.appendA j rs).2 = true ∧ e = .returned .nilIface ∧ DiskAt w' db bb (d.appendA j rs).1 ∧ JnAt w' jb db ⟨j.epoch, j.en + rs.length, false⟩ ∨
       (d.appendA j rs).2 = false ∧ (∃ op, ErrP w op e w') ∧ DiskAt w' db bb (d.appendA j rs).1) := by
  obtain ⟨hf, ⟨h1, h2, h3, h4, _⟩ | ⟨h1, h2, h3, h4, h5⟩ | ⟨h1, h2, h3, h4, _⟩⟩ := h
  · refine ⟨hf, .inr ?_⟩
    unfold DiskM.appendA
    rw [if_pos ⟨h1, h2⟩]
    exact ⟨rfl, h3, h4⟩
  · refine ⟨hf, .inl ?_⟩
    unfold DiskM.appendA
    rw [if_neg (by rintro ⟨a, b⟩; rcases h1 with h1 | h1 <;> simp_all)]
    exact ⟨h2, h3, h4, h5⟩
  · refine ⟨hf, .inr ?_⟩
    unfold DiskM.appendA
    rw [if_neg (by rintro ⟨a, b⟩; rcases h1 with h1 | h1 <;> simp_all)]
    exact ⟨h2, h3, h4⟩
def WriteG (w : World) (xb jb db bb mb : Nat) (pause clock : Int) (cv : Value) (j : JnM) (d : DiskM) (rs : List RecM) (e : Ending) (w' : World) : Prop :=
  Fr (fun k => k = db ∨ k = bb ∨ k = jb ∨ k = xb) w w' ∧
    ((d.appendA j rs).2 = true ∧ e = .returned .nilIface ∧ DiskAt w' db bb (d.appendA j rs).1 ∧ JnAt w' jb db ⟨j.epoch, j.en + rs.length, false⟩ ∧ w'.heap[xb]? = some (.cells (egCells jb mb pause cv clock false) 79 (0, 0)) ∨
     (d.appendA j rs).2 = false ∧ (∃ op nb, w.heap.size ≤ nb ∧ e = .returned (.iface 121 (.pointer (some ⟨nb, 0, none⟩))) ∧ w'.heap[nb]? = some (.cells (faultCells op 5) 123 (0, 0))) ∧ DiskAt w' db bb (d.appendA j rs).1 ∧ w'.heap[xb]? = some (.cells (egCells jb mb pause cv clock true) 79 (0, 0)))
set_option maxRecDepth 100000 in
set_option maxHeartbeats 4000000 in
theorem write_gen {w : World} {xb jb db bb mb lb n cap : Nat} {pause clock : Int} {cv : Value} {j : JnM} {d : DiskM} {rs : List RecM}
    (hx : w.heap[xb]? = some (.cells (egCells jb mb pause cv clock false) 79 (0, 0))) (hj : JnAt w jb db j) (h : DiskAt w db bb d) (hg : Handle w) (h0 : db ≠ 0 ∧ bb ≠ 0 ∧ jb ≠ 0) (hp : j.fresh = false → d.pend = none) (hl : RecsAt w lb rs) (hn : n = rs.length)
    (hep : j.epoch < 2 ^ 32) (hroom : j.en + rs.length ≤ d.blocks.length) (hb : d.blocks.length ≤ 1000) :
    Calls Tryz.prog 46 #[.pointer (some ⟨xb, 0, none⟩), .slice (some ⟨lb, 0, none⟩) n cap] w (WriteG w xb jb db bb mb pause clock cv j d rs) := by
  have hxne : xb ≠ db ∧ xb ≠ bb ∧ xb ≠ jb := by
    obtain ⟨_, _, _, _, h1, h2, _⟩ := h
    exact ⟨ne_of_kind hx h1 (by simp [kindOf]), ne_of_kind hx h2 (by simp [kindOf]), ne_of_kind hx hj (by simp [kindOf])⟩
  have HA := Lib.hid (Calls.mono (Append_gen (cap := cap) hj h hg h0 hp hl hn hep hroom hb) (fun _ _ h => h.short))
  have Hne := Lib.hid hxne
  have Hx := Lib.hid hx
  have Hxl := Lib.hid (lt_of_hp hx)
  simp only [egCells] at hx
  clear h hj hg h0 hp hl hn hep hroom hb hxne
  have hcv := cellv w
  go_enter Tryz.func46, Tryz.ntmps46
  go_upto_region 2 with (first
    | (go_at_call 65; refine Calls.mono HA.out ?_; rintro e w2 ⟨hf2, ⟨hok, rfl, hd2, hj2⟩ | ⟨hok, ⟨op, nb, hnb, rfl, hnbw⟩, hd2⟩⟩)
    | fail)
  · have hx2 := hf2.get Hx.out (by have := Hne.out; omega)
    have Hf2 := Lib.hid hf2
    have Hd2 := Lib.hid hd2
    have Hj2 := Lib.hid hj2
    have Hx2 := Lib.hid hx2
    have Hok := Lib.hid hok
    simp only [egCells] at hx2
    clear hcv hx hf2 hd2 hj2 hok
    have hcv := cellv w2
    have hfv := frozv w2
    go_wp2_with fail
    go_ret
    have hs : Fr (· = xb) w2 (w2.setCell ⟨xb, 5, none⟩ (.bool false)) := Fr.one _ _ _ _
    have hK : ∀ k, k = xb → k ≠ db ∧ k ≠ bb ∧ ∃ o, w2.heap[k]? = some o ∧ kindOf o ≠ 108 := by rintro k rfl; exact ⟨Hne.out.1, Hne.out.2.1, _, hx2, by simp [kindOf]⟩
    refine ⟨(Hf2.out.mono (fun k _ e => by rcases e with e | e | e <;> simp [e])).setCell (b := xb) (fun _ => .inr (.inr (.inr rfl))) 5 _, .inl ⟨Hok.out, rfl, Hd2.out.frame hs hK, ?_, ?_⟩⟩
    · exact hs.get Hj2.out (fun e => Hne.out.2.2 e.symm)
    · rw [hp_setCell, if_pos rfl, Hx2.out]; simp [egCells]
  · have hx2 := hf2.get Hx.out (by have := Hne.out; omega)
    have Hf2 := Lib.hid hf2
    have Hd2 := Lib.hid hd2
    have Hx2 := Lib.hid hx2
    have Hok := Lib.hid hok
    have Hnb := Lib.hid hnb
    have Hnbw := Lib.hid hnbw
    simp only [egCells] at hx2
    clear hcv hx hf2 hd2 hok hnb hnbw
    have hcv := cellv w2
    have hfv := frozv w2
    go_wp2_with fail
    go_ret
    have hs : Fr (· = xb) w2 (w2.setCell ⟨xb, 5, none⟩ (.bool true)) := Fr.one _ _ _ _
    have hK : ∀ k, k = xb → k ≠ db ∧ k ≠ bb ∧ ∃ o, w2.heap[k]? = some o ∧ kindOf o ≠ 108 := by rintro k rfl; exact ⟨Hne.out.1, Hne.out.2.1, _, hx2, by simp [kindOf]⟩
    refine ⟨(Hf2.out.mono (fun k _ e => by rcases e with e | e | e <;> simp [e])).setCell (b := xb) (fun _ => .inr (.inr (.inr rfl))) 5 _, .inr ⟨Hok.out, ⟨op, nb, Hnb.out, rfl, ?_⟩, Hd2.out.frame hs hK, ?_⟩⟩
    · rw [hp_setCell, if_neg (by have := Hnb.out; have := Hxl.out; omega)]; exact Hnbw.out
    · rw [hp_setCell, if_pos rfl, Hx2.out]; simp [egCells]
end Go.Proofs.YtkafmfdipmhleaaGreatDoor

namespace Go.Proofs.YtkafmfdipmhleaaGreatDoor
open Go.RowKit Go.Maps

/-- What an engine that has not failed keeps, whatever its disk tells. -/
structure StM.inv0 (s : StM) : Prop where
  pend : s.j.fresh = false → s.d.pend = none
  epoch : s.j.epoch < 2 ^ 32
  ok : ∀ g ∈ s.sagas, g.ok
  ord : s.sagas.Pairwise (fun a b => a.id < b.id)
  size : s.d.blocks.length ≤ 1000
theorem StM.inv.zero {s : StM} (h : s.inv) : s.inv0 := ⟨fun _ => h.pend, h.epoch, h.ok, h.ord, h.size⟩
theorem inv0_len {s : StM} (h : s.inv0) : s.sagas.length ≤ 1000 := by
  have := len_of_ord s.sagas 0 1000 h.ord (fun g hg => by have := h.ok g hg; exact ⟨by have := this.1; omega, this.2.1⟩) (by omega)
  omega
def StM.submitG (s : StM) (id : Int) (l : List (ByteArray × ByteArray)) : StM :=
  { s with sagas := insSaga (SagaM.new id l) s.sagas, j := ⟨s.j.epoch, s.j.en + 2, false⟩, d := (s.d.appendA s.j [bodyRec id l, takenRec id]).1 }
/-- An engine that has failed. -/
def FailAt (w : World) (q : Pl) (s : StM) (d : DiskM) : Prop :=
  w.heap[q.xb]? = some (.cells (egCells q.jb q.mb s.pause (askFn q.pb) s.clock true) 79 (0, 0)) ∧ DiskAt w q.db q.bb d ∧ PAt w q.pb s.p
def SubmitG (w : World) (q : Pl) (s : StM) (id : Int) (l : List (ByteArray × ByteArray)) (e : Ending) (w' : World) : Prop :=
  FrK [0, 103, 104, 133, 80] w w' ∧ Low s.p.lo w w' ∧
    ((s.d.appendA s.j [bodyRec id l, takenRec id]).2 = true ∧ e = .returned .nilIface ∧ (∃ bl', StAt w' q bl' (s.submitG id l)) ∨
     (s.d.appendA s.j [bodyRec id l, takenRec id]).2 = false ∧ (∃ op nb, w.heap.size ≤ nb ∧ e = .returned (.iface 121 (.pointer (some ⟨nb, 0, none⟩))) ∧ w'.heap[nb]? = some (.cells (faultCells op 5) 123 (0, 0))) ∧ FailAt w' q s (s.d.appendA s.j [bodyRec id l, takenRec id]).1)
theorem SubmitG.ok {w : World} {q : Pl} {s : StM} {id : Int} {l : List (ByteArray × ByteArray)} {w' : World} (h : (s.d.appendA s.j [bodyRec id l, takenRec id]).2 = true) (h1 : ∃ bl', StAt w' q bl' (s.submitG id l)) (h2 : FrK [0, 103, 104, 133, 80] w w' ∧ Low s.p.lo w w') :
    SubmitG w q s id l (.returned .nilIface) w' := ⟨h2.1, h2.2, .inl ⟨h, rfl, h1⟩⟩
set_option maxRecDepth 100000 in
set_option maxHeartbeats 4000000 in
theorem Submit_gen {w : World} {q : Pl} {bl : List Nat} {s : StM} {id : Int} {l : List (ByteArray × ByteArray)} {v : Value} (hs : StAt w q bl s) (hi : s.inv0) (hg : Handle w) (hlo : 0 < s.p.lo) (hv : StepsAt w v l) (hw : wholeB id l = true) (hn : ∀ x ∈ s.sagas, x.id ≠ id)
    (hroom : (s.j.en : Int) + (2 + (2 * l.length - 1) + leftSum s.sagas) ≤ s.d.blocks.length) :
    Calls Tryz.prog 18 #[.pointer (some ⟨q.xb, 0, none⟩), .int .i64 id, v] w (SubmitG w q s id l) := by
  have hws := whole_small hw
  have hlk := look_none hs.mp id (by omega) (il_none s.sagas bl id hn)
  have hx := hs.eng
  obtain ⟨sa, sn, sc, rfl⟩ := hv.shape
  have HW := Lib.hid (Whole_calls w id l _ (.inr hv) (by have := hws.2.2.2.1; omega))
  rw [hw] at HW
  have Hs := Lib.hid hs
  have Hi := Lib.hid hi
  have Hg := Lib.hid hg
  have Hlo := Lib.hid hlo
  have Hv := Lib.hid hv
  have Hw := Lib.hid hw
  have Hn := Lib.hid hn
  have Hroom := Lib.hid hroom
  have Hws := Lib.hid hws
  have Hlk := Lib.hid hlk
  have Hx := Lib.hid hx
  simp only [egCells] at hx
  clear hs hi hg hlo hv hw hn hroom hws hlk
  have hcv := cellv w
  go_enter Tryz.func18, Tryz.ntmps18
  go_upto_region 5 with (first
    | (go_at_call 41; refine Calls.mono HW.out ?_; rintro e w2 ⟨rfl, hf2⟩)
    | fail)
  have hs2 := Hs.out.keepK (hf2.toK (K := []) (fun _ _ f _ => f.elim)) (by simp)
  have hlk := look_none hs2.mp id (by have := Hws.out; omega) (il_none s.sagas bl id Hn.out)
  have hv2 : StepsAt w2 _ l := Hv.out.frame hf2 (fun _ f => f.elim)
  have HN := Lib.hid (New_calls id l _ hv2 (by have := Hws.out.2.2.1; have := Hws.out.2.2.2.1; omega))
  have hx2 := hf2.get Hx.out (fun f => f)
  have Hx2 := Lib.hid hx2
  have Hf2 := Lib.hid hf2
  have Hs2 := Lib.hid hs2
  simp only [egCells] at hx2
  clear hcv hx hs2 hv2 hf2
  have hcv := cellv w2
  go_upto_region 11 with (first
    | (go_at_call 43; refine Calls.mono HN.out ?_; rintro e w3 ⟨sb, hsb, rfl, hs3, hf3⟩)
    | fail)
  have HL := Lib.hid (Left_calls hs3 (by simp only [SagaM.new]; have := Hws.out.2.2.2.1; omega))
  rw [new_left] at HL
  have Hs3 := Lib.hid hs3
  have Hsb := Lib.hid hsb
  have Hf3 := Lib.hid (Hf2.out.trans hf3)
  have hx3 := hf3.get Hx2.out (fun f => f)
  have Hst3 := Lib.hid (Hs2.out.keepK (hf3.toK (K := []) (fun _ _ f _ => f.elim)) (by simp))
  clear hcv hx2 hs3 hsb hf3 hlk
  have h2n : wrap64 (2 + (2 * (l.length : Int) - 1)) = 2 + (2 * (l.length : Int) - 1) := wrap_in _ (by have := Hws.out.2.2.2.1; omega)
  go_upto_region 12 with (first
    | (go_at_call 44; refine Calls.mono HL.out ?_; rintro e w4 ⟨rfl, n4, rfl⟩)
    | fail)
  have hst4 : StAt (w3.drewN n4) q bl s := Hst3.out.keepK (((Fr.refl (fun _ => False) w3).drewN n4).toK (K := []) (fun _ _ f _ => f.elim)) (by simp)
  have Hs4 := Lib.hid (Hs3.out.new ((Fr.refl _ w3).drewN n4))
  have Hf4 := Lib.hid (Hf3.out.drewN n4)
  have Hx4 := Lib.hid (hst4.eng)
  have Hst4 := Lib.hid hst4
  have Hsb4 : Hid (w.heap.size ≤ sb) := by have := Hsb.out; have := Hf2.out.size; show _ ≤ _; omega
  have H2n := Lib.hid h2n
  clear hx3 hst4 h2n
  generalize w3.drewN n4 = w4 at Hs4 Hf4 Hx4 Hst4 ⊢
  have hx4 := Hx4.out
  simp only [egCells] at hx4
  have hcv := cellv w4
  go_upto_region 13 with (first
    | (at_range; refine wpList_range_own _ rfl _ 76 rfl 3 82 Tryz.keyed Tryz.underlying76 ptrR q.mb s.sagas.length _ rfl Hst4.out.mp ?_; intro w5 hrg0 hg0 hs0; go_frame)
    | fail)
  have hr0 : restSum s.sagas (Maps.has (dataOf (ilOf s.sagas bl))) = leftSum s.sagas := rest_all _ _ (fun g hg => has_of_mem Hs.out.len hg)
  have hF0 : New w4 w5 := (Fr.ofGrown hg0).mono (fun _ _ e => by cases e)
  have HF0 := Lib.hid hF0
  have Hrg0 := Lib.hid hrg0
  have Hr0 := Lib.hid hr0
  clear hcv hx4 hr0 hF0 hrg0 hg0 hs0
  go_wp2_with fail
  go_loopw [9] (fun v wr => SumAt w4 wr q.mb w4.heap.size s.sagas bl (2 + (2 * (l.length : Int) - 1) + leftSum s.sagas) v) (fun _ wr => wr.rangeLeft q.mb w4.heap.size)
  case atStart => exact ⟨_, _, Hrg0.out, by rw [Hr0.out, H2n.out]; congr 1; omega, HF0.out⟩
  case round =>
    obtain ⟨left, cnt, hrg, rfl, hfr⟩ := hrel
    have Hrg := Lib.hid hrg
    have Hfr := Lib.hid hfr
    clear hrg hfr
    go_upto_region 14 with (first
      | (at_next; refine wpList_next_ranges _ rfl _ rfl 3 Tryz.keyed ptrR (Value.int .i64) ptrV key_shape ptrR_shape q.mb w4.heap.size _ _ _ _ rfl Hrg.out ?_ ?_)
      | fail)
    · intro _ hl0
      have hr0 := rest_none s.sagas left hl0
      rw [hr0, Int.sub_zero]
      have Hl0 := Lib.hid hl0
      clear hl0 hr0
      have hst6 : StAt wr q bl s := Hst4.out.keepK (Hfr.out.toK (K := []) (fun _ _ f _ => f.elim)) (by simp)
      have Hs6 := Lib.hid (Hs4.out.new Hfr.out)
      have hx6 := hst6.eng
      have HR := Lib.hid (Room_calls hst6.jn hst6.dk)
      have Hst6 := Lib.hid hst6
      simp only [egCells] at hx6
      clear hst6
      have hcv := cellv wr
      have hsz := (Hi.out).size
      have hrm : wrap64 ((s.d.blocks.length : Int) - s.j.en) = (s.d.blocks.length : Int) - s.j.en := wrap_in _ (by
        have := Hroom.out; have := rest_nonneg s.sagas (fun _ => true) (Hi.out).ok; rw [rest_all s.sagas (fun _ => true) (fun _ _ => rfl)] at this
        have := Hws.out.2.2.1; omega)
      have hgt : ¬ ((s.d.blocks.length : Int) - s.j.en < 2 + (2 * (l.length : Int) - 1) + leftSum s.sagas) := by have := Hroom.out; omega
      rw [hrm] at HR
      clear hrm hsz
      go_upto_region 18 with (first
        | (go_at_call 45; refine Calls.mono HR.out ?_; rintro e w7 ⟨rfl, rfl⟩)
        | fail)
      obtain ⟨sv, hsg, hst⟩ := Hs6.out
      obtain ⟨va, vn, vc, rfl⟩ := hst.shape
      have Hsg := Lib.hid hsg
      have Hst := Lib.hid hst
      have Hx6 := Lib.hid hx6
      simp only [sgCells, SagaM.new] at hsg
      clear hcv hx6 hgt hst
      have hcv := cellv wr.drew
      have hsg' : wr.drew.heap[sb]? = _ := hsg
      clear hsg
      have hN9 : New wr (wr.alloc (.cells #[.int .u8 2, .int .u32 0, .int .i64 0, .int .i64 id, .int .i64 0, .slice va vn vc, .int .u8 3, .int .u32 0, .int .i64 0, .int .i64 id, .int .i64 0, .slice none 0 0] 91)).drew := ((Fr.refl _ wr).alloc _).drew
      have hlb : (wr.alloc (.cells #[.int .u8 2, .int .u32 0, .int .i64 0, .int .i64 id, .int .i64 0, .slice va vn vc, .int .u8 3, .int .u32 0, .int .i64 0, .int .i64 id, .int .i64 0, .slice none 0 0] 91)).drew.heap[wr.heap.size]? = some (.cells #[.int .u8 2, .int .u32 0, .int .i64 0, .int .i64 id, .int .i64 0, .slice va vn vc, .int .u8 3, .int .u32 0, .int .i64 0, .int .i64 id, .int .i64 0, .slice none 0 0] 91 (0, 0)) := heap_alloc_new wr _
      have hrec := sub_recs (sv := .slice va vn vc) Hws.out ⟨_, _, _, rfl⟩ hlb (StepsAt.frame Hst.out hN9 (fun _ f => f.elim))
      have HN9 := Lib.hid hN9
      have HWr := Lib.hid (write_gen (n := 2) (cap := 2) (hN9.get Hx6.out (fun f => f)) (hN9.get Hst6.out.jn (fun f => f)) (Hst6.out.dk.new hN9) ((Hg.out.new Hf4.out).new (Hfr.out.trans hN9)) (by have h0 := Hs.out.lo; have := Hlo.out; omega) (Hi.out).pend hrec rfl (Hi.out).epoch (by
        show s.j.en + 2 ≤ s.d.blocks.length
        have := Hroom.out; have := rest_nonneg s.sagas (fun _ => true) (Hi.out).ok; rw [rest_all s.sagas (fun _ => true) (fun _ _ => rfl)] at this
        have := Hws.out.2.2.1; omega) (Hi.out).size)
      have HFK : Hid (∀ w9, Fr (fun k => k = q.db ∨ k = q.bb ∨ k = q.jb ∨ k = q.xb) (wr.alloc (.cells #[.int .u8 2, .int .u32 0, .int .i64 0, .int .i64 id, .int .i64 0, .slice va vn vc, .int .u8 3, .int .u32 0, .int .i64 0, .int .i64 id, .int .i64 0, .slice none 0 0] 91)).drew w9 → FrK [103, 104, 133, 80] wr w9 ∧ Low s.p.lo wr w9 ∧ s.p.lo ≤ w9.heap.size) := by
        intro w9 hf9
        have hfk9 : FrK [103, 104, 133, 80] wr w9 := (HN9.out.toK (fun _ _ f _ => f.elim)).trans (hf9.toK (by
          obtain ⟨_, _, _, _, e1, e2, _⟩ := Hst6.out.dk
          have e3 := Hst6.out.jn
          have e4 := Hx6.out
          have n1 := HN9.out.get e1 (fun f => f)
          have n2 := HN9.out.get e2 (fun f => f)
          have n3 := HN9.out.get e3 (fun f => f)
          have n4 := HN9.out.get e4 (fun f => f)
          rintro x o (rfl | rfl | rfl | rfl) ho
          · rw [n1] at ho; cases ho; simp [kindOf]
          · rw [n2] at ho; cases ho; simp [kindOf]
          · rw [n3] at ho; cases ho; simp [kindOf]
          · rw [n4] at ho; cases ho; simp [kindOf]))
        have hzr : s.p.lo ≤ wr.heap.size := Nat.le_trans Hs.out.size (Nat.le_trans Hf4.out.size Hfr.out.size)
        have HL9 : Low s.p.lo wr w9 ∧ s.p.lo ≤ w9.heap.size := ⟨(HN9.out.low hzr (fun _ f => f.elim)).trans (hf9.low (Nat.le_trans hzr HN9.out.size) (by
          have h0 := Hs.out.lo
          rintro k (rfl | rfl | rfl | rfl)
          · exact h0.2.2.2.1
          · exact h0.2.2.2.2.1
          · exact h0.2.1
          · exact h0.1)), Nat.le_trans hzr (Nat.le_trans HN9.out.size hf9.size)⟩
        exact ⟨hfk9, HL9⟩
      clear hN9 hlb hrec
      go_upto_region 19 with (first
        | (go_at_call 46; refine Calls.mono HWr.out ?_; rintro e w9 ⟨hf9, ⟨hok9, rfl, hd9, hj9, hx9⟩ | ⟨hok9, ⟨op9, nb9, hnb9, rfl, hnbw9⟩, hd9, hx9⟩⟩)
        | fail)
      rotate_left 1
      focus
        obtain ⟨hfk9, HL9⟩ := HFK.out w9 hf9
        have Hfin : Hid (SubmitG w q s id l (.returned (.iface 121 (.pointer (some ⟨nb9, 0, none⟩)))) w9) := by
          have k1 : FrK [] w w4 := Hf4.out.toK (fun _ _ f _ => f.elim)
          have k2 : FrK [] w4 wr := Hfr.out.toK (fun _ _ f _ => f.elim)
          have hsz : w.heap.size ≤ (wr.alloc (.cells #[.int .u8 2, .int .u32 0, .int .i64 0, .int .i64 id, .int .i64 0, .slice va vn vc, .int .u8 3, .int .u32 0, .int .i64 0, .int .i64 id, .int .i64 0, .slice none 0 0] 91)).drew.heap.size := Nat.le_trans Hf4.out.size (Nat.le_trans Hfr.out.size HN9.out.size)
          exact ⟨(((k1.mono (by decide)).trans (k2.mono (by decide))).trans (hfk9.mono (by decide))), ((Hf4.out.low Hs.out.size (fun _ f => f.elim)).trans (Hfr.out.low (Nat.le_trans Hs.out.size Hf4.out.size) (fun _ f => f.elim))).trans HL9.1,
            .inr ⟨hok9, ⟨op9, nb9, Nat.le_trans hsz hnb9, rfl, hnbw9⟩, hx9, hd9, Hst6.out.pt.keepK hfk9 (by decide) (by decide) (by decide) (by decide)⟩⟩
        clear hcv hsg' hfk9 hf9 hd9 hx9 HL9 hnb9 hnbw9 hok9
        go_wp2_with fail
        go_ret
        exact Hfin.out
      obtain ⟨hfk9, HL9'⟩ := HFK.out w9 hf9
      have HL9 := Lib.hid HL9'
      have Hok9 := Lib.hid hok9
      clear hok9 HL9'
      have Hfk9 := Lib.hid hfk9
      have Hm9 := Lib.hid (map_keepK Hst6.out.mp hfk9 (by decide))
      have Hd9 := Lib.hid hd9
      have Hj9 := Lib.hid hj9
      have Hx9 := Lib.hid hx9
      simp only [egCells] at hx9
      clear hcv hsg' hfk9 hf9 hd9 hj9
      have hcv := cellv w9
      have hkI := keyI id (by have := Hws.out; omega)
      have Hkn : Hid (s.sagas.length < maxLen) := by have := inv0_len Hi.out; show _ < maxLen; unfold maxLen; omega
      go_upto_region 22 with (first
        | (at_mapUpdate; refine wpList_mapUpdate_own _ rfl _ _ _ 76 rfl 3 82 Tryz.keyed Tryz.underlying76 ptrR q.mb s.sagas.length _ rfl Hm9.out Hkn.out (.int .i64 id) (.pointer (some ⟨sb, 0, none⟩)) _ rfl rfl hkI (.lit (.int .i64 sb)) [] rfl ?_; intro w10 hown10 hg10; go_frame)
        | fail)
      have hmk : ∃ es clock, w9.heap[q.mb]? = some (.map es clock) := by
        obtain ⟨es, clock, hb, _⟩ := Hm9.out
        exact ⟨es, clock, hb⟩
      have hk10 : FrK [0] w9 w10 := (Fr.ofGrown hg10).toK (by
        obtain ⟨es, clock, hb⟩ := hmk
        rintro x o hx ho
        cases hx
        rw [hb] at ho; cases ho; simp [kindOf])
      have Hk10 := Lib.hid hk10
      have HL10 : Hid (Low s.p.lo w9 w10) := (Fr.ofGrown hg10).low HL9.out.2 (by
        intro k hk
        cases hk
        exact Hs.out.lo.2.2.1)
      have Hown10 := Lib.hid hown10
      clear hcv hx9 hkI hown10 hg10 hk10 hmk
      go_wp2_with fail
      go_ret
      have hd := dataOf_put (ilOf s.sagas bl) id sb (il_none s.sagas bl id Hn.out)
      have hsb9 : SagaAt w9 sb (SagaM.new id l) := Hs6.out.keepK Hfk9.out (by decide) (by decide)
      refine SubmitG.ok Hok9.out ⟨insBl id sb s.sagas bl, ?_, ?_, ?_, ?_, ?_, ?_, ?_, ?_, ?_⟩ ?_
      · exact Hk10.out.block _ _ Hx9.out (by simp [kindOf])
      · exact Hj9.out.keepK Hk10.out (by decide)
      · exact Hd9.out.keepK Hk10.out (by decide) (by decide) (by decide)
      · exact (Hst6.out.pt.keepK Hfk9.out (by decide) (by decide) (by decide) (by decide)).keepK Hk10.out (by decide) (by decide) (by decide) (by decide)
      · have h0 := Hown10.out
        rw [hd] at h0
        have h1 := insIL_of (SagaM.new id l) sb s.sagas bl Hs.out.len
        show w10.ownsMap Tryz.prog 3 ptrR q.mb (insSaga (SagaM.new id l) s.sagas).length (dataOf (ilOf (insSaga (SagaM.new id l) s.sagas) (insBl id sb s.sagas bl)))
        rw [insSaga_len]
        rw [show insBl id sb s.sagas bl = insBl (SagaM.new id l).id sb s.sagas bl from rfl, h1]
        exact h0
      · show _ = (insSaga _ _).length
        rw [insSaga_len]
        exact insBl_len id sb s.sagas bl Hs.out.len
      · intro i g b hg hb
        rcases insSaga_at (g := SagaM.new id l) Hs.out.len i hg hb with ⟨rfl, rfl⟩ | ⟨j, h1, h2⟩
        · exact hsb9.keepK Hk10.out (by decide) (by decide)
        · exact ((Hst6.out.sg j g b h1 h2).keepK Hfk9.out (by decide) (by decide)).keepK Hk10.out (by decide) (by decide)
      · refine insBl_nd Hs.out.nd (fun hm => ?_)
        obtain ⟨i, hi⟩ := List.getElem?_of_mem hm
        have hil := (List.getElem?_eq_some_iff.1 hi).1
        rw [Hs.out.len] at hil
        obtain ⟨_, e, _⟩ := Hs.out.sg i _ sb (List.getElem?_eq_getElem hil) hi
        have := lt_of_hp e
        have := Hsb4.out
        omega
      · obtain ⟨l1, l2, l3, l4, l5, l6⟩ := Hs.out.lo
        refine ⟨l1, l2, l3, l4, l5, fun b hb => ?_⟩
        rcases insBl_mem hb with rfl | hb
        · have := Hsb4.out; have := Hs.out.size
          show s.p.lo ≤ _
          omega
        · exact l6 b hb
      · have k1 : FrK [] w w4 := Hf4.out.toK (fun _ _ f _ => f.elim)
        have k2 : FrK [] w4 wr := Hfr.out.toK (fun _ _ f _ => f.elim)
        exact ⟨((((k1.mono (by decide)).trans (k2.mono (by decide))).trans (Hfk9.out.mono (by decide))).trans (Hk10.out.mono (by decide))), (((Hf4.out.low Hs.out.size (fun _ f => f.elim)).trans (Hfr.out.low (Nat.le_trans Hs.out.size Hf4.out.size) (fun _ f => f.elim))).trans HL9.out.1).trans HL10.out⟩
    · intro x c kl y ps w6 cnt6 hkl hleft hy hat hrg6 hlt hg6 hs6 hen
      have hid : kl = .int .i64 x := by
        obtain ⟨x', e1, e2, _⟩ := Maps.keyOf_int_inv Tryz.underlying3 hkl
        cases e1; exact e2
      subst hid
      obtain ⟨i, g, b, hgi, hbi, rfl, rfl⟩ := entry_of Hs.out.len hy hat
      have hrest := rest_step s.sagas left (Hi.out).ord g (List.mem_of_getElem? hgi) hleft
      have hf6 : New w4 w6 := Hfr.out.trans' (Fr.ofGrown hg6) (fun i hi e => by cases e; omega)
      have hg6 := (Hst4.out.keepK (hf6.toK (K := []) (fun _ _ f _ => f.elim)) (by simp)).sg i g b hgi hbi
      have hgok := (Hi.out).ok g (List.mem_of_getElem? hgi)
      have hbd : -100 ≤ g.step ∧ g.step ≤ 100 ∧ g.steps.length ≤ 100 := by
        obtain ⟨_, _, hsm, _, h⟩ := hgok
        have := hsm.2.1
        rcases h with h | h <;> omega
      have HL6 := Lib.hid (Left_calls hg6 hbd)
      have Hrest := Lib.hid hrest
      have Hlt := Lib.hid hlt
      have Hrg6 := Lib.hid hrg6
      have Hf6 := Lib.hid hf6
      have hr1 := rest_nonneg s.sagas (fun z => left z && !z.sameKey (.int .i64 g.id)) (Hi.out).ok
      have hr2 := hgok.left_nonneg
      have hr3 := leftSum_le s.sagas (Hi.out).ok
      have hr4 := inv0_len Hi.out
      have hr5 : restSum s.sagas left ≤ leftSum s.sagas := rest_le s.sagas left (Hi.out).ok
      have hl6 : l.length ≤ 6 := Hws.out.2.2.2.1
      have hadd : wrap64 (2 + (2 * (l.length : Int) - 1) + leftSum s.sagas - restSum s.sagas left + g.left) = 2 + (2 * (l.length : Int) - 1) + leftSum s.sagas - restSum s.sagas (fun z => left z && !z.sameKey (.int .i64 g.id)) := by
        rw [show 2 + (2 * (l.length : Int) - 1) + leftSum s.sagas - restSum s.sagas left + g.left = 2 + (2 * (l.length : Int) - 1) + leftSum s.sagas - restSum s.sagas (fun z => left z && !z.sameKey (.int .i64 g.id)) by omega]
        exact wrap_in _ (by omega)
      have Hadd := Lib.hid hadd
      clear hgi hbi hy hat hrest hf6 hg6 hgok hbd hlt hrg6 hr1 hr2 hr3 hr4 hr5 hl6 hadd hleft hkl hs6
      simp only [ptrV]
      simp only [ptrV] at hen
      go_wp2_with (first
        | (go_at_call 44; refine Calls.mono HL6.out ?_; rintro e w7 ⟨rfl, n7, rfl⟩)
        | fail)
      go_roundw
      case rel => exact ⟨_, cnt6, Hrg6.out.kept (w' := w6.drewN n7) (row := none) ⟨rfl, rfl, rfl, Nat.le_refl _, fun _ _ _ => rfl⟩ (by simp) (by simp), by rw [← Hadd.out], Hf6.out.drewN n7⟩
      case measure =>
        have e1 := Hrg6.out.left_eq
        have e2 := Hrg.out.left_eq
        show World.rangeLeft w6 _ _ < _
        rw [e1, e2]; exact Hlt.out
end Go.Proofs.YtkafmfdipmhleaaGreatDoor

namespace Go.Proofs.YtkafmfdipmhleaaGreatDoor
open Go.RowKit Go.Maps

/-- copy from a row into a row: as one step of a region that draws. -/
theorem step_copy {P : Program} {ops : Array Oper} {o : Oper} {a : Act} {w : World} {K : Act → World → Prop} {Q : Exit → Act → World → Prop} {E : Prop} (hgd : o.guard = none) (d s : Operand) (dT sT : TypeId)
    (ho : o.op = .call { callee := .builtin .copy, args := #[d, s], argTypes := #[dT, sT] }) (elem : TypeId) (hu : P.underlying dT = some (.slice elem)) (hsz : (P.info? elem).map (·.size) = some 1)
    (g off dLen dCap : Nat) (hd : a.eval d = .slice (some ⟨g, off, none⟩) dLen dCap) (sb so sLen sCap : Nat) (hs : a.eval s = .slice (some ⟨sb, so, none⟩) sLen sCap)
    (cur : Array Value) (t : TypeId) (hg : w.heap[g]? = some (.cells cur t (0, 0))) (cs : List Value) (hn : cs.length = Nat.min sLen dLen)
    (hsrc : ∀ j v, cs[j]? = some v → cellOf w.heap[sb]? (so + j) = some v) (hfit : off + cs.length ≤ cur.size) (h1 : ∀ v ∈ cs, v.oneCell' = true)
    (h : ∀ w' Y, Hid (Y = (cur.toList.take off ++ cs ++ cur.toList.drop (off + cs.length)).toArray) → w'.heap[g]? = some (.cells Y t (0, 0)) → Fr (· = g) w w' → K (a.put o.dst (goInt cs.length)) w') :
    if Region.wanted o (yielded ops a.tmps) = true then Oper.wp P o a w K Q else E := by
  have hw : Region.wanted o (yielded ops a.tmps) = true := by simp [Region.wanted, hgd]
  rw [if_pos hw]
  have hrun := run_copy_row (P := P) w dT sT o.type elem g off dLen dCap ⟨sb, so, none⟩ sLen sCap cur t cs hu hsz hg hn (fun j v hv => by rw [Addr.add_mid, cellv]; exact hsrc j v hv) hfit h1
  unfold Oper.wp
  simp [execOp, ho, resolve, invoke, builtin, hd, hs, hrun, Result.andThen]
  exact h _ _ rfl (by rw [setRow_heap w g _ _ t _ hg]; simp) ((Fr.refl (· = g) w).setRow (fun _ => rfl) _)
/-- A block with one sector of another. -/
def secB (old new : List UInt8) (s : Nat) : List UInt8 := old.take (s * 32) ++ (new.drop (s * 32)).take 32 ++ old.drop (s * 32 + 32)
theorem secB_len (old new : List UInt8) (s : Nat) (h1 : old.length = 128) (h2 : new.length = 128) (hs : s < 4) : (secB old new s).length = 128 := by
  simp [secB]; omega
noncomputable def afR10 : Code := ((Tryz.f29.body).bind (regOf 10)).getD .skip
theorem blk_sec (bl : List (List UInt8)) (h : ∀ b ∈ bl, b.length = 128) (rest : List Value) (i : Nat) (hi : i < bl.length) (b : List UInt8) (hb : b.length = 128) (s : Nat) (hs : s < 4) :
    ((blkCells bl rest).toList.take (i * 128 + s * 32) ++ ((b.drop (s * 32)).take 32).map bv ++ (blkCells bl rest).toList.drop (i * 128 + s * 32 + (((b.drop (s * 32)).take 32).map bv).length)).toArray = blkCells (bl.set i (secB bl[i] b s)) rest := by
  have hm : (((b.drop (s * 32)).take 32).map bv).length = 32 := by simp; omega
  rw [hm]
  unfold blkCells
  congr 1
  induction bl generalizing i with
  | nil => simp at hi
  | cons c bl ih =>
    have hc := h c (by simp)
    have hcl : (c.map bv).length = 128 := by simp [hc]
    cases i with
    | zero =>
      simp only [List.flatten_cons, List.map_append, List.set_cons_zero, List.getElem_cons_zero, Nat.zero_mul, Nat.zero_add, List.append_assoc]
      generalize bl.flatten.map bv ++ rest = X
      rw [List.take_append_of_le_length (by omega), List.drop_append_of_le_length (by omega)]
      simp [secB, List.map_take, List.map_drop]
    | succ i =>
      have := ih (fun x hx => h x (by simp [hx])) i (by simpa using hi)
      simp only [List.flatten_cons, List.map_append, List.set_cons_succ, List.getElem_cons_succ]
      rw [List.append_assoc (c.map bv) ((bl.set i _).flatten.map bv), ← this]
      rw [List.append_assoc (c.map bv)]
      generalize bl.flatten.map bv ++ rest = X
      rw [show (i + 1) * 128 + s * 32 = (c.map bv).length + (i * 128 + s * 32) by omega, List.take_length_add_append, show (c.map bv).length + (i * 128 + s * 32) + 32 = (c.map bv).length + (i * 128 + s * 32 + 32) by omega, List.drop_length_add_append]
      simp
set_option maxRecDepth 100000 in
set_option maxHeartbeats 4000000 in
/-- copy(e.blocks[w.at][s*Sector:(s+1)*Sector], w.b[s*Sector:(s+1)*Sector]). -/
theorem af_r10 (eb gb n7 s i nn cap : Nat) (bl : List (List UInt8)) (rest : List Value) (b : List UInt8) (cells : Array Value) (W : World) (hwf : ∀ b ∈ bl, b.length = 128) (hb : b.length = 128) (hi : i < bl.length) (hs : s < 4) (hnn : nn = bl.length) (hn : nn ≤ 1000)
    (he : W.heap[eb]? = some (.cells cells 102 (0, 0))) (he0 : cells[0]? = some (.slice (some ⟨gb, 0, none⟩) nn cap)) (hg : W.heap[gb]? = some (.cells (blkCells bl rest) 103 (0, 0))) (h7 : W.heap[n7]? = some (.cells (Value.int .i64 (i : Int) :: b.map bv).toArray 107 (0, 0)))
    {ds : List Deferred} {x0 x1 x2 x3 x4 x6 x9 x10 x11 x12 x13 x14 x15 x16 x17 x18 x19 x20 x21 x22 x23 x24 x25 x26 x27 x28 x29 x30 x31 x32 x33 x34 x35 x36 x37 x38 x39 x40 x41 x42 x43 x44 x45 x46 x47 x48 x49 x50 x51 x52 x53 x54 x55 x56 x57 x58 x59 x60 x61 x62 x63 x64 : Value} {Q : Exit → Act → World → Prop}
    (hQ : ∀ (y42 y43 y44 y45 y46 y47 y48 y49 y50 y51 y52 y53 y54 y55 y56 y57 y58 y59 y60 y61 y62 : Value) (w' : World), Fr (· = gb) W w' → w'.heap[gb]? = some (.cells (blkCells (bl.set i (secB bl[i] b s)) rest) 103 (0, 0)) → Q .normal ⟨#[x0, x1, x2, x3, x4, .pointer (some ⟨eb, 0, none⟩), x6, .pointer (some ⟨n7, 0, none⟩), .int .i64 s, x9, x10, x11, x12, x13, x14, x15, x16, x17, x18, x19, x20, x21, x22, x23, x24, x25, x26, x27, x28, x29, x30, x31, x32, x33, x34, x35, x36, x37, x38, x39, x40, x41, y42, y43, y44, y45, y46, y47, y48, y49, y50, y51, y52, y53, y54, y55, y56, y57, y58, y59, y60, y61, y62, x63, x64], ds⟩ w') :
    Code.wp Tryz.prog afR10 Q ⟨#[x0, x1, x2, x3, x4, .pointer (some ⟨eb, 0, none⟩), x6, .pointer (some ⟨n7, 0, none⟩), .int .i64 s, x9, x10, x11, x12, x13, x14, x15, x16, x17, x18, x19, x20, x21, x22, x23, x24, x25, x26, x27, x28, x29, x30, x31, x32, x33, x34, x35, x36, x37, x38, x39, x40, x41, x42, x43, x44, x45, x46, x47, x48, x49, x50, x51, x52, x53, x54, x55, x56, x57, x58, x59, x60, x61, x62, x63, x64], ds⟩ W := by
  have HQ := Lib.hid hQ
  have a0 : W.drew.cell? ⟨eb, 0, none⟩ = some (.slice (some ⟨gb, 0, none⟩) nn cap) := by rw [cellv, hp_drew, he]; exact he0
  have a1 : W.drew.cell? ⟨n7, 0, none⟩ = some (.int .i64 (i : Int)) := by rw [cellv, hp_drew, h7]; rfl
  have hsec := blk_sec bl hwf rest i hi b hb s hs
  have hsrc : ∀ j v, (((b.drop (s * 32)).take 32).map bv)[j]? = some v → cellOf W.drew.heap[n7]? (1 + s * 32 + j) = some v := by
    intro j v hj
    rw [hp_drew, h7, cellOf_cells, show 1 + s * 32 + j = (s * 32 + j) + 1 by omega]
    rw [List.map_take, List.map_drop, List.getElem?_take] at hj
    split at hj
    · rw [List.getElem?_drop] at hj
      simpa using hj
    · cases hj
  have hlen : (((b.drop (s * 32)).take 32).map bv).length = 32 := by simp; omega
  have hfit : i * 128 + s * 32 + (((b.drop (s * 32)).take 32).map bv).length ≤ (blkCells bl rest).size := by
    rw [hlen, blk_size _ hwf]; omega
  have hil : (i : Int) < nn := by omega
  have hone : ∀ v ∈ ((b.drop (s * 32)).take 32).map bv, v.oneCell' = true := bv_one _
  have hg' : W.drew.heap[gb]? = some (.cells (blkCells bl rest) 103 (0, 0)) := hg
  generalize blkCells (bl.set i (secB bl[i] b s)) rest = NB at hsec HQ
  generalize hCS : ((b.drop (s * 32)).take 32).map bv = CS at hsec hsrc hlen hfit hone
  have Hsec := Lib.hid hsec
  have Hsrc := Lib.hid hsrc
  have Hlen := Lib.hid hlen
  have Hfit := Lib.hid hfit
  have Hone := Lib.hid hone
  have Hg := Lib.hid hg'
  clear hsec hsrc hlen hfit hone hg' hg h7 he he0 hCS hwf hb hi hnn hQ
  conv => arg 2; whnf
  refine wp_region_noPanic ?_
  have hw0 : IntKind.i64.wrap 0 = 0 := IntWalk.i64_in _ (by omega)
  have hw1 : IntKind.i64.wrap 1 = 1 := IntWalk.i64_in _ (by omega)
  have hw2 : IntKind.i64.wrap 2 = 2 := IntWalk.i64_in _ (by omega)
  have hw3 : IntKind.i64.wrap 3 = 3 := IntWalk.i64_in _ (by omega)
  have hw4 : IntKind.i64.wrap 4 = 4 := IntWalk.i64_in _ (by omega)
  have hw32 : IntKind.i64.wrap 32 = 32 := IntWalk.i64_in _ (by omega)
  have hw64 : IntKind.i64.wrap 64 = 64 := IntWalk.i64_in _ (by omega)
  have hw96 : IntKind.i64.wrap 96 = 96 := IntWalk.i64_in _ (by omega)
  have hw128 : IntKind.i64.wrap 128 = 128 := IntWalk.i64_in _ (by omega)
  have hscase : s = 0 ∨ s = 1 ∨ s = 2 ∨ s = 3 := by omega
  clear hs
  rcases hscase with rfl | rfl | rfl | rfl
  · go_region_law (refine step_copy rfl (.tmp 54) (.tmp 61) 92 92 rfl 5 Tryz.underlying92 Tryz.info5sz gb (i * 128 + 0 * 32) 32 (128 - 0 * 32) rfl n7 (1 + 0 * 32) 32 (128 - 0 * 32) rfl (blkCells bl rest) 103 Hg.out CS (by rw [Hlen.out]; rfl) Hsrc.out Hfit.out Hone.out ?_; intro w2 Y hY hg2 hf2)
    all_goals exact NoPanic.normal (HQ.out _ _ _ _ _ _ _ _ _ _ _ _ _ _ _ _ _ _ _ _ _ w2 ((Fr.refl _ W).drew.trans hf2) (by rw [hg2, hY.out, Hsec.out]))
  · go_region_law (refine step_copy rfl (.tmp 54) (.tmp 61) 92 92 rfl 5 Tryz.underlying92 Tryz.info5sz gb (i * 128 + 1 * 32) 32 (128 - 1 * 32) rfl n7 (1 + 1 * 32) 32 (128 - 1 * 32) rfl (blkCells bl rest) 103 Hg.out CS (by rw [Hlen.out]; rfl) Hsrc.out Hfit.out Hone.out ?_; intro w2 Y hY hg2 hf2)
    all_goals exact NoPanic.normal (HQ.out _ _ _ _ _ _ _ _ _ _ _ _ _ _ _ _ _ _ _ _ _ w2 ((Fr.refl _ W).drew.trans hf2) (by rw [hg2, hY.out, Hsec.out]))
  · go_region_law (refine step_copy rfl (.tmp 54) (.tmp 61) 92 92 rfl 5 Tryz.underlying92 Tryz.info5sz gb (i * 128 + 2 * 32) 32 (128 - 2 * 32) rfl n7 (1 + 2 * 32) 32 (128 - 2 * 32) rfl (blkCells bl rest) 103 Hg.out CS (by rw [Hlen.out]; rfl) Hsrc.out Hfit.out Hone.out ?_; intro w2 Y hY hg2 hf2)
    all_goals exact NoPanic.normal (HQ.out _ _ _ _ _ _ _ _ _ _ _ _ _ _ _ _ _ _ _ _ _ w2 ((Fr.refl _ W).drew.trans hf2) (by rw [hg2, hY.out, Hsec.out]))
  · go_region_law (refine step_copy rfl (.tmp 54) (.tmp 61) 92 92 rfl 5 Tryz.underlying92 Tryz.info5sz gb (i * 128 + 3 * 32) 32 (128 - 3 * 32) rfl n7 (1 + 3 * 32) 32 (128 - 3 * 32) rfl (blkCells bl rest) 103 Hg.out CS (by rw [Hlen.out]; rfl) Hsrc.out Hfit.out Hone.out ?_; intro w2 Y hY hg2 hf2)
    all_goals exact NoPanic.normal (HQ.out _ _ _ _ _ _ _ _ _ _ _ _ _ _ _ _ _ _ _ _ _ w2 ((Fr.refl _ W).drew.trans hf2) (by rw [hg2, hY.out, Hsec.out]))
end Go.Proofs.YtkafmfdipmhleaaGreatDoor

namespace Go.Proofs.YtkafmfdipmhleaaGreatDoor
open Go.RowKit Go.Maps

/-- A slice whose numbers read as l, in whatever block. -/
def IntsIn (w : World) (v : Value) (l : List Int) : Prop :=
  (l = [] ∧ ∃ a c, v = .slice a 0 c) ∨ ∃ b off cap, v = .slice (some ⟨b, off, none⟩) l.length cap ∧ ∀ j x, l[j]? = some x → w.cell? ⟨b, off + j, none⟩ = some (.int .i64 x)
theorem IntsIn.shape {w : World} {v : Value} {l : List Int} (h : IntsIn w v l) : ∃ a c, v = .slice a l.length c := by
  rcases h with ⟨rfl, a, c, e⟩ | ⟨b, off, cap, e, _⟩
  · exact ⟨a, c, e⟩
  · exact ⟨_, _, e⟩
theorem IntsIn.at {w : World} {a : Option Addr} {m c : Nat} {l : List Int} (h : IntsIn w (.slice a m c) l) (k : Nat) (x : Int) (hx : l[k]? = some x) : ∃ b off, a = some ⟨b, off, none⟩ ∧ ∀ w', New w w' → w'.cell? ⟨b, off + k, none⟩ = some (.int .i64 x) := by
  rcases h with ⟨rfl, _⟩ | ⟨b, off, cap, e, h2⟩
  · simp at hx
  · simp only [Value.slice.injEq] at e
    refine ⟨b, off, e.1, fun w' hf => ?_⟩
    have h0 := h2 k x hx
    have hlt := World.block_lt_of_cell? w _ h0
    rw [← h0]
    exact World.cell?_of_block (hf.block b hlt (fun f => f))
set_option maxRecDepth 100000 in
set_option maxHeartbeats 2000000 in
theorem few_in {w : World} {v : Value} {l : List Int} (h : IntsIn w v l) (n : Nat) (hn : n ≤ 1000) :
    Calls Tryz.prog 14 #[v, .int .i64 n] w (FewPost w l n) := by
  obtain ⟨a, c, rfl⟩ := h.shape
  have Hi := Lib.hid h
  obtain ⟨i0, hi, hz0, hz1, hz2⟩ := info_parts Tryz.info3z
  clear h
  go_enter Tryz.func14, Tryz.ntmps14
  go_wp2_with fail
  go_loopw [5, 6] (fun sv i wr => ∃ k : Nat, k ≤ n ∧ k ≤ l.length ∧ i = .int .i64 (k : Nat) ∧ wr.ownsRow w.heap.size 3 1 sv k ((l.take k).map encZ) ∧ New w wr) (fun _ i _ => n - (intOf i).toNat)
  case atStart => exact ⟨0, Nat.zero_le _, Nat.zero_le _, rfl, World.ownsRow_nil w w.heap.size 3 1, Fr.refl _ _⟩
  case round =>
    obtain ⟨k, hk, hkl, rfl, hown, hfr⟩ := hrel
    have Hown := Lib.hid hown
    have Hfr := Lib.hid hfr
    clear hown hfr
    by_cases h1 : k < l.length
    · by_cases h2 : k < n
      · obtain ⟨b, off, rfl, hcell⟩ := Hi.out.at k l[k] (by simp [h1])
        have hc := hcell wr Hfr.out
        have hk1 : (k : Int) < l.length := by omega
        have hk2 : (k : Int) < n := by omega
        have htk : l.take (k + 1) = l.take k ++ [l[k]] := List.take_succ_eq_append_getElem h1
        generalize l[k] = x at hc htk
        have Htk := Lib.hid htk
        have hoA := Lib.hid (Hown.out.alloc (.cells #[.int .i64 x] 3))
        have hnews : ∀ (j : Nat) (u : Value), [Value.int .i64 x][j]? = some u → (wr.alloc (.cells #[.int .i64 x] 3)).cell? ((⟨wr.heap.size, 0, none⟩ : Addr).add j) = some u := World.news_of_block (heap_alloc_new wr _)
        have Hnews := Lib.hid hnews
        clear htk hnews hcell
        have hkn : Hid (k < n ∧ k < l.length) := ⟨h2, h1⟩
        go_wp2_with (first
          | (at_builtin; refine wpList_append_own _ rfl _ _ 22 rfl w.heap.size 3 i0 (.int .i64 0) 1 8 Tryz.underlying22 hi hz0 hz1 hz2 rfl (by decide) _ _ _ rfl hoA.out ⟨wr.heap.size, 0, none⟩ 1 1 [.int .i64 x] rfl rfl Hnews.out (by intro u hu; simp at hu; subst hu; rfl) (by unfold maxLen; omega) (by omega) (by have := Hfr.out.size; simp; omega) ?_; intro sv' w1 hown1 hg1 _; go_frame)
          | fail)
        go_roundw
        case rel =>
          refine ⟨k + 1, hkn.out.1, hkn.out.2, by go_num, ?_, ?_⟩
          · rw [Htk.out, List.map_append]
            exact hown1
          · refine (Hfr.out.alloc _).trans' (Fr.ofGrown hg1) (fun i hi e => ?_)
            have := (Hown.out.lt i e).1
            omega
        case measure => have := hkn.out; simp [intOf]; omega
      · have hk2 : ¬ (k : Int) < n := by omega
        have hk1 : (k : Int) < l.length := by omega
        have he : Hid (k = n) := by show _ = _; omega
        go_wp2_with fail
        go_ret
        refine ⟨_, rfl, ?_, Hfr.out⟩
        have := Hown.out
        rw [he.out] at this
        rw [List.length_take, Nat.min_eq_left (by have := he.out; omega)]
        exact this
    · have hk1 : ¬ (k : Int) < l.length := by omega
      have he : Hid (k = l.length ∧ l.length ≤ n) := by show _ ∧ _; omega
      go_wp2_with fail
      go_ret
      refine ⟨_, rfl, ?_, Hfr.out⟩
      have := Hown.out
      rw [he.out.1, List.take_length] at this
      rw [List.take_of_length_le he.out.2]
      exact this


end Go.Proofs.YtkafmfdipmhleaaGreatDoor
