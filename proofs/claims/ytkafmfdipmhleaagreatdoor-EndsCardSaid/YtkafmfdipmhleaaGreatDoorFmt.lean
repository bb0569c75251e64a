/-
  What is proved: the contract of journal.Format, on a disk that tells no errors.
-/
import Derived.Test.YtkafmfdipmhleaaGreatDoorVol
import Derived.Test.YtkafmfdipmhleaaGreatDoorPrs
import Derived.Deep.DeepCutAuto
namespace Go.Proofs.YtkafmfdipmhleaaGreatDoor
open Go.RowKit

theorem hp_alloc_ne {w : World} {x : Obj} {k : Nat} (h : k ≠ w.heap.size) : (w.alloc x).heap[k]? = w.heap[k]? := by rw [hp_alloc, if_neg h]
theorem cellvd (w : World) (b o : Nat) : w.drew.cell? ⟨b, o, none⟩ = cellOf w.heap[b]? o := cellv w b o
theorem frozvd (w : World) (b o : Nat) : w.drew.frozen? ⟨b, o, none⟩ = frozOf w.heap[b]? o := frozv w b o
/-- A disk that tells no errors. -/
def DiskM.quiet (d : DiskM) : Prop := d.off < 0 ∧ d.to ≤ d.fr
theorem DiskM.quiet.bad {d : DiskM} (h : d.quiet) : d.bad = false := by
  obtain ⟨h1, h2⟩ := h
  unfold DiskM.bad
  simp
  omega
theorem DiskM.quiet.count {d : DiskM} (h : d.quiet) : d.count.quiet := h
theorem DiskM.quiet.put {d : DiskM} (h : d.quiet) (i : Nat) (l : List UInt8) : (d.put i l).quiet := h
theorem DiskM.quiet.flush {d : DiskM} (h : d.quiet) : d.flush.quiet := h

def recBytes (r : RecM) : List UInt8 := (recB r).take (endOf r)
def DiskM.sure (d : DiskM) (i : Nat) (l : List UInt8) : DiskM := (d.put i l).flush

/-- Read and sure, on a disk that tells no errors. -/
def QReadPost (w : World) (db bb : Nat) (d : DiskM) (i : Nat) (e : Ending) (w' : World) : Prop :=
  ∃ g, w.heap.size ≤ g ∧ e = .returned (.slice (some ⟨g, 0, none⟩) 128 128) ∧ w'.heap[g]? = some (.cells ((d.look i).map bv).toArray 5 (0, 0)) ∧ DiskAt w' db bb d.count ∧ Fr (· = db) w w'
theorem read_quiet {w : World} {db bb : Nat} {d : DiskM} (h : DiskAt w db bb d) (hq : d.quiet) (i : Nat) (hi : i < d.blocks.length) :
    Calls Tryz.prog 105 #[vol db, .int .i64 i] w (QReadPost w db bb d i) := by
  refine Calls.mono (read_calls h i hi) ?_
  rintro e w2 ⟨hd2, hf2, ⟨hb, _⟩ | ⟨hb, g, hg, rfl, hgc⟩⟩
  · rw [hq.bad] at hb; cases hb
  · exact ⟨g, hg, rfl, hgc, hd2, hf2⟩
theorem wrAt_len (l : List UInt8) (p : Nat) (x : List UInt8) (h : p + x.length ≤ l.length) : (wrAt l p x).length = l.length := by
  simp [wrAt]; omega
theorem sure_quiet {w : World} {db bb : Nat} {d : DiskM} (h : DiskAt w db bb d) (hq : d.quiet) (i : Nat) (hi : i < d.blocks.length) (hp : d.pend = none) (nb : Nat) (r : RecM) (hr : (recB r).length = 128)
    (hs : w.heap[nb]? = some (.cells (wayCells (recB r) 4) 201 (0, 0))) :
    Calls Tryz.prog 95 #[vol db, .int .i64 i, .slice (some ⟨nb, 0, none⟩) (endOf r) (endOf r)] w fun e w' => e = .returned (.tuple #[]) ∧ Fr (fun k => k = db ∨ k = bb) w w' ∧ DiskAt w' db bb (d.sure i (recBytes r)) := by
  have hl : (recBytes r).length = endOf r := by
    unfold recBytes endOf; simp [hr]; split <;> omega
  have he : endOf r ≤ 128 := by unfold endOf; split <;> omega
  refine Calls.mono (sure_calls h i hi hp nb 0 (endOf r) (endOf r) (recBytes r) hl.symm (by omega) _ 201 hs (by decide) ?_) ?_
  · intro j hj
    rw [Nat.zero_add, way_byte _ _ _ (by omega)]
    simp only [recBytes, List.getD_eq_getElem?_getD]
    rw [List.getElem?_take_of_lt (by omega)]
  · rintro e w' ⟨hf, ⟨hb, _⟩ | ⟨_, hb, _⟩ | ⟨_, _, rfl, hd⟩⟩
    · rw [hq.bad] at hb; cases hb
    · rw [(hq.put i _).bad] at hb; cases hb
    · exact ⟨rfl, hf, hd⟩

theorem recB_len (r : RecM) (h : 4 + (bodyB r).length ≤ 128) : (recB r).length = 128 := by
  have h1 : (baseB r).length = 128 := by
    unfold baseB
    rw [wrAt_len _ _ _ (by simpa [zeros] using h)]
    simp [zeros]
  unfold recB
  rw [wrAt_len _ _ _ (by simp [leN_length, h1]), h1]
theorem recB_len1 (r : RecM) (h : r.kind ≠ 2) : (recB r).length = 128 := by
  refine recB_len r ?_
  simp [bodyB, headB, h, leN_length]

def nextEpoch (r : RecM) (ok : Bool) : Nat := if ok && r.kind == 1 then (r.epoch + 1) % 2 ^ 32 else 1
def DiskM.format (d : DiskM) (ep : Nat) : DiskM := d.count.flush.sure 0 (recBytes ⟨1, ep, 0, 0, 0, []⟩)

def FmtPost (w : World) (db bb : Nat) (d : DiskM) (ep : Nat) (e : Ending) (w' : World) : Prop :=
  e = .returned .nilIface ∧ Fr (fun k => k = db ∨ k = bb) w w' ∧ DiskAt w' db bb (d.format ep)
set_option maxRecDepth 100000 in
set_option maxHeartbeats 2000000 in
theorem jFormat_calls {w : World} {db bb : Nat} {d : DiskM} (h : DiskAt w db bb d) (hq : d.quiet) (hp : d.pend = none) (h0 : 0 < d.blocks.length) (r : RecM) (ok : Bool) (hpm : parseM (d.look 0) = some (r, ok)) :
    Calls Tryz.prog 92 #[.iface 27 (.pointer (some ⟨db, 0, none⟩))] w (FmtPost w db bb d (nextEpoch r ok)) := by
  have hmf : ∀ (fn : Fn) (first cap : Array Value) (w : World), (Instr.makeFunc fn first cap).run Tryz.prog w = .ok (.func fn first cap) w := fun _ _ _ _ => rfl
  have hlk := DiskM.look_length h.wf h0
  have Hq := Lib.hid hq
  have Hp := Lib.hid hp
  have H0 := Lib.hid h0
  have Hpm := Lib.hid hpm
  have Hlk := Lib.hid hlk
  have Hd := Lib.hid h
  clear h hq hp h0 hpm hlk
  go_enter_defers Tryz.func92, Tryz.ntmps92
  go_upto_region 4 with fail
  have hd1 : DiskAt (((w.alloc (.cells #[.nilIface] 32)).alloc (.cells #[.iface 27 (.pointer (some ⟨db, 0, none⟩))] 130)).alloc (.cells #[.int .u8 1, .int .u32 1, .int .i64 0, .int .i64 0, .int .i64 0, .slice none 0 0] 91)) db bb d := Hd.out.new ((((Fr.refl _ w).alloc _).alloc _).alloc _)
  have hF1 : New w (((w.alloc (.cells #[.nilIface] 32)).alloc (.cells #[.iface 27 (.pointer (some ⟨db, 0, none⟩))] 130)).alloc (.cells #[.int .u8 1, .int .u32 1, .int .i64 0, .int .i64 0, .int .i64 0, .slice none 0 0] 91)) := (((Fr.refl _ w).alloc _).alloc _).alloc _
  have he := heap_alloc_keep (.cells #[.int .u8 1, .int .u32 1, .int .i64 0, .int .i64 0, .int .i64 0, .slice none 0 0] 91) (heap_alloc_keep (.cells #[.iface 27 (.pointer (some ⟨db, 0, none⟩))] 130) (heap_alloc_new w (.cells #[.nilIface] 32)))
  have hv := heap_alloc_keep (.cells #[.int .u8 1, .int .u32 1, .int .i64 0, .int .i64 0, .int .i64 0, .slice none 0 0] 91) (heap_alloc_new (w.alloc (.cells #[.nilIface] 32)) (.cells #[.iface 27 (.pointer (some ⟨db, 0, none⟩))] 130))
  have hh := heap_alloc_new ((w.alloc (.cells #[.nilIface] 32)).alloc (.cells #[.iface 27 (.pointer (some ⟨db, 0, none⟩))] 130)) (.cells #[.int .u8 1, .int .u32 1, .int .i64 0, .int .i64 0, .int .i64 0, .slice none 0 0] 91)
  rw [sz_alloc] at hv hh
  rw [sz_alloc] at hh
  have hdl : db < w.heap.size ∧ bb < w.heap.size := by
    obtain ⟨_, _, _, _, h1, h2, _⟩ := Hd.out
    exact ⟨lt_of_hp h1, lt_of_hp h2⟩
  generalize (((w.alloc (.cells #[.nilIface] 32)).alloc (.cells #[.iface 27 (.pointer (some ⟨db, 0, none⟩))] 130)).alloc (.cells #[.int .u8 1, .int .u32 1, .int .i64 0, .int .i64 0, .int .i64 0, .slice none 0 0] 91)) = W1 at hd1 hF1 he hv hh ⊢
  have hS : ∀ k, w.heap.size ≤ k → ¬ (k = db ∨ k = bb) := by intro k hk; omega
  have HS := Lib.hid hS
  have Hsz := Lib.hid (rfl : w.heap.size = w.heap.size)
  generalize hE : w.heap.size = E at he hv hh ⊢
  have HE := Lib.hid hE
  have HF1 := Lib.hid hF1
  have Hd1 := Lib.hid hd1
  clear hS hdl Hsz hE hF1 hd1
  have hcv := cellv W1
  go_upto_region 5 with (first
    | (go_at_call 105; refine Calls.mono (read_quiet Hd1.out Hq.out 0 H0.out) ?_; rintro e w2 ⟨g, hg, rfl, hgc, hd2, hf2⟩)
    | (go_at_call 104; refine Calls.mono (parse_calls w2 g _ 5 (d.look 0) r ok Hlk.out hgc (by intro j hj; simp [Hlk.out, hj]) Hpm.out) ?_; rintro e w3 ⟨sv, rfl, hsv, hf3⟩; obtain ⟨sa, sm, sc, rfl⟩ := own_slice hsv; simp only [rcells])
    | fail)
  have hEd : E ≠ db ∧ E + 1 ≠ db ∧ E + 1 + 1 ≠ db := by
    have h1 := HS.out E (by rw [HE.out]; exact Nat.le_refl _)
    have h2 := HS.out (E + 1) (by rw [HE.out]; omega)
    have h3 := HS.out (E + 1 + 1) (by rw [HE.out]; omega)
    exact ⟨fun e => h1 (.inl e), fun e => h2 (.inl e), fun e => h3 (.inl e)⟩
  have hEb : E ≠ bb ∧ E + 1 ≠ bb ∧ E + 1 + 1 ≠ bb := by
    have h1 := HS.out E (by rw [HE.out]; exact Nat.le_refl _)
    have h2 := HS.out (E + 1) (by rw [HE.out]; omega)
    have h3 := HS.out (E + 1 + 1) (by rw [HE.out]; omega)
    exact ⟨fun e => h1 (.inr e), fun e => h2 (.inr e), fun e => h3 (.inr e)⟩
  have HEd := Lib.hid hEd
  have HEb := Lib.hid hEb
  clear hEd hEb
  have he4 := heap_alloc_keep (.cells #[.int .u8 r.kind, .int .u32 r.epoch, .int .i64 r.index, .int .i64 r.saga, .int .i64 r.reply, .slice sa sm sc] 91) (hf3.get (hf2.get he HEd.out.1) (fun f => f))
  have hv4 := heap_alloc_keep (.cells #[.int .u8 r.kind, .int .u32 r.epoch, .int .i64 r.index, .int .i64 r.saga, .int .i64 r.reply, .slice sa sm sc] 91) (hf3.get (hf2.get hv HEd.out.2.1) (fun f => f))
  have hh4 := heap_alloc_keep (.cells #[.int .u8 r.kind, .int .u32 r.epoch, .int .i64 r.index, .int .i64 r.saga, .int .i64 r.reply, .slice sa sm sc] 91) (hf3.get (hf2.get hh HEd.out.2.2) (fun f => f))
  have hr4 := heap_alloc_new w3 (.cells #[.int .u8 r.kind, .int .u32 r.epoch, .int .i64 r.index, .int .i64 r.saga, .int .i64 r.reply, .slice sa sm sc] 91)
  have hd4 := hd2.new (hf3.alloc (.cells #[.int .u8 r.kind, .int .u32 r.epoch, .int .i64 r.index, .int .i64 r.saga, .int .i64 r.reply, .slice sa sm sc] 91))
  have hF4 : Fr (fun k => k = db ∨ k = bb) w (w3.alloc (.cells #[.int .u8 r.kind, .int .u32 r.epoch, .int .i64 r.index, .int .i64 r.saga, .int .i64 r.reply, .slice sa sm sc] 91)) :=
    ((HF1.out.mono (fun _ _ f => f.elim)).trans (hf2.mono (fun _ _ e => .inl e))).trans ((hf3.alloc _).mono (fun _ _ f => f.elim))
  clear hg hgc hf2 hsv hf3 hcv he hv hh hd2
  generalize w3.alloc (.cells #[.int .u8 r.kind, .int .u32 r.epoch, .int .i64 r.index, .int .i64 r.saga, .int .i64 r.reply, .slice sa sm sc] 91) = W4 at he4 hv4 hh4 hr4 hd4 hF4 ⊢
  generalize w3.heap.size = R at hr4 ⊢
  have Hd4 := Lib.hid hd4
  have HF4 := Lib.hid hF4
  clear hd4 hF4
  have hcv := cellv W4
  have hfv := frozv W4
  have Hep : Hid (nextEpoch r ok = if ok && r.kind == 1 then (r.epoch + 1) % 2 ^ 32 else 1) := rfl
  generalize hee : nextEpoch r ok = ep at Hep
  have Hee := Lib.hid hee
  clear hee
  have hep : Hid (ep < 2 ^ 32) := by
    show _ < _
    rw [Hep.out]
    split
    · exact Nat.mod_lt _ (by omega)
    · omega
  have hcase : (ok = false ∧ ep = 1) ∨ (ok = true ∧ ((r.kind : Int) == 1) = false ∧ ep = 1) ∨ (ok = true ∧ ((r.kind : Int) == 1) = true ∧ ep = (r.epoch + 1) % 2 ^ 32) := by
    have := Hep.out
    cases ok
    · exact .inl ⟨rfl, this⟩
    · by_cases hk : r.kind = 1
      · exact .inr (.inr ⟨rfl, by rw [hk]; rfl, by rw [this]; simp [hk]⟩)
      · exact .inr (.inl ⟨rfl, by rw [beq_eq_false_iff_ne]; omega, by rw [this]; simp [hk]⟩)
  rcases hcase with ⟨rfl, rfl⟩ | ⟨rfl, hkB, rfl⟩ | ⟨rfl, hkB, hepe⟩
  rotate_left 2
  have h5 : (W4.setCell ⟨E + 1 + 1, 1, none⟩ (.int .u32 (((r.epoch : Int) + 1) % 4294967296))).heap[E + 1 + 1]? = some (.cells #[.int .u8 1, .int .u32 ep, .int .i64 0, .int .i64 0, .int .i64 0, .slice none 0 0] 91 (0, 0)) := by
    rw [hp_setCell, if_pos rfl, hh4, hepe]; simp
  have h5e : (W4.setCell ⟨E + 1 + 1, 1, none⟩ (.int .u32 (((r.epoch : Int) + 1) % 4294967296))).heap[E]? = some (.cells #[.nilIface] 32 (0, 0)) := by
    rw [hp_setCell, if_neg (by omega)]; exact he4
  have h5v : (W4.setCell ⟨E + 1 + 1, 1, none⟩ (.int .u32 (((r.epoch : Int) + 1) % 4294967296))).heap[E + 1]? = some (.cells #[.iface 27 (.pointer (some ⟨db, 0, none⟩))] 130 (0, 0)) := by
    rw [hp_setCell, if_neg (by omega)]; exact hv4
  have Hd5 := Lib.hid (Hd4.out.frame (Fr.one (E + 1 + 1) W4 1 (.int .u32 (((r.epoch : Int) + 1) % 4294967296))) (by rintro k rfl; exact ⟨HEd.out.2.2, HEb.out.2.2, _, hh4, by simp [kindOf]⟩))
  have HF5 := Lib.hid (HF4.out.setCell (b := E + 1 + 1) (fun h => absurd h (by rw [HE.out]; omega)) 1 (.int .u32 (((r.epoch : Int) + 1) % 4294967296)))
  clear Hd4 HF4 hepe
  rotate_left 1
  all_goals go_upto_region 7 with fail
  rotate_left 2
  generalize W4.setCell ⟨E + 1 + 1, 1, none⟩ (.int .u32 (((r.epoch : Int) + 1) % 4294967296)) = W5 at h5 h5e h5v Hd5 HF5 ⊢
  clear he4 hv4 hh4 hr4 hcv hfv
  have hh4 := h5
  have he4 := h5e
  have hv4 := h5v
  have Hd4 := Hd5
  have HF4 := HF5
  have hcv := cellv W5
  have hfv := frozv W5
  clear h5 h5e h5v Hd5 HF5
  all_goals
    have hd0 : Hid (d.count.pend = none) := Hp
    go_upto_region 8 with (first
      | (go_at_call 178; refine Calls.mono (Flush_calls Hd4.out) ?_; rintro e w6 ⟨hf6, ⟨hb6, _⟩ | ⟨hb6, rfl, hd6⟩⟩; (rw [Hq.out.count.bad] at hb6; cases hb6))
      | (go_at_call 71; refine Calls.mono (check_ok w6) ?_; rintro e w7 ⟨rfl, rfl⟩)
      | fail)
    have he6 := hf6.get he4 (HS.out E (by rw [HE.out]; exact Nat.le_refl _))
    have hv6 := hf6.get hv4 (HS.out (E + 1) (by rw [HE.out]; omega))
    have hh6 := hf6.get hh4 (HS.out (E + 1 + 1) (by rw [HE.out]; omega))
    have HF6 := Lib.hid (HF4.out.trans hf6)
    have Hd6 := Lib.hid hd6
    have H06 : Hid (0 < d.count.flush.blocks.length) := by
      have h0 := H0.out
      show 0 < (match d.pend with | some (i, b) => d.blocks.set i b | none => d.blocks).length
      rw [Hp.out]
      exact h0
    clear hcv hfv he4 hv4 hh4 Hd4 HF4 hf6 hd6
    have hcv := cellvd w7
    go_region_law (first
      | (go_simp; go_at_call 96; refine Calls.mono (bytes_head w7.drew 1 _ 0 0 0 (by decide) hep.out (by decide) (by decide) (by decide) (.slice none 0 0) (by rfl)) ?_; rintro e w8 ⟨nb, rfl, hnb, hwc, hf8⟩; have hcv8 := cellv w8; have hv8 := hf8.get (w := w7.drew) hv6 (fun f => f))
      | (go_simp; go_at_call 95; refine Calls.mono (sure_quiet (Hd6.out.new ((Fr.refl _ _).drew.trans hf8)) Hq.out.count.flush 0 H06.out rfl nb _ (recB_len1 _ (show (1:Nat) ≠ 2 by decide)) hwc) ?_; rintro e w9 ⟨rfl, hf9, hd9⟩)
      | fail)
    all_goals
      have he9 := hf9.get (hf8.get (w := w7.drew) he6 (fun f => f)) (HS.out E (by rw [HE.out]; exact Nat.le_refl _))
      have HF9 := Lib.hid ((HF6.out.drew.trans (hf8.mono (fun _ _ f => f.elim))).trans hf9)
      have Hd9 := Lib.hid hd9
      clear hcv hf9 hf8 hwc hv6 hh6 he6 hd9 hcv8 hv8
      have hcv := cellv w9
      have hfv := frozv w9
      go_wp2_with fail
      refine leaves_cons (f := 116) (args := #[.pointer (some ⟨E, 0, none⟩)]) (by simp) (by simp [go_sem]) ?_
      refine (idle116 _ _).mono ?_
      rintro e u' w'' ⟨rfl, rfl, rfl⟩
      have hsome : (w9.setCell ⟨E, 0, none⟩ Value.nilIface).cell? ⟨E, 0, none⟩ = some .nilIface := by rw [cellv, hp_setCell, if_pos rfl, he9]; rfl
      refine ⟨.nilIface, ?_, rfl, HF9.out.setCell (b := E) (fun h => absurd h (by rw [HE.out]; omega)) 0 .nilIface, ?_⟩
      · simp [results, Tryz.results92, go_sem, hsome]
      · rw [Hee.out]
        exact Hd9.out.frame (Fr.one E w9 0 .nilIface) (by rintro k rfl; exact ⟨HEd.out.1, HEb.out.1, _, he9, by simp [kindOf]⟩)
end Go.Proofs.YtkafmfdipmhleaaGreatDoor
