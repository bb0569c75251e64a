/-
  What is proved: contracts of a device that throws its errors: check, read, sure; failed and the deferred closures where nothing was thrown. the contract of journal.Format, on a disk that tells no errors. contracts of the journal's Room and Settle, on a disk that tells no errors. the contract of the journal's Append's parts, on a disk that tells no errors. the contract of the journal's Append, on a disk that tells no errors. contracts of the engine's small calls: fail, fits, Format, write. the engine asks its partner.
-/
import Derived.Test.YtkafmfdipmhleaaGreatDoorRa4
import Derived.Handy
import Derived.Defers
import Derived.Recover
import Derived.Deep.DeepCutAuto
import Derived.Deep.QuietTactic
import Derived.BigQuiet
import Derived.Deep.RegionHeld3

namespace Go.Proofs.YtkafmfdipmhleaaGreatDoor
open Go.RowKit

def devStr : ByteArray := ⟨#[100, 101, 118, 105, 99, 101]⟩
def faultCells (op : ByteArray) (e : Int) : Array Value := #[.string op, .iface 55 (.int .i64 e)]
def vol (db : Nat) : Value := .agg #[.iface 27 (.pointer (some ⟨db, 0, none⟩))]

theorem check_ok (w : World) : Calls Tryz.prog 71 #[.nilIface] w fun e w' => e = .returned (.tuple #[]) ∧ w' = w := by
  go_enter Tryz.func71, Tryz.ntmps71
  go_wp2
  go_end0
  exact ⟨rfl, rfl⟩
theorem check_bad (w : World) (n : Int) : Calls Tryz.prog 71 #[.iface 55 (.int .i64 n)] w fun e w' => e = .panicked [{ v := .iface 121 (.pointer (some ⟨w.heap.size, 0, none⟩)), recovered := false }] ∧ w' = w.alloc (.cells (faultCells devStr n) 123) := by
  go_enter Tryz.func71, Tryz.ntmps71
  go_wp2
  refine ⟨rfl, ?_⟩
  exact ⟨rfl, rfl⟩
/-- A device's error, thrown. -/
def Thrown (w : World) (e : Ending) (w' : World) : Prop := ∃ fb, w.heap.size ≤ fb ∧ e = .panicked [{ v := .iface 121 (.pointer (some ⟨fb, 0, none⟩)), recovered := false }] ∧ w'.heap[fb]? = some (.cells (faultCells devStr 5) 123 (0, 0))
def VReadPost (w : World) (db bb : Nat) (d : DiskM) (i : Nat) (e : Ending) (w' : World) : Prop :=
  DiskAt w' db bb d.count ∧ Fr (· = db) w w' ∧
    (d.bad = true ∧ Thrown w e w' ∨
     d.bad = false ∧ ∃ g, w.heap.size ≤ g ∧ e = .returned (.slice (some ⟨g, 0, none⟩) 128 128) ∧ w'.heap[g]? = some (.cells ((d.look i).map bv).toArray 5 (0, 0)))
set_option maxHeartbeats 1000000 in
theorem read_calls {w : World} {db bb : Nat} {d : DiskM} (h : DiskAt w db bb d) (i : Nat) (hi : i < d.blocks.length) :
    Calls Tryz.prog 105 #[vol db, .int .i64 i] w (VReadPost w db bb d i) := by
  unfold vol
  have h1 := h.new ((Fr.refl _ w).alloc (.cells #[.iface 27 (.pointer (some ⟨db, 0, none⟩))] 130))
  go_enter Tryz.func105, Tryz.ntmps105
  go_wp2_with (go_at_call 179; refine Calls.mono (Read_calls h1 i hi) ?_; rintro e w1 ⟨hd1, hf1, ⟨hb, rfl⟩ | ⟨hb, g, hg, rfl, hc⟩⟩)
  · refine Calls.mono (check_bad w1 5) ?_
    rintro e w2 ⟨rfl, rfl⟩
    refine ⟨rfl, ?_⟩
    exact ⟨hd1.new ((Fr.refl _ _).alloc _), (((Fr.refl _ w).alloc _).trans' hf1 (fun _ _ e => e)).alloc _, .inl ⟨hb, w1.heap.size, Nat.le_trans (by simp) hf1.size, rfl, heap_alloc_new w1 _⟩⟩
  · refine Calls.mono (check_ok w1) ?_
    rintro e w2 ⟨rfl, rfl⟩
    go_wp2
    go_ret
    exact ⟨hd1, (((Fr.refl _ w).alloc _).trans' hf1 (fun _ _ e => e)), .inr ⟨hb, g, Nat.le_trans (by simp) hg, rfl, hc⟩⟩

/-- What sure does: written and flushed; or thrown in between. -/
def SurePost (w : World) (db bb : Nat) (d : DiskM) (i : Nat) (l : List UInt8) (e : Ending) (w' : World) : Prop :=
  Fr (fun k => k = db ∨ k = bb) w w' ∧
    (d.bad = true ∧ Thrown w e w' ∧ DiskAt w' db bb d.count ∨
     d.bad = false ∧ (d.put i l).bad = true ∧ Thrown w e w' ∧ DiskAt w' db bb (d.put i l).count ∨
     d.bad = false ∧ (d.put i l).bad = false ∧ e = .returned (.tuple #[]) ∧ DiskAt w' db bb (d.put i l).flush)
set_option maxRecDepth 100000 in
set_option maxHeartbeats 1000000 in
theorem sure_calls {w : World} {db bb : Nat} {d : DiskM} (h : DiskAt w db bb d) (i : Nat) (hi : i < d.blocks.length) (hp : d.pend = none) (sb so n scap : Nat) (l : List UInt8) (hn : n = l.length) (hl : l.length ≤ 128) (sc : Array Value) (st : TypeId)
    (hs : w.heap[sb]? = some (.cells sc st (0, 0))) (hst : st ≠ 102) (hsc : ∀ j, j < l.length → sc[so + j]? = some (bv (l.getD j 0))) :
    Calls Tryz.prog 95 #[vol db, .int .i64 i, .slice (some ⟨sb, so, none⟩) n scap] w (SurePost w db bb d i l) := by
  unfold vol
  have h1 := h.new ((Fr.refl _ w).alloc (.cells #[.iface 27 (.pointer (some ⟨db, 0, none⟩))] 130))
  have hs1 := heap_alloc_keep (.cells #[.iface 27 (.pointer (some ⟨db, 0, none⟩))] 130) hs
  have hv := heap_alloc_new w (.cells #[.iface 27 (.pointer (some ⟨db, 0, none⟩))] 130)
  have hF1 : Fr (fun k => k = db ∨ k = bb) w (w.alloc (.cells #[.iface 27 (.pointer (some ⟨db, 0, none⟩))] 130)) := (Fr.refl _ w).alloc _
  have hvd : w.heap.size ≠ db := by
    obtain ⟨_, cap, rest, cv, h1, _⟩ := h
    have := lt_of_hp h1
    omega
  have HW := Lib.hid (Write_calls h1 i hi hp sb so n scap l hn hl sc st hs1 hst hsc)
  clear h1 hs1 hsc hn hl hst hs h hi hp
  go_enter Tryz.func95, Tryz.ntmps95
  go_wp2_with (first
    | (go_at_call 180; refine Calls.mono HW.out ?_; rintro e w1 ⟨hf1, ⟨hb, rfl, hd1⟩ | ⟨hb, rfl, hd1⟩⟩)
    | fail)
  · refine Calls.mono (check_bad w1 5) ?_
    rintro e w2 ⟨rfl, rfl⟩
    refine ⟨rfl, ?_⟩
    exact ⟨(hF1.trans' hf1 (fun _ _ e => .inl e)).alloc _, .inl ⟨hb, ⟨w1.heap.size, Nat.le_trans (by simp) hf1.size, rfl, heap_alloc_new w1 _⟩, hd1.new ((Fr.refl _ _).alloc _)⟩⟩
  · refine Calls.mono (check_ok w1) ?_
    rintro e w2 ⟨rfl, rfl⟩
    have hv1 := hf1.get hv hvd
    have hcv1 := cellv w2
    go_wp2_with (first
      | (go_at_call 178; refine Calls.mono (Flush_calls hd1) ?_; rintro e w3 ⟨hf3, ⟨hb3, rfl, hd3⟩ | ⟨hb3, rfl, hd3⟩⟩)
      | fail)
    · refine Calls.mono (check_bad w3 5) ?_
      rintro e w4 ⟨rfl, rfl⟩
      refine ⟨rfl, ?_⟩
      exact ⟨((hF1.trans' hf1 (fun _ _ e => .inl e)).trans hf3).alloc _, .inr (.inl ⟨hb, hb3, ⟨w3.heap.size, Nat.le_trans (by simp) (Nat.le_trans hf1.size hf3.size), rfl, heap_alloc_new w3 _⟩, hd3.new ((Fr.refl _ _).alloc _)⟩)⟩
    · refine Calls.mono (check_ok w3) ?_
      rintro e w4 ⟨rfl, rfl⟩
      go_wp2
      go_end0
      exact ⟨(hF1.trans' hf1 (fun _ _ e => .inl e)).trans hf3, .inr (.inr ⟨hb, hb3, rfl, hd3⟩)⟩

/-! ### Where nothing was thrown -/
theorem failed_nil (w : World) (op : ByteArray) (p : Value) : Calls Tryz.prog 70 #[.nilIface, .string op, p] w fun e w' => e = .returned (.tuple #[]) ∧ w' = w := by
  go_enter Tryz.func70, Tryz.ntmps70
  go_wp2
  go_end0
  exact ⟨rfl, rfl⟩
theorem idle69 (p : Value) (w : World) : CallsD Tryz.prog 69 #[p] .returning w fun e u' w' => e = .returned (.tuple #[]) ∧ u' = .returning ∧ w' = w := by
  refine callsD_of_wpS Tryz.func69 rfl fun c₀ cs hu => ?_
  apply wpS_region
  simp [wpOpsS, go_sem, recoverD, hu, Tryz.ntmps69]
  refine Calls.mono (failed_nil w _ p) ?_
  rintro e w' ⟨rfl, rfl⟩
  cases c₀
  simp_all [bodyPostS, results, Tryz.results69]
theorem idle94 (p : Value) (w : World) : CallsD Tryz.prog 94 #[p] .returning w fun e u' w' => e = .returned (.tuple #[]) ∧ u' = .returning ∧ w' = w := by
  refine callsD_of_wpS Tryz.func94 rfl fun c₀ cs hu => ?_
  apply wpS_region
  simp [wpOpsS, go_sem, recoverD, hu, Tryz.ntmps94]
  refine Calls.mono (failed_nil w _ p) ?_
  rintro e w' ⟨rfl, rfl⟩
  cases c₀
  simp_all [bodyPostS, results, Tryz.results94]
theorem idle103 (p : Value) (w : World) : CallsD Tryz.prog 103 #[p] .returning w fun e u' w' => e = .returned (.tuple #[]) ∧ u' = .returning ∧ w' = w := by
  refine callsD_of_wpS Tryz.func103 rfl fun c₀ cs hu => ?_
  apply wpS_region
  simp [wpOpsS, go_sem, recoverD, hu, Tryz.ntmps103]
  refine Calls.mono (failed_nil w _ p) ?_
  rintro e w' ⟨rfl, rfl⟩
  cases c₀
  simp_all [bodyPostS, results, Tryz.results103]
theorem idle116 (p : Value) (w : World) : CallsD Tryz.prog 116 #[p] .returning w fun e u' w' => e = .returned (.tuple #[]) ∧ u' = .returning ∧ w' = w := by
  refine callsD_of_wpS Tryz.func116 rfl fun c₀ cs hu => ?_
  apply wpS_region
  simp [wpOpsS, go_sem, recoverD, hu, Tryz.ntmps116]
  refine Calls.mono (failed_nil w _ p) ?_
  rintro e w' ⟨rfl, rfl⟩
  cases c₀
  simp_all [bodyPostS, results, Tryz.results116]
end Go.Proofs.YtkafmfdipmhleaaGreatDoor

namespace Go.Proofs.YtkafmfdipmhleaaGreatDoor
open Go.RowKit

theorem hp_alloc_ne {w : World} {x : Obj} {k : Nat} (h : k ≠ w.heap.size) : (w.alloc x).heap[k]? = w.heap[k]? := by rw [hp_alloc, if_neg h]
theorem cellvd (w : World) (b o : Nat) : w.drew.cell? ⟨b, o, none⟩ = cellOf w.heap[b]? o := cellv w b o
theorem frozvd (w : World) (b o : Nat) : w.drew.frozen? ⟨b, o, none⟩ = frozOf w.heap[b]? o := frozv w b o
/-- A disk that tells no errors. -/
def DiskM.quiet (d : DiskM) : Prop := d.off < 0 ∧ d.to ≤ d.fr
theorem DiskM.quiet.bad {d : DiskM} (h : d.quiet) : d.bad = false := by
  obtain ⟨h1, h2⟩ := h
  unfold DiskM.bad
  simp
  omega
theorem DiskM.quiet.count {d : DiskM} (h : d.quiet) : d.count.quiet := h
theorem DiskM.quiet.put {d : DiskM} (h : d.quiet) (i : Nat) (l : List UInt8) : (d.put i l).quiet := h
theorem DiskM.quiet.flush {d : DiskM} (h : d.quiet) : d.flush.quiet := h

def recBytes (r : RecM) : List UInt8 := (recB r).take (endOf r)
def DiskM.sure (d : DiskM) (i : Nat) (l : List UInt8) : DiskM := (d.put i l).flush

/-- Read and sure, on a disk that tells no errors. -/
def QReadPost (w : World) (db bb : Nat) (d : DiskM) (i : Nat) (e : Ending) (w' : World) : Prop :=
  ∃ g, w.heap.size ≤ g ∧ e = .returned (.slice (some ⟨g, 0, none⟩) 128 128) ∧ w'.heap[g]? = some (.cells ((d.look i).map bv).toArray 5 (0, 0)) ∧ DiskAt w' db bb d.count ∧ Fr (· = db) w w'
theorem read_quiet {w : World} {db bb : Nat} {d : DiskM} (h : DiskAt w db bb d) (hq : d.quiet) (i : Nat) (hi : i < d.blocks.length) :
    Calls Tryz.prog 105 #[vol db, .int .i64 i] w (QReadPost w db bb d i) := by
  refine Calls.mono (read_calls h i hi) ?_
  rintro e w2 ⟨hd2, hf2, ⟨hb, _⟩ | ⟨hb, g, hg, rfl, hgc⟩⟩
  · rw [hq.bad] at hb; cases hb
  · exact ⟨g, hg, rfl, hgc, hd2, hf2⟩
theorem wrAt_len (l : List UInt8) (p : Nat) (x : List UInt8) (h : p + x.length ≤ l.length) : (wrAt l p x).length = l.length := by
  simp [wrAt]; omega
theorem sure_quiet {w : World} {db bb : Nat} {d : DiskM} (h : DiskAt w db bb d) (hq : d.quiet) (i : Nat) (hi : i < d.blocks.length) (hp : d.pend = none) (nb : Nat) (r : RecM) (hr : (recB r).length = 128)
    (hs : w.heap[nb]? = some (.cells (wayCells (recB r) 4) 201 (0, 0))) :
    Calls Tryz.prog 95 #[vol db, .int .i64 i, .slice (some ⟨nb, 0, none⟩) (endOf r) (endOf r)] w fun e w' => e = .returned (.tuple #[]) ∧ Fr (fun k => k = db ∨ k = bb) w w' ∧ DiskAt w' db bb (d.sure i (recBytes r)) := by
  have hl : (recBytes r).length = endOf r := by
    unfold recBytes endOf; simp [hr]; split <;> omega
  have he : endOf r ≤ 128 := by unfold endOf; split <;> omega
  refine Calls.mono (sure_calls h i hi hp nb 0 (endOf r) (endOf r) (recBytes r) hl.symm (by omega) _ 201 hs (by decide) ?_) ?_
  · intro j hj
    rw [Nat.zero_add, way_byte _ _ _ (by omega)]
    simp only [recBytes, List.getD_eq_getElem?_getD]
    rw [List.getElem?_take_of_lt (by omega)]
  · rintro e w' ⟨hf, ⟨hb, _⟩ | ⟨_, hb, _⟩ | ⟨_, _, rfl, hd⟩⟩
    · rw [hq.bad] at hb; cases hb
    · rw [(hq.put i _).bad] at hb; cases hb
    · exact ⟨rfl, hf, hd⟩

theorem recB_len (r : RecM) (h : 4 + (bodyB r).length ≤ 128) : (recB r).length = 128 := by
  have h1 : (baseB r).length = 128 := by
    unfold baseB
    rw [wrAt_len _ _ _ (by simpa [zeros] using h)]
    simp [zeros]
  unfold recB
  rw [wrAt_len _ _ _ (by simp [leN_length, h1]), h1]
theorem recB_len1 (r : RecM) (h : r.kind ≠ 2) : (recB r).length = 128 := by
  refine recB_len r ?_
  simp [bodyB, headB, h, leN_length]

def nextEpoch (r : RecM) (ok : Bool) : Nat := if ok && r.kind == 1 then (r.epoch + 1) % 2 ^ 32 else 1
def DiskM.format (d : DiskM) (ep : Nat) : DiskM := d.count.flush.sure 0 (recBytes ⟨1, ep, 0, 0, 0, []⟩)

def FmtPost (w : World) (db bb : Nat) (d : DiskM) (ep : Nat) (e : Ending) (w' : World) : Prop :=
  e = .returned .nilIface ∧ Fr (fun k => k = db ∨ k = bb) w w' ∧ DiskAt w' db bb (d.format ep)
set_option maxRecDepth 100000 in
set_option maxHeartbeats 2000000 in
theorem jFormat_calls {w : World} {db bb : Nat} {d : DiskM} (h : DiskAt w db bb d) (hq : d.quiet) (hp : d.pend = none) (h0 : 0 < d.blocks.length) (r : RecM) (ok : Bool) (hpm : parseM (d.look 0) = some (r, ok)) :
    Calls Tryz.prog 92 #[.iface 27 (.pointer (some ⟨db, 0, none⟩))] w (FmtPost w db bb d (nextEpoch r ok)) := by
  have hmf : ∀ (fn : Fn) (first cap : Array Value) (w : World), (Instr.makeFunc fn first cap).run Tryz.prog w = .ok (.func fn first cap) w := fun _ _ _ _ => rfl
  have hlk := DiskM.look_length h.wf h0
  have Hq := Lib.hid hq
  have Hp := Lib.hid hp
  have H0 := Lib.hid h0
  have Hpm := Lib.hid hpm
  have Hlk := Lib.hid hlk
  have Hd := Lib.hid h
  clear h hq hp h0 hpm hlk
  go_enter_defers Tryz.func92, Tryz.ntmps92
  go_upto_region 4 with fail
  have hd1 : DiskAt (((w.alloc (.cells #[.nilIface] 32)).alloc (.cells #[.iface 27 (.pointer (some ⟨db, 0, none⟩))] 130)).alloc (.cells #[.int .u8 1, .int .u32 1, .int .i64 0, .int .i64 0, .int .i64 0, .slice none 0 0] 91)) db bb d := Hd.out.new ((((Fr.refl _ w).alloc _).alloc _).alloc _)
  have hF1 : New w (((w.alloc (.cells #[.nilIface] 32)).alloc (.cells #[.iface 27 (.pointer (some ⟨db, 0, none⟩))] 130)).alloc (.cells #[.int .u8 1, .int .u32 1, .int .i64 0, .int .i64 0, .int .i64 0, .slice none 0 0] 91)) := (((Fr.refl _ w).alloc _).alloc _).alloc _
  have he := heap_alloc_keep (.cells #[.int .u8 1, .int .u32 1, .int .i64 0, .int .i64 0, .int .i64 0, .slice none 0 0] 91) (heap_alloc_keep (.cells #[.iface 27 (.pointer (some ⟨db, 0, none⟩))] 130) (heap_alloc_new w (.cells #[.nilIface] 32)))
  have hv := heap_alloc_keep (.cells #[.int .u8 1, .int .u32 1, .int .i64 0, .int .i64 0, .int .i64 0, .slice none 0 0] 91) (heap_alloc_new (w.alloc (.cells #[.nilIface] 32)) (.cells #[.iface 27 (.pointer (some ⟨db, 0, none⟩))] 130))
  have hh := heap_alloc_new ((w.alloc (.cells #[.nilIface] 32)).alloc (.cells #[.iface 27 (.pointer (some ⟨db, 0, none⟩))] 130)) (.cells #[.int .u8 1, .int .u32 1, .int .i64 0, .int .i64 0, .int .i64 0, .slice none 0 0] 91)
  rw [sz_alloc] at hv hh
  rw [sz_alloc] at hh
  have hdl : db < w.heap.size ∧ bb < w.heap.size := by
    obtain ⟨_, _, _, _, h1, h2, _⟩ := Hd.out
    exact ⟨lt_of_hp h1, lt_of_hp h2⟩
  generalize (((w.alloc (.cells #[.nilIface] 32)).alloc (.cells #[.iface 27 (.pointer (some ⟨db, 0, none⟩))] 130)).alloc (.cells #[.int .u8 1, .int .u32 1, .int .i64 0, .int .i64 0, .int .i64 0, .slice none 0 0] 91)) = W1 at hd1 hF1 he hv hh ⊢
  have hS : ∀ k, w.heap.size ≤ k → ¬ (k = db ∨ k = bb) := by intro k hk; omega
  have HS := Lib.hid hS
  have Hsz := Lib.hid (rfl : w.heap.size = w.heap.size)
  generalize hE : w.heap.size = E at he hv hh ⊢
  have HE := Lib.hid hE
  have HF1 := Lib.hid hF1
  have Hd1 := Lib.hid hd1
  clear hS hdl Hsz hE hF1 hd1
  have hcv := cellv W1
  go_upto_region 5 with (first
    | (go_at_call 105; refine Calls.mono (read_quiet Hd1.out Hq.out 0 H0.out) ?_; rintro e w2 ⟨g, hg, rfl, hgc, hd2, hf2⟩)
    | (go_at_call 104; refine Calls.mono (parse_calls w2 g _ 5 (d.look 0) r ok Hlk.out hgc (by intro j hj; simp [Hlk.out, hj]) Hpm.out) ?_; rintro e w3 ⟨sv, rfl, hsv, hf3⟩; obtain ⟨sa, sm, sc, rfl⟩ := own_slice hsv; simp only [rcells])
    | fail)
  have hEd : E ≠ db ∧ E + 1 ≠ db ∧ E + 1 + 1 ≠ db := by
    have h1 := HS.out E (by rw [HE.out]; exact Nat.le_refl _)
    have h2 := HS.out (E + 1) (by rw [HE.out]; omega)
    have h3 := HS.out (E + 1 + 1) (by rw [HE.out]; omega)
    exact ⟨fun e => h1 (.inl e), fun e => h2 (.inl e), fun e => h3 (.inl e)⟩
  have hEb : E ≠ bb ∧ E + 1 ≠ bb ∧ E + 1 + 1 ≠ bb := by
    have h1 := HS.out E (by rw [HE.out]; exact Nat.le_refl _)
    have h2 := HS.out (E + 1) (by rw [HE.out]; omega)
    have h3 := HS.out (E + 1 + 1) (by rw [HE.out]; omega)
    exact ⟨fun e => h1 (.inr e), fun e => h2 (.inr e), fun e => h3 (.inr e)⟩
  have HEd := Lib.hid hEd
  have HEb := Lib.hid hEb
  clear hEd hEb
  have he4 := heap_alloc_keep (.cells #[.int .u8 r.kind, .int .u32 r.epoch, .int .i64 r.index, .int .i64 r.saga, .int .i64 r.reply, .slice sa sm sc] 91) (hf3.get (hf2.get he HEd.out.1) (fun f => f))
  have hv4 := heap_alloc_keep (.cells #[.int .u8 r.kind, .int .u32 r.epoch, .int .i64 r.index, .int .i64 r.saga, .int .i64 r.reply, .slice sa sm sc] 91) (hf3.get (hf2.get hv HEd.out.2.1) (fun f => f))
  have hh4 := heap_alloc_keep (.cells #[.int .u8 r.kind, .int .u32 r.epoch, .int .i64 r.index, .int .i64 r.saga, .int .i64 r.reply, .slice sa sm sc] 91) (hf3.get (hf2.get hh HEd.out.2.2) (fun f => f))
  have hr4 := heap_alloc_new w3 (.cells #[.int .u8 r.kind, .int .u32 r.epoch, .int .i64 r.index, .int .i64 r.saga, .int .i64 r.reply, .slice sa sm sc] 91)
  have hd4 := hd2.new (hf3.alloc (.cells #[.int .u8 r.kind, .int .u32 r.epoch, .int .i64 r.index, .int .i64 r.saga, .int .i64 r.reply, .slice sa sm sc] 91))
  have hF4 : Fr (fun k => k = db ∨ k = bb) w (w3.alloc (.cells #[.int .u8 r.kind, .int .u32 r.epoch, .int .i64 r.index, .int .i64 r.saga, .int .i64 r.reply, .slice sa sm sc] 91)) :=
    ((HF1.out.mono (fun _ _ f => f.elim)).trans (hf2.mono (fun _ _ e => .inl e))).trans ((hf3.alloc _).mono (fun _ _ f => f.elim))
  clear hg hgc hf2 hsv hf3 hcv he hv hh hd2
  generalize w3.alloc (.cells #[.int .u8 r.kind, .int .u32 r.epoch, .int .i64 r.index, .int .i64 r.saga, .int .i64 r.reply, .slice sa sm sc] 91) = W4 at he4 hv4 hh4 hr4 hd4 hF4 ⊢
  generalize w3.heap.size = R at hr4 ⊢
  have Hd4 := Lib.hid hd4
  have HF4 := Lib.hid hF4
  clear hd4 hF4
  have hcv := cellv W4
  have hfv := frozv W4
  have Hep : Hid (nextEpoch r ok = if ok && r.kind == 1 then (r.epoch + 1) % 2 ^ 32 else 1) := rfl
  generalize hee : nextEpoch r ok = ep at Hep
  have Hee := Lib.hid hee
  clear hee
  have hep : Hid (ep < 2 ^ 32) := by
    show _ < _
    rw [Hep.out]
    split
    · exact Nat.mod_lt _ (by omega)
    · omega
  have hcase : (ok = false ∧ ep = 1) ∨ (ok = true ∧ ((r.kind : Int) == 1) = false ∧ ep = 1) ∨ (ok = true ∧ ((r.kind : Int) == 1) = true ∧ ep = (r.epoch + 1) % 2 ^ 32) := by
    have := Hep.out
    cases ok
    · exact .inl ⟨rfl, this⟩
    · by_cases hk : r.kind = 1
      · exact .inr (.inr ⟨rfl, by rw [hk]; rfl, by rw [this]; simp [hk]⟩)
      · exact .inr (.inl ⟨rfl, by rw [beq_eq_false_iff_ne]; omega, by rw [this]; simp [hk]⟩)
  rcases hcase with ⟨rfl, rfl⟩ | ⟨rfl, hkB, rfl⟩ | ⟨rfl, hkB, hepe⟩
  rotate_left 2
  have h5 : (W4.setCell ⟨E + 1 + 1, 1, none⟩ (.int .u32 (((r.epoch : Int) + 1) % 4294967296))).heap[E + 1 + 1]? = some (.cells #[.int .u8 1, .int .u32 ep, .int .i64 0, .int .i64 0, .int .i64 0, .slice none 0 0] 91 (0, 0)) := by
    rw [hp_setCell, if_pos rfl, hh4, hepe]; simp
  have h5e : (W4.setCell ⟨E + 1 + 1, 1, none⟩ (.int .u32 (((r.epoch : Int) + 1) % 4294967296))).heap[E]? = some (.cells #[.nilIface] 32 (0, 0)) := by
    rw [hp_setCell, if_neg (by omega)]; exact he4
  have h5v : (W4.setCell ⟨E + 1 + 1, 1, none⟩ (.int .u32 (((r.epoch : Int) + 1) % 4294967296))).heap[E + 1]? = some (.cells #[.iface 27 (.pointer (some ⟨db, 0, none⟩))] 130 (0, 0)) := by
    rw [hp_setCell, if_neg (by omega)]; exact hv4
  have Hd5 := Lib.hid (Hd4.out.frame (Fr.one (E + 1 + 1) W4 1 (.int .u32 (((r.epoch : Int) + 1) % 4294967296))) (by rintro k rfl; exact ⟨HEd.out.2.2, HEb.out.2.2, _, hh4, by simp [kindOf]⟩))
  have HF5 := Lib.hid (HF4.out.setCell (b := E + 1 + 1) (fun h => absurd h (by rw [HE.out]; omega)) 1 (.int .u32 (((r.epoch : Int) + 1) % 4294967296)))
  clear Hd4 HF4 hepe
  rotate_left 1
  all_goals go_upto_region 7 with fail
  rotate_left 2
  generalize W4.setCell ⟨E + 1 + 1, 1, none⟩ (.int .u32 (((r.epoch : Int) + 1) % 4294967296)) = W5 at h5 h5e h5v Hd5 HF5 ⊢
  clear he4 hv4 hh4 hr4 hcv hfv
  have hh4 := h5
  have he4 := h5e
  have hv4 := h5v
  have Hd4 := Hd5
  have HF4 := HF5
  have hcv := cellv W5
  have hfv := frozv W5
  clear h5 h5e h5v Hd5 HF5
  all_goals
    have hd0 : Hid (d.count.pend = none) := Hp
    go_upto_region 8 with (first
      | (go_at_call 178; refine Calls.mono (Flush_calls Hd4.out) ?_; rintro e w6 ⟨hf6, ⟨hb6, _⟩ | ⟨hb6, rfl, hd6⟩⟩; (rw [Hq.out.count.bad] at hb6; cases hb6))
      | (go_at_call 71; refine Calls.mono (check_ok w6) ?_; rintro e w7 ⟨rfl, rfl⟩)
      | fail)
    have he6 := hf6.get he4 (HS.out E (by rw [HE.out]; exact Nat.le_refl _))
    have hv6 := hf6.get hv4 (HS.out (E + 1) (by rw [HE.out]; omega))
    have hh6 := hf6.get hh4 (HS.out (E + 1 + 1) (by rw [HE.out]; omega))
    have HF6 := Lib.hid (HF4.out.trans hf6)
    have Hd6 := Lib.hid hd6
    have H06 : Hid (0 < d.count.flush.blocks.length) := by
      have h0 := H0.out
      show 0 < (match d.pend with | some (i, b) => d.blocks.set i b | none => d.blocks).length
      rw [Hp.out]
      exact h0
    clear hcv hfv he4 hv4 hh4 Hd4 HF4 hf6 hd6
    have hcv := cellvd w7
    go_region_law (first
      | (go_simp; go_at_call 96; refine Calls.mono (bytes_head w7.drew 1 _ 0 0 0 (by decide) hep.out (by decide) (by decide) (by decide) (.slice none 0 0) (by rfl)) ?_; rintro e w8 ⟨nb, rfl, hnb, hwc, hf8⟩; have hcv8 := cellv w8; have hv8 := hf8.get (w := w7.drew) hv6 (fun f => f))
      | (go_simp; go_at_call 95; refine Calls.mono (sure_quiet (Hd6.out.new ((Fr.refl _ _).drew.trans hf8)) Hq.out.count.flush 0 H06.out rfl nb _ (recB_len1 _ (show (1:Nat) ≠ 2 by decide)) hwc) ?_; rintro e w9 ⟨rfl, hf9, hd9⟩)
      | fail)
    all_goals
      have he9 := hf9.get (hf8.get (w := w7.drew) he6 (fun f => f)) (HS.out E (by rw [HE.out]; exact Nat.le_refl _))
      have HF9 := Lib.hid ((HF6.out.drew.trans (hf8.mono (fun _ _ f => f.elim))).trans hf9)
      have Hd9 := Lib.hid hd9
      clear hcv hf9 hf8 hwc hv6 hh6 he6 hd9 hcv8 hv8
      have hcv := cellv w9
      have hfv := frozv w9
      go_wp2_with fail
      refine leaves_cons (f := 116) (args := #[.pointer (some ⟨E, 0, none⟩)]) (by simp) (by simp [go_sem]) ?_
      refine (idle116 _ _).mono ?_
      rintro e u' w'' ⟨rfl, rfl, rfl⟩
      have hsome : (w9.setCell ⟨E, 0, none⟩ Value.nilIface).cell? ⟨E, 0, none⟩ = some .nilIface := by rw [cellv, hp_setCell, if_pos rfl, he9]; rfl
      refine ⟨.nilIface, ?_, rfl, HF9.out.setCell (b := E) (fun h => absurd h (by rw [HE.out]; omega)) 0 .nilIface, ?_⟩
      · simp [results, Tryz.results92, go_sem, hsome]
      · rw [Hee.out]
        exact Hd9.out.frame (Fr.one E w9 0 .nilIface) (by rintro k rfl; exact ⟨HEd.out.1, HEb.out.1, _, he9, by simp [kindOf]⟩)
end Go.Proofs.YtkafmfdipmhleaaGreatDoor

namespace Go.Proofs.YtkafmfdipmhleaaGreatDoor
open Go.RowKit

structure JnM where
  epoch : Nat
  en : Nat
  fresh : Bool
def jnCells (db : Nat) (j : JnM) : Array Value := #[.iface 27 (.pointer (some ⟨db, 0, none⟩)), .int .u32 j.epoch, .int .i64 j.en, .bool j.fresh]
def JnAt (w : World) (jb db : Nat) (j : JnM) : Prop := w.heap[jb]? = some (.cells (jnCells db j) 132 (0, 0))

set_option maxHeartbeats 1000000 in
theorem Room_calls {w : World} {jb db bb : Nat} {j : JnM} {d : DiskM} (hj : JnAt w jb db j) (h : DiskAt w db bb d) :
    Calls Tryz.prog 45 #[.pointer (some ⟨jb, 0, none⟩)] w fun e w' => e = .returned (.int .i64 (wrap64 ((d.blocks.length : Int) - j.en))) ∧ w' = w.drew := by
  have hB : Calls Tryz.prog 177 #[.pointer (some ⟨db, 0, none⟩)] w.drew fun e w' => e = .returned (.int .i64 d.blocks.length) ∧ w.drew = w' := Blocks_calls (h.new ((Fr.refl _ w).drew))
  unfold JnAt jnCells at hj
  have HB := Lib.hid hB
  clear hB h
  have hcv := cellvd w
  go_enter Tryz.func45, Tryz.ntmps45
  go_wp2_with fail
  go_region_law (first
    | (go_simp; go_invoke; go_simp; go_at_call 177; refine Calls.mono HB.out ?_; rintro e w2 ⟨rfl, rfl⟩)
    | fail)
  all_goals
    go_wp2_with fail
    go_ret
    refine ⟨by simp [go_sem, wrap64, IntKind.wrap_i64], rfl⟩

def settleD (j : JnM) (d : DiskM) : DiskM := if j.fresh then d.flush else d
def SettlePost (w : World) (jb db bb : Nat) (j : JnM) (d : DiskM) (e : Ending) (w' : World) : Prop :=
  e = .returned .nilIface ∧ Fr (fun k => k = db ∨ k = bb ∨ k = jb) w w' ∧ DiskAt w' db bb (settleD j d) ∧ JnAt w' jb db { j with fresh := false }
theorem jn_ne {w : World} {jb db bb : Nat} {j : JnM} {d : DiskM} (hj : JnAt w jb db j) (h : DiskAt w db bb d) : jb ≠ db ∧ jb ≠ bb := by
  obtain ⟨_, _, _, _, h1, h2, _⟩ := h
  exact ⟨ne_of_kind hj h1 (by simp [kindOf]), ne_of_kind hj h2 (by simp [kindOf])⟩
theorem disk_lt {w : World} {db bb : Nat} {d : DiskM} (h : DiskAt w db bb d) : db < w.heap.size ∧ bb < w.heap.size := by
  obtain ⟨_, _, _, _, h1, h2, _⟩ := h
  exact ⟨lt_of_hp h1, lt_of_hp h2⟩
set_option maxRecDepth 100000 in
set_option maxHeartbeats 2000000 in
theorem Settle_calls {w : World} {jb db bb : Nat} {j : JnM} {d : DiskM} (hj : JnAt w jb db j) (h : DiskAt w db bb d) (hq : d.quiet) :
    Calls Tryz.prog 50 #[.pointer (some ⟨jb, 0, none⟩)] w (SettlePost w jb db bb j d) := by
  have hmf : ∀ (fn : Fn) (first cap : Array Value) (w : World), (Instr.makeFunc fn first cap).run Tryz.prog w = .ok (.func fn first cap) w := fun _ _ _ _ => rfl
  have hne := jn_ne hj h
  have hlt := disk_lt h
  have hjl := lt_of_hp hj
  have hd1 := h.new ((Fr.refl _ w).alloc (.cells #[.nilIface] 32))
  have hj1 := heap_alloc_keep (.cells #[.nilIface] 32) hj
  have he1 := heap_alloc_new w (.cells #[.nilIface] 32)
  have hF1 : Fr (fun k => k = db ∨ k = bb ∨ k = jb) w (w.alloc (.cells #[.nilIface] 32)) := (Fr.refl _ w).alloc _
  have Hq := Lib.hid hq
  have Hs : Hid (settleD j d = if j.fresh then d.flush else d) := rfl
  obtain ⟨ep, en, fresh⟩ := j
  go_enter_defers Tryz.func50, Tryz.ntmps50
  go_upto_region 2 with fail
  have HE : Hid (w.heap.size ≠ db ∧ w.heap.size ≠ bb ∧ w.heap.size ≠ jb ∧ ¬ w.heap.size < w.heap.size) := ⟨by omega, by omega, by omega, by omega⟩
  have Hne := Lib.hid hne
  have HF1 := Lib.hid hF1
  have Hd1 := Lib.hid hd1
  clear h hj hne hlt hjl hd1 hF1 hq
  generalize w.alloc (.cells #[.nilIface] 32) = W1 at hj1 he1 HF1 Hd1 ⊢
  have HEl := Lib.hid (rfl : w.heap.size = w.heap.size)
  generalize hE : w.heap.size = E at he1 HE ⊢
  have HEe := Lib.hid hE
  clear hE HEl
  unfold jnCells at hj1
  simp only at hj1
  have hcv := cellv W1
  have hfv := frozv W1
  cases fresh
  · go_wp2_with fail
    refine leaves_cons (f := 69) (args := #[.pointer (some ⟨E, 0, none⟩)]) (by simp) (by simp [go_sem]) ?_
    refine (idle69 _ _).mono ?_
    rintro e u' w'' ⟨rfl, rfl, rfl⟩
    have hsome : (W1.setCell ⟨E, 0, none⟩ Value.nilIface).cell? ⟨E, 0, none⟩ = some .nilIface := by rw [cellv, hp_setCell, if_pos rfl, he1]; rfl
    refine ⟨.nilIface, ?_, rfl, HF1.out.setCell (b := E) (fun h => absurd h (by rw [HEe.out]; omega)) 0 .nilIface, ?_, ?_⟩
    · simp [results, Tryz.results50, go_sem, hsome]
    · exact Hd1.out.frame (Fr.one E W1 0 .nilIface) (by rintro k rfl; exact ⟨HE.out.1, HE.out.2.1, _, he1, by simp [kindOf]⟩)
    · unfold JnAt
      rw [hp_setCell, if_neg (Ne.symm HE.out.2.2.1)]; exact hj1
  · go_upto_region 4 with (first
      | (go_at_call 178; refine Calls.mono (Flush_calls Hd1.out) ?_; rintro e w6 ⟨hf6, ⟨hb6, _⟩ | ⟨hb6, rfl, hd6⟩⟩; (rw [Hq.out.bad] at hb6; cases hb6))
      | (go_at_call 71; refine Calls.mono (check_ok w6) ?_; rintro e w7 ⟨rfl, rfl⟩)
      | fail)
    have hj7 := hf6.get hj1 (by rintro (e | e); exact Hne.out.1 e; exact Hne.out.2 e)
    have he7 := hf6.get he1 (by rintro (e | e); exact HE.out.1 e; exact HE.out.2.1 e)
    have HF7 := Lib.hid (HF1.out.trans (hf6.mono (fun k _ e => e.elim .inl (fun e => .inr (.inl e)))))
    have Hd7 := Lib.hid hd6
    clear hf6 hd6 hb6 hcv hfv
    have hcv := cellv w7
    have hfv := frozv w7
    go_upto_region 5 with fail
    have hj8 : (w7.setCell ⟨jb, 3, none⟩ (.bool false)).heap[jb]? = some (.cells #[.iface 27 (.pointer (some ⟨db, 0, none⟩)), .int .u32 ep, .int .i64 en, .bool false] 132 (0, 0)) := by
      rw [hp_setCell, if_pos rfl, hj7]; rfl
    have he8 : (w7.setCell ⟨jb, 3, none⟩ (.bool false)).heap[E]? = some (.cells #[.nilIface] 32 (0, 0)) := by
      rw [hp_setCell, if_neg HE.out.2.2.1]; exact he7
    have Hd8 := Lib.hid (Hd7.out.frame (Fr.one jb w7 3 (.bool false)) (by rintro k rfl; exact ⟨Hne.out.1, Hne.out.2, _, hj7, by simp [kindOf]⟩))
    have HF8 := Lib.hid (HF7.out.setCell (b := jb) (fun _ => .inr (.inr rfl)) 3 (.bool false))
    clear hcv hfv hj7 he7
    generalize w7.setCell ⟨jb, 3, none⟩ (.bool false) = W8 at hj8 he8 Hd8 HF8 ⊢
    have hcv := cellv W8
    have hfv := frozv W8
    go_wp2_with fail
    refine leaves_cons (f := 69) (args := #[.pointer (some ⟨E, 0, none⟩)]) (by simp) (by simp [go_sem]) ?_
    refine (idle69 _ _).mono ?_
    rintro e u' w'' ⟨rfl, rfl, rfl⟩
    have hsome : (W8.setCell ⟨E, 0, none⟩ Value.nilIface).cell? ⟨E, 0, none⟩ = some .nilIface := by rw [cellv, hp_setCell, if_pos rfl, he8]; rfl
    refine ⟨.nilIface, ?_, rfl, HF8.out.setCell (b := E) (fun h => absurd h (by rw [HEe.out]; omega)) 0 .nilIface, ?_, ?_⟩
    · simp [results, Tryz.results50, go_sem, hsome]
    · exact Hd8.out.frame (Fr.one E W8 0 .nilIface) (by rintro k rfl; exact ⟨HE.out.1, HE.out.2.1, _, he8, by simp [kindOf]⟩)
    · unfold JnAt
      rw [hp_setCell, if_neg (Ne.symm HE.out.2.2.1)]; exact hj8
end Go.Proofs.YtkafmfdipmhleaaGreatDoor

namespace Go.Proofs.YtkafmfdipmhleaaGreatDoor
open Go.RowKit

/-- Where nothing panics: what stands behind need not look at a panic. -/
def calm (Q : Exit → Act → World → Prop) : Exit → Act → World → Prop
  | .panic _, _, _ => False
  | e, a, w => Q e a w
theorem wp_calm {P : Program} {c : Code} {Q : Exit → Act → World → Prop} {a : Act} {w : World} (h : c.wp P (calm Q) a w) : c.wp P Q a w :=
  Code.wp_mono (fun e a w h => by cases e <;> first | exact h | exact h.elim) h
/-- A record that can be written. -/
structure RecM.ok (r : RecM) : Prop where
  kind : r.kind < 256
  epoch : r.epoch < 2 ^ 32
  index : r.index < 65536
  saga : r.saga < 65536
  reply : r.reply < 256
  none : r.kind ≠ 2 → r.steps = []
  small : r.kind = 2 → smallSteps r.steps
theorem bytes_rec (w : World) (r : RecM) (sv : Value) (h : r.ok) (hsv : r.kind = 2 → StepsAt w sv r.steps) :
    Calls Tryz.prog 96 #[.agg (rcells r.kind r.epoch r.index r.saga r.reply sv)] w (BytesPost w r) := by
  by_cases hk : r.kind = 2
  · obtain ⟨k, ep, ix, sg, rp, l⟩ := r
    obtain rfl : k = 2 := hk
    exact bytes_body w ep ix sg rp h.epoch h.index h.saga h.reply sv l (hsv rfl) (h.small rfl)
  · have hst := h.none hk
    obtain ⟨k, ep, ix, sg, rp, l⟩ := r
    obtain rfl : l = [] := hst
    have hk' : k ≠ 2 := hk
    exact bytes_head w k ep ix sg rp h.kind h.epoch h.index h.saga h.reply sv (by simpa using hk')
theorem recB_len_ok (r : RecM) (h : r.ok) : (recB r).length = 128 := by
  by_cases hk : r.kind = 2
  · refine recB_len r ?_
    obtain ⟨h1, h2, h3⟩ := h.small hk
    have := stepsB_le r.steps h3
    simp [bodyB, headB, hk, leN_length]
    omega
  · exact recB_len1 r hk

def placed (r : RecM) (ep ix : Nat) : RecM := { r with epoch := ep, index := ix }
def DiskM.append (d : DiskM) (ep ix : Nat) : List RecM → DiskM
  | [] => d
  | r :: rs => (d.sure ix (recBytes (placed r ep ix))).append ep (ix + 1) rs
theorem append_snoc (d : DiskM) (ep ix : Nat) (l : List RecM) (r : RecM) : d.append ep ix (l ++ [r]) = (d.append ep ix l).sure (ix + l.length) (recBytes (placed r ep (ix + l.length))) := by
  induction l generalizing d ix with
  | nil => rfl
  | cons a l ih =>
    have := ih (d.sure ix (recBytes (placed a ep ix))) (ix + 1)
    simp only [List.cons_append, DiskM.append, List.length_cons]
    rw [this, show ix + 1 + l.length = ix + (l.length + 1) by omega]
theorem DiskM.quiet.append {d : DiskM} (h : d.quiet) (ep ix : Nat) (l : List RecM) : (d.append ep ix l).quiet := by
  induction l generalizing d ix with
  | nil => exact h
  | cons a l ih => exact ih (d := d.sure ix _) ((h.put _ _).flush) _
theorem sure_len (d : DiskM) (i : Nat) (l : List UInt8) : (d.sure i l).blocks.length = d.blocks.length := by
  simp [DiskM.sure, DiskM.flush, DiskM.put, DiskM.count]
theorem append_len (d : DiskM) (ep ix : Nat) (l : List RecM) : (d.append ep ix l).blocks.length = d.blocks.length := by
  induction l generalizing d ix with
  | nil => rfl
  | cons a l ih => rw [DiskM.append, ih, sure_len]
theorem append_pend (d : DiskM) (ep ix : Nat) (l : List RecM) (h : d.pend = none) : (d.append ep ix l).pend = none := by
  induction l generalizing d ix with
  | nil => exact h
  | cons a l ih => exact ih _ _ rfl

/-- A list of records as it lies in memory. -/
structure RecsAt (w : World) (lb : Nat) (rs : List RecM) : Prop where
  ok : ∀ r ∈ rs, ∀ ep ix, ep < 2 ^ 32 → ix < 65536 → (placed r ep ix).ok
  ex : ∃ lc, w.heap[lb]? = some (.cells lc 91 (0, 0)) ∧ ∀ k r, rs[k]? = some r → ∃ sv, (∃ a m c, sv = .slice a m c) ∧ (r.kind = 2 → StepsAt w sv r.steps) ∧ ∀ i, i < 6 → lc[k * 6 + i]? = (rcells r.kind r.epoch r.index r.saga r.reply sv)[i]?
theorem RecsAt.frame {w w' : World} {lb : Nat} {rs : List RecM} {S : Nat → Prop} (h : RecsAt w lb rs) (hf : Fr S w w') (hS : ∀ k, S k → ∃ o, w.heap[k]? = some o ∧ kindOf o ≠ 55 ∧ kindOf o ≠ 92) : RecsAt w' lb rs := by
  obtain ⟨hok, lc, h1, h2⟩ := h
  refine ⟨hok, lc, hf.get h1 (fun hs => ?_), fun k r hr => ?_⟩
  · obtain ⟨o, ho, _, hk⟩ := hS lb hs
    rw [h1] at ho
    exact hk (by rw [← Option.some.inj ho]; rfl)
  · obtain ⟨sv, e1, e2, e3⟩ := h2 k r hr
    exact ⟨sv, e1, fun hk => (e2 hk).frame hf (fun k hs => by obtain ⟨o, ho, h5, _⟩ := hS k hs; exact ⟨o, ho, h5⟩), e3⟩

def AppPost (w : World) (jb db bb : Nat) (j : JnM) (d : DiskM) (rs : List RecM) (e : Ending) (w' : World) : Prop :=
  e = .returned .nilIface ∧ Fr (fun k => k = db ∨ k = bb ∨ k = jb) w w' ∧ DiskAt w' db bb ((settleD j d).append j.epoch j.en rs) ∧ JnAt w' jb db ⟨j.epoch, j.en + rs.length, false⟩
theorem settle_pend (j : JnM) (d : DiskM) (h : d.pend = none) : (settleD j d).pend = none := by
  unfold settleD; split
  · rfl
  · exact h
theorem settle_len (j : JnM) (d : DiskM) (h : d.pend = none) : (settleD j d).blocks.length = d.blocks.length := by
  unfold settleD; split
  · simp [DiskM.flush, h, DiskM.count]
  · rfl
theorem settle_quiet (j : JnM) (d : DiskM) (h : d.quiet) : (settleD j d).quiet := by
  unfold settleD; split
  · exact h.flush
  · exact h

/-- The region of a number, out of a body. -/
def regOf (n : Nat) : Code → Option Code
  | .region m l b => if m = n then some (.region m l b) else none
  | .loop c => regOf n c
  | .seq a b => match regOf n a with
    | some c => some c
    | none => regOf n b
  | .block _ c => regOf n c
  | .scope c => regOf n c
  | .cond _ a b => match regOf n a with
    | some c => some c
    | none => regOf n b
  | _ => none
noncomputable def appR9 : Code := ((Tryz.f65.body).bind (regOf 9)).getD .skip
noncomputable def appR8 : Code := ((Tryz.f65.body).bind (regOf 8)).getD .skip

set_option maxRecDepth 100000 in
set_option maxHeartbeats 4000000 in
/-- j.v.sure(r.Index, r.bytes()). -/
theorem app_r9 (jb db bb R ix : Nat) (j : JnM) (d : DiskM) (r : RecM) (sa : Option Addr) (sm sc : Nat) (W : World) (hne : jb ≠ db ∧ jb ≠ bb) (hRd : R ≠ db ∧ R ≠ bb)
    (hj : W.heap[jb]? = some (.cells (jnCells db j) 132 (0, 0))) (hr : W.heap[R]? = some (.cells #[.int .u8 r.kind, .int .u32 r.epoch, .int .i64 r.index, .int .i64 r.saga, .int .i64 r.reply, .slice sa sm sc] 91 (0, 0)))
    (hst : r.kind = 2 → StepsAt W (.slice sa sm sc) r.steps) (hok : r.ok) (hd : DiskAt W db bb d) (hq : d.quiet) (hp : d.pend = none) (hix : ix = r.index) (hil : ix < d.blocks.length)
    {ds : List Deferred} {x1 x2 x3 x4 x5 x6 x8 x9 x10 x11 x12 x13 x14 x15 x16 x17 x18 x19 x20 x21 x22 x23 x24 x25 x26 x27 x28 x29 x30 x31 x32 x33 x34 x35 x36 x37 x38 x39 x40 x41 x42 x43 x44 x45 x46 x47 x48 x49 x50 x51 : Value} {Q : Exit → Act → World → Prop}
    (hQ : ∀ (y33 y34 y35 y36 y37 y38 y39 y40 y41 : Value) (w' : World), Fr (fun k => k = db ∨ k = bb) W w' → DiskAt w' db bb (d.sure ix (recBytes r)) → Q .normal ⟨#[.pointer (some ⟨jb, 0, none⟩), x1, x2, x3, x4, x5, x6, .pointer (some ⟨R, 0, none⟩), x8, x9, x10, x11, x12, x13, x14, x15, x16, x17, x18, x19, x20, x21, x22, x23, x24, x25, x26, x27, x28, x29, x30, x31, x32, y33, y34, y35, y36, y37, y38, y39, y40, y41, x42, x43, x44, x45, x46, x47, x48, x49, x50, x51], ds⟩ w') :
    Code.wp Tryz.prog appR9 Q ⟨#[.pointer (some ⟨jb, 0, none⟩), x1, x2, x3, x4, x5, x6, .pointer (some ⟨R, 0, none⟩), x8, x9, x10, x11, x12, x13, x14, x15, x16, x17, x18, x19, x20, x21, x22, x23, x24, x25, x26, x27, x28, x29, x30, x31, x32, x33, x34, x35, x36, x37, x38, x39, x40, x41, x42, x43, x44, x45, x46, x47, x48, x49, x50, x51], ds⟩ W := by
  subst hix
  have a0 : W.cell? ⟨jb, 0, none⟩ = some (.iface 27 (.pointer (some ⟨db, 0, none⟩))) := by rw [cellv, hj]; rfl
  have r0 : W.cell? ⟨R, 0, none⟩ = some (.int .u8 r.kind) := by rw [cellv, hr]; rfl
  have r1 : W.cell? ⟨R, 1, none⟩ = some (.int .u32 r.epoch) := by rw [cellv, hr]; rfl
  have r2 : W.cell? ⟨R, 2, none⟩ = some (.int .i64 r.index) := by rw [cellv, hr]; rfl
  have r3 : W.cell? ⟨R, 3, none⟩ = some (.int .i64 r.saga) := by rw [cellv, hr]; rfl
  have r4 : W.cell? ⟨R, 4, none⟩ = some (.int .i64 r.reply) := by rw [cellv, hr]; rfl
  have r5 : W.cell? ⟨R, 5, none⟩ = some (.slice sa sm sc) := by rw [cellv, hr]; rfl
  have HK := Lib.hid (show ∀ (w' : World), Fr (fun k => k = db ∨ k = bb) W.drew w' → w'.cell? ⟨jb, 0, none⟩ = some (.iface 27 (.pointer (some ⟨db, 0, none⟩))) ∧ w'.cell? ⟨R, 0, none⟩ = some (.int .u8 r.kind) ∧ w'.cell? ⟨R, 1, none⟩ = some (.int .u32 r.epoch) ∧ w'.cell? ⟨R, 2, none⟩ = some (.int .i64 r.index) ∧ w'.cell? ⟨R, 3, none⟩ = some (.int .i64 r.saga) ∧ w'.cell? ⟨R, 4, none⟩ = some (.int .i64 r.reply) ∧ w'.cell? ⟨R, 5, none⟩ = some (.slice sa sm sc) from by
    intro w' hf
    have e1 := hf.get (w := W.drew) hj (by omega)
    have e2 := hf.get (w := W.drew) hr (by omega)
    refine ⟨?_, ?_, ?_, ?_, ?_, ?_, ?_⟩ <;> rw [cellv] <;> first | (rw [e1]; rfl) | (rw [e2]; rfl))
  have HB := Lib.hid (show Calls Tryz.prog 96 #[.agg #[.int .u8 r.kind, .int .u32 r.epoch, .int .i64 r.index, .int .i64 r.saga, .int .i64 r.reply, .slice sa sm sc]] W.drew (BytesPost W.drew r) from bytes_rec W.drew r (.slice sa sm sc) hok (fun h => hst h))
  have HS := Lib.hid (fun (w10 : World) (nb : Nat) (hf10 : New W.drew w10) (hwc : w10.heap[nb]? = some (.cells (wayCells (recB r) 4) 201 (0, 0))) => show Calls Tryz.prog 95 #[.agg #[.iface 27 (.pointer (some ⟨db, 0, none⟩))], .int .i64 r.index, .slice (some ⟨nb, 0, none⟩) (endOf r) (endOf r)] w10 (fun e w' => e = .returned (.tuple #[]) ∧ Fr (fun k => k = db ∨ k = bb) w10 w' ∧ DiskAt w' db bb (d.sure r.index (recBytes r))) from sure_quiet ((hd.new ((Fr.refl _ W).drew)).new hf10) hq r.index hil hp nb _ (recB_len_ok _ hok) hwc)
  have HQ := Lib.hid hQ
  clear hj hr hst hd hq hp hil hok hQ hne hRd
  conv => arg 2; whnf
  go_region_held3 (fun w' => w'.cell? ⟨jb, 0, none⟩ = some (.iface 27 (.pointer (some ⟨db, 0, none⟩))) ∧ w'.cell? ⟨R, 0, none⟩ = some (.int .u8 r.kind) ∧ w'.cell? ⟨R, 1, none⟩ = some (.int .u32 r.epoch) ∧ w'.cell? ⟨R, 2, none⟩ = some (.int .i64 r.index) ∧ w'.cell? ⟨R, 3, none⟩ = some (.int .i64 r.saga) ∧ w'.cell? ⟨R, 4, none⟩ = some (.int .i64 r.reply) ∧ w'.cell? ⟨R, 5, none⟩ = some (.slice sa sm sc))
    (first | exact HK.out _ (Fr.refl _ _) | exact HK.out _ (hf10.mono (fun _ _ f => f.elim)) | exact HK.out _ ((hf10.mono (fun _ _ f => f.elim)).trans hf11))
    ((first
      | (go_at_call 96; refine Calls.mono HB.out ?_; rintro e w10 ⟨nb, rfl, hnb, hwc, hf10⟩)
      | (go_at_call 95; refine Calls.mono (HS.out _ _ hf10 hwc) ?_; rintro e w11 ⟨rfl, hf11, hd11⟩)
      | fail))
  exact HQ.out _ _ _ _ _ _ _ _ _ _ (((Fr.refl _ W).drew.trans (hf10.mono (fun _ _ f => f.elim))).trans hf11) hd11

set_option maxRecDepth 100000 in
set_option maxHeartbeats 4000000 in
/-- r.Epoch, r.Index = j.epoch, j.end+i. -/
theorem app_r8 (jb db R : Nat) (j : JnM) (kd ep ix sg rp k : Nat) (sv : Value) (W : World)
    (hj : W.heap[jb]? = some (.cells (jnCells db j) 132 (0, 0))) (hr : W.heap[R]? = some (.cells #[.int .u8 kd, .int .u32 ep, .int .i64 ix, .int .i64 sg, .int .i64 rp, sv] 91 (0, 0)))
    (hb : j.en ≤ 1000 ∧ k ≤ 1000)
    {ds : List Deferred} {x1 x2 x3 x4 x5 x8 x9 x10 x11 x12 x13 x14 x15 x16 x17 x18 x19 x20 x21 x22 x23 x24 x25 x26 x27 x28 x29 x30 x31 x32 x33 x34 x35 x36 x37 x38 x39 x40 x41 x42 x43 x44 x45 x46 x47 x48 x49 x50 x51 : Value} {Q : Exit → Act → World → Prop}
    (hQ : ∀ (y21 y22 y23 y24 y25 y26 y27 y28 y29 y30 y31 y32 : Value) (w' : World), Fr (· = R) W w' → w'.heap[R]? = some (.cells #[.int .u8 kd, .int .u32 j.epoch, .int .i64 ((j.en + k : Nat) : Int), .int .i64 sg, .int .i64 rp, sv] 91 (0, 0)) → Q .normal ⟨#[.pointer (some ⟨jb, 0, none⟩), x1, x2, x3, x4, x5, .int .i64 k, .pointer (some ⟨R, 0, none⟩), x8, x9, x10, x11, x12, x13, x14, x15, x16, x17, x18, x19, x20, y21, y22, y23, y24, y25, y26, y27, y28, y29, y30, y31, y32, x33, x34, x35, x36, x37, x38, x39, x40, x41, x42, x43, x44, x45, x46, x47, x48, x49, x50, x51], ds⟩ w') :
    Code.wp Tryz.prog appR8 Q ⟨#[.pointer (some ⟨jb, 0, none⟩), x1, x2, x3, x4, x5, .int .i64 k, .pointer (some ⟨R, 0, none⟩), x8, x9, x10, x11, x12, x13, x14, x15, x16, x17, x18, x19, x20, x21, x22, x23, x24, x25, x26, x27, x28, x29, x30, x31, x32, x33, x34, x35, x36, x37, x38, x39, x40, x41, x42, x43, x44, x45, x46, x47, x48, x49, x50, x51], ds⟩ W := by
  have hRj : jb ≠ R := ne_of_kind hj hr (by simp [kindOf])
  have hRj' : R ≠ jb := fun e => hRj e.symm
  simp only [jnCells] at hj
  have a1 : W.cell? ⟨jb, 1, none⟩ = some (.int .u32 j.epoch) := by rw [cellv, hj]; rfl
  have a2 : W.cell? ⟨jb, 2, none⟩ = some (.int .i64 j.en) := by rw [cellv, hj]; rfl
  have r1 : W.cell? ⟨R, 1, none⟩ = some (.int .u32 ep) := by rw [cellv, hr]; rfl
  have r2 : W.cell? ⟨R, 2, none⟩ = some (.int .i64 ix) := by rw [cellv, hr]; rfl
  have f1 : W.frozen? ⟨R, 1, none⟩ = false := by rw [frozv, hr]; rfl
  have f2 : W.frozen? ⟨R, 2, none⟩ = false := by rw [frozv, hr]; rfl
  have hw : wrap64 ((j.en : Int) + (k : Int)) = ((j.en + k : Nat) : Int) := by
    rw [wrap_in _ (by omega)]; omega
  have hw' : IntKind.i64.wrap ((j.en : Int) + (k : Int)) = ((j.en + k : Nat) : Int) := by
    rw [IntWalk.i64_in _ (by omega)]; omega
  have HQ := Lib.hid hQ
  have Hr := Lib.hid hr
  generalize j.en + k = s at hw hw' HQ
  clear hj hr hQ hb
  conv => arg 2; whnf
  go_region_held3 (fun w' => w'.cell? ⟨jb, 1, none⟩ = some (.int .u32 j.epoch) ∧ w'.cell? ⟨jb, 2, none⟩ = some (.int .i64 j.en) ∧ w'.frozen? ⟨R, 1, none⟩ = false ∧ w'.frozen? ⟨R, 2, none⟩ = false)
    (go_keep)
    ((fail))
  refine HQ.out _ _ _ _ _ _ _ _ _ _ _ _ _ ((Fr.one R W 1 (.int .u32 j.epoch)).trans (Fr.one R _ 2 (.int .i64 s))).drew ?_
  rw [hp_drew, hp_setCell, if_pos rfl, hp_setCell, if_pos rfl, Hr.out]; rfl
end Go.Proofs.YtkafmfdipmhleaaGreatDoor

namespace Go.Proofs.YtkafmfdipmhleaaGreatDoor
open Go.RowKit

set_option maxRecDepth 100000 in
set_option maxHeartbeats 4000000 in
theorem Append_calls {w : World} {jb db bb lb n cap : Nat} {j : JnM} {d : DiskM} {rs : List RecM} (hj : JnAt w jb db j) (h : DiskAt w db bb d) (hq : d.quiet) (hp : d.pend = none) (hl : RecsAt w lb rs) (hn : n = rs.length)
    (hep : j.epoch < 2 ^ 32) (hroom : j.en + rs.length ≤ d.blocks.length) (hb : d.blocks.length ≤ 1000) :
    Calls Tryz.prog 65 #[.pointer (some ⟨jb, 0, none⟩), .slice (some ⟨lb, 0, none⟩) n cap] w (AppPost w jb db bb j d rs) := by
  have hmf : ∀ (fn : Fn) (first cap : Array Value) (w : World), (Instr.makeFunc fn first cap).run Tryz.prog w = .ok (.func fn first cap) w := fun _ _ _ _ => rfl
  have hne := jn_ne hj h
  have hlt := disk_lt h
  have hjl := lt_of_hp hj
  have hd1 := h.new ((Fr.refl _ w).alloc (.cells #[.nilIface] 32))
  have hj1 := heap_alloc_keep (.cells #[.nilIface] 32) hj
  have he1 := heap_alloc_new w (.cells #[.nilIface] 32)
  have hl1 := hl.frame (S := fun _ => False) ((Fr.refl _ w).alloc (.cells #[.nilIface] 32)) (fun _ f => f.elim)
  have hF1 : Fr (fun k => k = db ∨ k = bb ∨ k = jb) w (w.alloc (.cells #[.nilIface] 32)) := (Fr.refl _ w).alloc _
  have Hq := Lib.hid hq
  have Hp := Lib.hid hp
  have Hep := Lib.hid hep
  have Hroom := Lib.hid hroom
  have Hb := Lib.hid hb
  have Hn := Lib.hid hn
  go_enter_defers Tryz.func65, Tryz.ntmps65
  go_upto_region 2 with fail
  have HE : Hid (w.heap.size ≠ db ∧ w.heap.size ≠ bb ∧ w.heap.size ≠ jb ∧ ¬ w.heap.size < w.heap.size) := ⟨by omega, by omega, by omega, by omega⟩
  have Hne := Lib.hid hne
  have HF1 := Lib.hid hF1
  have Hd1 := Lib.hid hd1
  have Hl1 := Lib.hid hl1
  have Hj1 := Lib.hid (show JnAt (w.alloc (.cells #[.nilIface] 32)) jb db j from hj1)
  clear h hj hne hlt hjl hd1 hF1 hq hj1 hl1 hp hep hroom hb hn hl
  generalize w.alloc (.cells #[.nilIface] 32) = W1 at Hj1 he1 HF1 Hd1 Hl1 ⊢
  generalize hE : w.heap.size = E at he1 HE ⊢
  have HEe := Lib.hid hE
  clear hE
  go_upto_region 5 with (first
    | (go_at_call 50; refine Calls.mono (Settle_calls Hj1.out Hd1.out Hq.out) ?_; rintro e w2 ⟨rfl, hf2, hd2, hj2⟩)
    | fail)
  have hS2 : ∀ k, (k = db ∨ k = bb ∨ k = jb) → ∃ o, W1.heap[k]? = some o ∧ kindOf o ≠ 55 ∧ kindOf o ≠ 92 := by
    obtain ⟨_, _, _, _, h1, h2, _⟩ := Hd1.out
    rintro k (rfl | rfl | rfl)
    · exact ⟨_, h1, by simp [kindOf], by simp [kindOf]⟩
    · exact ⟨_, h2, by simp [kindOf], by simp [kindOf]⟩
    · exact ⟨_, Hj1.out, by simp [kindOf], by simp [kindOf]⟩
  have hl2 := Hl1.out.frame hf2 hS2
  have he2 := hf2.get he1 (by have := HE.out; omega)
  have HF2 := Lib.hid (HF1.out.trans hf2)
  have HE2 := Lib.hid he2
  have Hl2 := Lib.hid hl2
  have Hd2 := Lib.hid hd2
  have Hj2 := Lib.hid hj2
  have hnl : Hid (rs.length < 2 ^ 40) := by
    have := Hroom.out; have := Hb.out; show _ < _; omega
  clear hf2 hd2 hj2 hS2 hl2 he2 he1
  go_wp2_with fail
  go_loopw [16] (fun i wr => ∃ k, k ≤ rs.length ∧ i = .int .i64 (k : Nat) ∧ DiskAt wr db bb ((settleD j d).append j.epoch j.en (rs.take k)) ∧ Fr (fun k => k = db ∨ k = bb) w2 wr) (fun i _ => rs.length - (intOf i).toNat)
  case atStart => exact ⟨0, Nat.zero_le _, rfl, by simpa [DiskM.append] using Hd2.out, Fr.refl _ _⟩
  case round =>
    obtain ⟨k, hk, rfl, hdk, hfk⟩ := hrel
    have Hdk := Lib.hid hdk
    have Hfk := Lib.hid hfk
    have hjk := hfk.get Hj2.out (by have := Hne.out; omega)
    have hek := hfk.get HE2.out (by have := HE.out; omega)
    have hlk := Hl2.out.frame hfk (by
      obtain ⟨_, _, _, _, h1, h2, _⟩ := Hd2.out
      rintro k (rfl | rfl)
      · exact ⟨_, h1, by simp [kindOf], by simp [kindOf]⟩
      · exact ⟨_, h2, by simp [kindOf], by simp [kindOf]⟩)
    clear hdk hfk
    by_cases hkn : k < rs.length
    · obtain ⟨hok, lc, hlb, hrec⟩ := hlk
      obtain ⟨sv, ⟨sa, sm, sc, rfl⟩, hst, hcells⟩ := hrec k rs[k] (by simp [hkn])
      have hokr := hok rs[k] (List.getElem_mem hkn)
      have htk : rs.take (k + 1) = rs.take k ++ [rs[k]] := List.take_succ_eq_append_getElem hkn
      generalize rs[k] = r at hst hcells hokr htk
      have Hok := Lib.hid hokr
      have Htk := Lib.hid htk
      have hrow : ∀ q v, ([.int .u8 r.kind, .int .u32 r.epoch, .int .i64 r.index, .int .i64 r.saga, .int .i64 r.reply, .slice sa sm sc] : List Value)[q]? = some v → cellOf wr.heap[lb]? (k * 6 + q) = some v := by
        intro q v hq
        have hq6 : q < 6 := by simpa using (List.getElem?_eq_some_iff.1 hq).1
        rw [hlb, cellOf_cells, hcells q hq6]
        simpa [rcells] using hq
      obtain ⟨d9, hu9, hr9⟩ := isRow_of (ty := 91) (by kernel_rfl)
      have Hrow := Lib.hid hrow
      have Hst := Lib.hid hst
      have Hkn := Lib.hid hkn
      clear hrow hcells hlb hrec hok hokr htk hst
      have hkl : (k : Int) < rs.length := by omega
      have hcv := cellv wr
      clear hkn
      go_upto_region 8 with (first
        | (refine wpl_load rfl 91 (.tmp 19) rfl lb (k * 6) rfl _ d9 Hrow.out hu9 hr9 Tryz.info91s ?_)
        | fail)
      have hr8 := heap_alloc_new wr (.cells #[.int .u8 r.kind, .int .u32 r.epoch, .int .i64 r.index, .int .i64 r.saga, .int .i64 r.reply, .slice sa sm sc] 91)
      have hj8 := heap_alloc_keep (.cells #[.int .u8 r.kind, .int .u32 r.epoch, .int .i64 r.index, .int .i64 r.saga, .int .i64 r.reply, .slice sa sm sc] 91) hjk
      have HF8 := Lib.hid ((Fr.refl (fun _ => False) wr).alloc (.cells #[.int .u8 r.kind, .int .u32 r.epoch, .int .i64 r.index, .int .i64 r.saga, .int .i64 r.reply, .slice sa sm sc] 91))
      clear hcv hek
      have HW8 := Lib.hid (rfl : wr.heap.size = wr.heap.size)
      have HRd : wr.heap.size ≠ db ∧ wr.heap.size ≠ bb := by
        have := disk_lt Hdk.out
        omega
      have HRb : ∀ k, k < wr.heap.size → ¬ k = wr.heap.size := fun k h e => by omega
      generalize wr.alloc (.cells #[.int .u8 r.kind, .int .u32 r.epoch, .int .i64 r.index, .int .i64 r.saga, .int .i64 r.reply, .slice sa sm sc] 91) = W8 at hr8 hj8 HF8 ⊢
      generalize hR : wr.heap.size = R at hr8 HRd HRb HW8 ⊢
      have HR := Lib.hid hR
      have HRd := Lib.hid HRd
      have HRb := Lib.hid HRb
      clear hR
      refine app_r8 jb db R ⟨j.epoch, j.en, false⟩ r.kind r.epoch r.index r.saga r.reply k (.slice sa sm sc) W8 hj8 hr8 ?_ ?_
      · have := Hroom.out; have := Hb.out; have := Hkn.out
        exact ⟨by show j.en ≤ 1000; omega, by omega⟩
      intro y21 y22 y23 y24 y25 y26 y27 y28 y29 y30 y31 y32 W9 hf9 hr9'
      have HF9 := Lib.hid (HF8.out.trans' hf9 (by rintro i hi e; rw [e] at hi; exact HRb.out R (by rw [HR.out] at hi; exact hi) rfl))
      have hj9 := hf9.get hj8 (by rintro rfl; rw [hj8] at hr8; simp at hr8)
      clear hr8 hj8 HF8 hf9
      go_upto_region 9 with fail
      have hix : j.en + k < 65536 := by have := Hroom.out; have := Hb.out; have := Hkn.out; omega
      refine app_r9 jb db bb R (j.en + k) ⟨j.epoch, j.en, false⟩ ((settleD j d).append j.epoch j.en (rs.take k)) (placed r j.epoch (j.en + k)) sa sm sc W9 Hne.out HRd.out hj9 hr9'
        (fun h2 => (Hst.out h2).frame HF9.out (fun _ f => f.elim)) (Hok.out j.epoch (j.en + k) Hep.out hix) (Hdk.out.new HF9.out) ((settle_quiet j d Hq.out).append _ _ _) (append_pend _ _ _ _ (settle_pend j d Hp.out)) rfl ?_ ?_
      · rw [append_len, settle_len j d Hp.out]
        have := Hroom.out; have := Hkn.out
        omega
      intro y33 y34 y35 y36 y37 y38 y39 y40 y41 w11 hf11 hd11
      clear hr9' hj9
      go_wp2_with fail
      go_roundw
      case rel =>
        refine ⟨k + 1, Hkn.out, by go_num, ?_, (Hfk.out.trans (HF9.out.mono (fun _ _ f => f.elim))).trans hf11⟩
        have hlk : (rs.take k).length = k := by rw [List.length_take]; have := Hkn.out; omega
        rw [Htk.out, append_snoc, hlk]
        exact hd11
      case measure => have := Hkn.out; simp [intOf]; omega
    · have hkl : Hid (k = rs.length) := by show _ = _; omega
      have Hjk := Lib.hid hjk
      have Hek := Lib.hid hek
      clear hlk hjk hek
      have hnk : ¬ (k : Int) < rs.length := by omega
      go_upto_region 11 with fail
      have hjc := Hjk.out
      have hec := Hek.out
      simp only [jnCells] at hjc
      have hcv := cellv wr
      have hfv := frozv wr
      have hsum : wrap64 ((j.en : Int) + (rs.length : Int)) = (j.en : Int) + (rs.length : Int) := by
        have := Hroom.out; have := Hb.out
        exact wrap_in _ (by omega)
      go_upto_region 12 with fail
      have hj9 : (wr.setCell ⟨jb, 2, none⟩ (.int .i64 ((j.en : Int) + (rs.length : Int)))).heap[jb]? = some (.cells (jnCells db ⟨j.epoch, j.en + rs.length, false⟩) 132 (0, 0)) := by
        rw [hp_setCell, if_pos rfl, hjc]; simp [jnCells]
      have he9 : (wr.setCell ⟨jb, 2, none⟩ (.int .i64 ((j.en : Int) + (rs.length : Int)))).heap[E]? = some (.cells #[.nilIface] 32 (0, 0)) := by
        rw [hp_setCell, if_neg HE.out.2.2.1]; exact hec
      have Hd9 := Lib.hid (Hdk.out.frame (Fr.one jb wr 2 (.int .i64 ((j.en : Int) + (rs.length : Int)))) (by rintro k rfl; exact ⟨Hne.out.1, Hne.out.2, _, hjc, by simp [kindOf]⟩))
      have HF9 := Lib.hid ((HF2.out.trans (Hfk.out.mono (fun k _ e => e.elim .inl (fun e => .inr (.inl e))))).setCell (b := jb) (fun _ => .inr (.inr rfl)) 2 (.int .i64 ((j.en : Int) + (rs.length : Int))))
      have Hj9 := Lib.hid hj9
      clear hcv hfv hjc hec hj9
      generalize wr.setCell ⟨jb, 2, none⟩ (.int .i64 ((j.en : Int) + (rs.length : Int))) = W9 at he9 Hd9 HF9 Hj9 ⊢
      have hcv := cellv W9
      have hfv := frozv W9
      go_wp2_with fail
      refine leaves_cons (f := 94) (args := #[.pointer (some ⟨E, 0, none⟩)]) (by simp) (by simp [go_sem]) ?_
      refine (idle94 _ _).mono ?_
      rintro e u' w'' ⟨rfl, rfl, rfl⟩
      have hsome : (W9.setCell ⟨E, 0, none⟩ Value.nilIface).cell? ⟨E, 0, none⟩ = some .nilIface := by rw [cellv, hp_setCell, if_pos rfl, he9]; rfl
      refine ⟨.nilIface, ?_, rfl, HF9.out.setCell (b := E) (fun h => absurd h (by rw [HEe.out]; omega)) 0 .nilIface, ?_, ?_⟩
      · simp [results, Tryz.results65, go_sem, hsome]
      · have := Hd9.out.frame (Fr.one E W9 0 .nilIface) (by rintro k rfl; exact ⟨HE.out.1, HE.out.2.1, _, he9, by simp [kindOf]⟩)
        rw [hkl.out, List.take_length] at this
        exact this
      · unfold JnAt
        rw [hp_setCell, if_neg (Ne.symm HE.out.2.2.1)]; exact Hj9.out
end Go.Proofs.YtkafmfdipmhleaaGreatDoor

namespace Go.Proofs.YtkafmfdipmhleaaGreatDoor
open Go.RowKit

/-- A fault of an operation, in a new block. -/
def FaultAt (w : World) (w' : World) (op : ByteArray) (n : Int) (v : Value) : Prop := ∃ fb, w.heap.size ≤ fb ∧ v = .iface 121 (.pointer (some ⟨fb, 0, none⟩)) ∧ w'.heap[fb]? = some (.cells (faultCells op n) 123 (0, 0))
def FailPost (w : World) (op : ByteArray) (n : Int) (e : Ending) (w' : World) : Prop := ∃ v, e = .returned v ∧ FaultAt w w' op n v ∧ New w w'
theorem fail_calls (w : World) (op : ByteArray) (n : Int) : Calls Tryz.prog 40 #[.string op, .int .i64 n] w (FailPost w op n) := by
  go_enter Tryz.func40, Tryz.ntmps40
  go_wp2
  go_ret
  exact ⟨_, rfl, ⟨w.heap.size, Nat.le_refl _, rfl, heap_alloc_new w _⟩, (Fr.refl _ _).alloc _⟩

def DiskM.fits (d : DiskM) : Bool := decide (8 ≤ d.blocks.length) && decide (d.blocks.length ≤ 400)
theorem fits_calls {w : World} {db bb : Nat} {d : DiskM} (h : DiskAt w db bb d) :
    Calls Tryz.prog 79 #[.iface 27 (.pointer (some ⟨db, 0, none⟩))] w fun e w' => e = .returned (.bool d.fits) ∧ w = w' := by
  have HB := Lib.hid (Blocks_calls h)
  have Hf : Hid (d.fits = (decide (8 ≤ d.blocks.length) && decide (d.blocks.length ≤ 400))) := rfl
  clear h
  generalize d.blocks.length = n at HB Hf
  by_cases h1 : (8 : Int) ≤ n
  · have h1' : 8 ≤ n := by omega
    by_cases h2 : (n : Int) ≤ 400
    · have h2' : n ≤ 400 := by omega
      go_enter Tryz.func79, Tryz.ntmps79
      go_wp2_with (first
        | (go_at_call 177; refine Calls.mono HB.out ?_; rintro e w2 ⟨rfl, rfl⟩)
        | fail)
      go_ret
      exact ⟨by rw [Hf.out]; simp [h1', h2'], rfl⟩
    · have h2' : ¬ n ≤ 400 := by omega
      go_enter Tryz.func79, Tryz.ntmps79
      go_wp2_with (first
        | (go_at_call 177; refine Calls.mono HB.out ?_; rintro e w2 ⟨rfl, rfl⟩)
        | fail)
      go_ret
      exact ⟨by rw [Hf.out]; simp [h2']; omega, rfl⟩
  · have h1' : ¬ 8 ≤ n := by omega
    go_enter Tryz.func79, Tryz.ntmps79
    go_wp2_with (first
      | (go_at_call 177; refine Calls.mono HB.out ?_; rintro e w2 ⟨rfl, rfl⟩)
      | fail)
    go_ret
    exact ⟨by rw [Hf.out]; simp; intros; omega, rfl⟩

def fmtStr : ByteArray := ⟨#[102, 111, 114, 109, 97, 116]⟩
/-- Format of a disk that tells no errors and on which nothing is pending. -/
def sFmtPost (w : World) (db bb : Nat) (d : DiskM) (ep : Nat) (e : Ending) (w' : World) : Prop :=
  if d.fits then FmtPost w db bb d ep e w' else FailPost w fmtStr 7 e w'
theorem sFormat_calls {w : World} {db bb : Nat} {d : DiskM} (h : DiskAt w db bb d) (hq : d.quiet) (hp : d.pend = none) (r : RecM) (ok : Bool) (hpm : parseM (d.look 0) = some (r, ok)) :
    Calls Tryz.prog 61 #[.iface 27 (.pointer (some ⟨db, 0, none⟩))] w (sFmtPost w db bb d (nextEpoch r ok)) := by
  have HF := Lib.hid (fits_calls h)
  have HJ := Lib.hid (fun h0 => jFormat_calls h hq hp h0 r ok hpm)
  have H0 : Hid (d.fits = true → 0 < d.blocks.length) := by intro h; simp [DiskM.fits] at h; omega
  clear h hq hp hpm
  cases hf : d.fits
  · have Hp : Hid (sFmtPost w db bb d (nextEpoch r ok) = FailPost w fmtStr 7) := by show _ = _; funext e w'; simp [sFmtPost, hf]
    rw [Hp.out]
    rw [hf] at HF
    clear hf
    go_enter Tryz.func61, Tryz.ntmps61
    go_wp2_with (first
      | (go_at_call 79; refine Calls.mono HF.out ?_; rintro e w2 ⟨rfl, rfl⟩)
      | (go_at_call 40; refine Calls.mono (fail_calls w fmtStr 7) ?_; rintro e w2 ⟨v, rfl, hv, hf2⟩)
      | fail)
    go_ret
    exact ⟨v, rfl, hv, hf2⟩
  · have Hp : Hid (sFmtPost w db bb d (nextEpoch r ok) = FmtPost w db bb d (nextEpoch r ok)) := by show _ = _; funext e w'; simp [sFmtPost, hf]
    rw [Hp.out]
    have HJ := Lib.hid (HJ.out (H0.out hf))
    rw [hf] at HF
    clear hf
    go_enter Tryz.func61, Tryz.ntmps61
    go_wp2_with (first
      | (go_at_call 79; refine Calls.mono HF.out ?_; rintro e w2 ⟨rfl, rfl⟩)
      | (go_at_call 92; refine Calls.mono HJ.out ?_; rintro e w2 ⟨rfl, hf2, hd2⟩)
      | fail)
    go_ret
    exact ⟨rfl, hf2, hd2⟩
end Go.Proofs.YtkafmfdipmhleaaGreatDoor

namespace Go.Proofs.YtkafmfdipmhleaaGreatDoor
open Go.RowKit

/-- Of the blocks that were there only those of the kinds K, or of S, may have turned. -/
structure FrKS (K : List Nat) (S : Nat → Prop) (w w' : World) : Prop where
  os : w'.os = w.os
  tape : w'.tape = w.tape
  output : w'.output = w.output
  size : w.heap.size ≤ w'.heap.size
  block : ∀ (k : Nat) (o : Obj), w.heap[k]? = some o → kindOf o ∉ K → ¬ S k → w'.heap[k]? = some o
theorem FrK.set {K : List Nat} {w w' : World} (h : FrK K w w') (b o : Nat) (v : Value) : FrKS K (· = b) w (w'.setCell ⟨b, o, none⟩ v) :=
  ⟨h.os, h.tape, h.output, Nat.le_trans h.size (by simp), fun k x hk hK hS => by rw [hp_setCell, if_neg hS]; exact h.block k x hk hK⟩
noncomputable def askR2 : Code := ((Tryz.f51.body).bind (regionAt 2)).getD .skip
/-- The engine's own cells. -/
def egCells (jb mb : Nat) (pause : Int) (cv : Value) (clock : Int) (failed : Bool) : Array Value := #[.pointer (some ⟨jb, 0, none⟩), .map (some mb), .int .i64 pause, cv, .int .i64 clock, .bool failed]
def askFn (pb : Nat) : Value := .func (.func 58) #[.pointer (some ⟨pb, 0, none⟩)] #[]

set_option maxRecDepth 100000 in
set_option maxHeartbeats 4000000 in
theorem ask_r2 (xb cb rb pb jb mb : Nat) (pause clock : Int) (failed : Bool) (c : CallM) (p : PartM) (W : World)
    (hx : W.heap[xb]? = some (.cells (egCells jb mb pause (askFn pb) clock failed) 79 (0, 0))) (hc : W.heap[cb]? = some (.cells c.cells.toArray 46 (0, 0))) (hr : W.heap[rb]? = some (.cells #[.int .i64 0] 3 (0, 0)))
    (hp : PAt W pb p) (hs : p.small) (hrb : pb < rb)
    {ds : List Deferred} {x1 x2 x5 x6 x7 x8 x9 x10 x11 : Value} {Q : Exit → Act → World → Prop}
    (hQ : ∀ (y6 y7 y8 y9 y10 y11 : Value) (w' : World), FrKS [45, 47, 49] (· = rb) W w' → Low p.lo W w' → PAt w' pb (p.ask c) → w'.heap[rb]? = some (.cells #[.int .i64 (replyM (p.knows c) c.back p.k)] 3 (0, 0)) → Q .normal ⟨#[.pointer (some ⟨xb, 0, none⟩), x1, x2, .pointer (some ⟨cb, 0, none⟩), .pointer (some ⟨rb, 0, none⟩), x5, y6, y7, y8, y9, y10, y11], ds⟩ w') :
    Code.wp Tryz.prog askR2 Q ⟨#[.pointer (some ⟨xb, 0, none⟩), x1, x2, .pointer (some ⟨cb, 0, none⟩), .pointer (some ⟨rb, 0, none⟩), x5, x6, x7, x8, x9, x10, x11], ds⟩ W := by
  have a3 : W.cell? ⟨xb, 3, none⟩ = some (askFn pb) := by rw [cellv, hx]; rfl
  have c0 : W.cell? ⟨cb, 0, none⟩ = some (.int .i64 c.saga) := by rw [cellv, hc]; rfl
  have c1 : W.cell? ⟨cb, 1, none⟩ = some (.int .i64 c.step) := by rw [cellv, hc]; rfl
  have c2 : W.cell? ⟨cb, 2, none⟩ = some (.bool c.back) := by rw [cellv, hc]; rfl
  have c3 : W.cell? ⟨cb, 3, none⟩ = some (.string c.data) := by rw [cellv, hc]; rfl
  have HA := Lib.hid (Ask_calls (w := W.drew) ⟨hp.ex⟩ c hs)
  have Hr := Lib.hid hr
  have HQ := Lib.hid hQ
  unfold askFn at a3
  unfold CallM.val at HA
  have Hrk : Hid (∀ w' : World, FrK [45, 47, 49] W.drew w' → w'.heap[rb]? = some (.cells #[.int .i64 0] 3 (0, 0))) := fun w' hf => hf.block rb _ hr (by simp [kindOf])
  have Hrb := Lib.hid hrb
  have Hlob : Hid (p.lo ≤ pb) := by
    obtain ⟨⟨_, _, _, _, _, _, _, _, hb, _⟩⟩ := hp
    show _ ≤ _; omega
  clear hx hc hr hp hs hQ hrb
  conv => arg 2; whnf
  refine wp_region_noPanic ?_
  go_region_law (first
    | (go_simp; go_at_call 58; refine Calls.mono HA.out ?_; rintro e w2 ⟨rfl, hp2, hf2, ho2⟩; have hr2 := Hrk.out w2 hf2; have hcv2 := cellv w2; have hfv2 := frozv w2)
    | fail)
  all_goals
    refine NoPanic.normal (HQ.out _ _ _ _ _ _ _ ?_ ?_ ?_ ?_)
    · have h0 : FrK [45, 47, 49] W w2 := ⟨hf2.os, hf2.tape, hf2.output, hf2.size, hf2.block⟩
      exact h0.set rb 0 _
    · have hlb := Hlob.out
      have hrb := Hrb.out
      exact Low.trans (⟨ho2.os, ho2.tape, ho2.output, ho2.size, ho2.block⟩ : Low p.lo W w2) ⟨rfl, rfl, rfl, by simp, fun k hk => by rw [hp_setCell, if_neg (by omega)]⟩
    · refine hp2.keep (by simp) (fun k o ho hk => ?_)
      rw [hp_setCell, if_neg]
      · exact ho
      · rintro rfl
        rw [hr2] at ho
        cases ho
        simp [kindOf] at hk
        have := Hrb.out
        omega
    · rw [hp_setCell, if_pos rfl, hr2]; rfl

theorem idle72 (p : Value) (w : World) : CallsD Tryz.prog 72 #[p] .returning w fun e u' w' => e = .returned (.tuple #[]) ∧ u' = .returning ∧ w' = w := by
  refine callsD_of_wpS Tryz.func72 rfl fun c₀ cs hu => ?_
  apply wpS_seq
  apply wpS_region
  simp [wpOpsS, go_sem, recoverD, hu, Tryz.ntmps72, Exit.thenS]
  refine wpS_cond (t := false) (by simp [Act.eval, Array.replicate]) ?_
  simp only [Bool.false_eq_true, if_false]
  refine wpS_of_wp (wp_skip ?_)
  cases c₀
  simp_all [bodyPostS, results, Tryz.results72]

/-- What the engine hears. -/
def HearPost (w : World) (pb : Nat) (p : PartM) (c : CallM) (e : Ending) (w' : World) : Prop :=
  e = .returned (.int .i64 (replyM (p.knows c) c.back p.k)) ∧ PAt w' pb (p.ask c) ∧ FrK [45, 47, 49] w w' ∧ Low p.lo w w'
set_option maxRecDepth 100000 in
set_option maxHeartbeats 4000000 in
theorem ask_calls {w : World} {xb pb jb mb : Nat} {pause clock : Int} {failed : Bool} (c : CallM) (p : PartM)
    (hx : w.heap[xb]? = some (.cells (egCells jb mb pause (askFn pb) clock failed) 79 (0, 0))) (hp : PAt w pb p) (hs : p.small) :
    Calls Tryz.prog 51 #[.pointer (some ⟨xb, 0, none⟩), c.val] w (HearPost w pb p c) := by
  have hmf : ∀ (fn : Fn) (first cap : Array Value) (w : World), (Instr.makeFunc fn first cap).run Tryz.prog w = .ok (.func fn first cap) w := fun _ _ _ _ => rfl
  have hpb : pb < w.heap.size := by obtain ⟨⟨_, _, _, _, h, _⟩⟩ := hp; exact lt_of_hp h
  have hN : New w ((w.alloc (.cells c.cells.toArray 46)).alloc (.cells #[.int .i64 0] 3)) := ((Fr.refl _ _).alloc _).alloc _
  have hx1 := hN.get hx (fun f => f)
  have hc1 := heap_alloc_keep (.cells #[.int .i64 0] 3) (heap_alloc_new w (.cells c.cells.toArray 46))
  have hr1 := heap_alloc_new (w.alloc (.cells c.cells.toArray 46)) (.cells #[.int .i64 0] 3)
  have hp1 : PAt ((w.alloc (.cells c.cells.toArray 46)).alloc (.cells #[.int .i64 0] 3)) pb p := hp.keep hN.size (fun k o ho _ => hN.get ho (fun f => f))
  rw [sz_alloc] at hr1
  have Hx1 := Lib.hid hx1
  have Hc1 := Lib.hid hc1
  have Hr1 := Lib.hid hr1
  have Hp1 := Lib.hid hp1
  have Hs := Lib.hid hs
  have Hpb := Lib.hid hpb
  have HN := Lib.hid hN
  have Hlob : Hid (p.lo ≤ w.heap.size) := by
    obtain ⟨⟨_, _, _, _, _, _, _, _, hb, _⟩⟩ := hp
    show _ ≤ _; omega
  clear hx hp hs hpb hN hx1 hc1 hr1 hp1
  unfold CallM.val
  go_enter_defers Tryz.func51, Tryz.ntmps51
  go_upto_region 2 with fail
  refine ask_r2 xb w.heap.size (w.heap.size + 1) pb jb mb pause clock failed c p _ Hx1.out Hc1.out Hr1.out Hp1.out Hs.out (by have := Hpb.out; omega) ?_
  intro y6 y7 y8 y9 y10 y11 w5 hf5 ho5 hp5 hr5
  have hz : w.heap.size < w.heap.size + 1 := by omega
  have hfk : FrK [45, 47, 49] w w5 := by
    have h0 := HN.out
    refine ⟨hf5.os.trans h0.os, hf5.tape.trans h0.tape, hf5.output.trans h0.output, Nat.le_trans h0.size hf5.size, fun k o ho hk => ?_⟩
    exact hf5.block k o (h0.get ho (fun f => f)) hk (by have := lt_of_hp ho; omega)
  have hoo : Low p.lo w w5 := (HN.out.low Hlob.out (fun _ f => f.elim)).trans ho5
  have Hoo := Lib.hid hoo
  have Hfk := Lib.hid hfk
  have Hp5 := Lib.hid hp5
  clear hfk hp5 hf5 hz hoo ho5
  have hcv := cellv w5
  go_wp2_with fail
  refine leaves_cons (f := 72) (args := #[.pointer (some ⟨w.heap.size + 1, 0, none⟩)]) (by simp) (by simp [go_sem]) ?_
  refine (idle72 _ _).mono ?_
  rintro e u' w'' ⟨rfl, rfl, rfl⟩
  have hsome : w''.cell? ⟨w.heap.size + 1, 0, none⟩ = some (.int .i64 (replyM (p.knows c) c.back p.k)) := by rw [cellv, hr5]; rfl
  refine ⟨.int .i64 (replyM (p.knows c) c.back p.k), ?_, rfl, Hp5.out, Hfk.out, Hoo.out⟩
  simp [results, Tryz.results51, go_sem, hsome]
end Go.Proofs.YtkafmfdipmhleaaGreatDoor
