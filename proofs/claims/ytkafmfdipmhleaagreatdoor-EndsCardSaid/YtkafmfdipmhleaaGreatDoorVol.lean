/-
  What is proved: contracts of a device that throws its errors: check, read, sure; failed and the deferred closures where nothing was thrown.
-/
import Derived.Test.YtkafmfdipmhleaaGreatDoorDk2
import Derived.Handy
import Derived.Defers
import Derived.Recover
namespace Go.Proofs.YtkafmfdipmhleaaGreatDoor
open Go.RowKit

def devStr : ByteArray := ⟨#[100, 101, 118, 105, 99, 101]⟩
def faultCells (op : ByteArray) (e : Int) : Array Value := #[.string op, .iface 55 (.int .i64 e)]
def vol (db : Nat) : Value := .agg #[.iface 27 (.pointer (some ⟨db, 0, none⟩))]

theorem check_ok (w : World) : Calls Tryz.prog 71 #[.nilIface] w fun e w' => e = .returned (.tuple #[]) ∧ w' = w := by
  go_enter Tryz.func71, Tryz.ntmps71
  go_wp2
  go_end0
  exact ⟨rfl, rfl⟩
theorem check_bad (w : World) (n : Int) : Calls Tryz.prog 71 #[.iface 55 (.int .i64 n)] w fun e w' => e = .panicked [{ v := .iface 121 (.pointer (some ⟨w.heap.size, 0, none⟩)), recovered := false }] ∧ w' = w.alloc (.cells (faultCells devStr n) 123) := by
  go_enter Tryz.func71, Tryz.ntmps71
  go_wp2
  refine ⟨rfl, ?_⟩
  exact ⟨rfl, rfl⟩
/-- A device's error, thrown. -/
def Thrown (w : World) (e : Ending) (w' : World) : Prop := ∃ fb, w.heap.size ≤ fb ∧ e = .panicked [{ v := .iface 121 (.pointer (some ⟨fb, 0, none⟩)), recovered := false }] ∧ w'.heap[fb]? = some (.cells (faultCells devStr 5) 123 (0, 0))
def VReadPost (w : World) (db bb : Nat) (d : DiskM) (i : Nat) (e : Ending) (w' : World) : Prop :=
  DiskAt w' db bb d.count ∧ Fr (· = db) w w' ∧
    (d.bad = true ∧ Thrown w e w' ∨
     d.bad = false ∧ ∃ g, w.heap.size ≤ g ∧ e = .returned (.slice (some ⟨g, 0, none⟩) 128 128) ∧ w'.heap[g]? = some (.cells ((d.look i).map bv).toArray 5 (0, 0)))
set_option maxHeartbeats 1000000 in
theorem read_calls {w : World} {db bb : Nat} {d : DiskM} (h : DiskAt w db bb d) (i : Nat) (hi : i < d.blocks.length) :
    Calls Tryz.prog 105 #[vol db, .int .i64 i] w (VReadPost w db bb d i) := by
  unfold vol
  have h1 := h.new ((Fr.refl _ w).alloc (.cells #[.iface 27 (.pointer (some ⟨db, 0, none⟩))] 130))
  go_enter Tryz.func105, Tryz.ntmps105
  go_wp2_with (go_at_call 179; refine Calls.mono (Read_calls h1 i hi) ?_; rintro e w1 ⟨hd1, hf1, ⟨hb, rfl⟩ | ⟨hb, g, hg, rfl, hc⟩⟩)
  · refine Calls.mono (check_bad w1 5) ?_
    rintro e w2 ⟨rfl, rfl⟩
    refine ⟨rfl, ?_⟩
    exact ⟨hd1.new ((Fr.refl _ _).alloc _), (((Fr.refl _ w).alloc _).trans' hf1 (fun _ _ e => e)).alloc _, .inl ⟨hb, w1.heap.size, Nat.le_trans (by simp) hf1.size, rfl, heap_alloc_new w1 _⟩⟩
  · refine Calls.mono (check_ok w1) ?_
    rintro e w2 ⟨rfl, rfl⟩
    go_wp2
    go_ret
    exact ⟨hd1, (((Fr.refl _ w).alloc _).trans' hf1 (fun _ _ e => e)), .inr ⟨hb, g, Nat.le_trans (by simp) hg, rfl, hc⟩⟩

/-- What sure does: written and flushed; or thrown in between. -/
def SurePost (w : World) (db bb : Nat) (d : DiskM) (i : Nat) (l : List UInt8) (e : Ending) (w' : World) : Prop :=
  Fr (fun k => k = db ∨ k = bb) w w' ∧
    (d.bad = true ∧ Thrown w e w' ∧ DiskAt w' db bb d.count ∨
     d.bad = false ∧ (d.put i l).bad = true ∧ Thrown w e w' ∧ DiskAt w' db bb (d.put i l).count ∨
     d.bad = false ∧ (d.put i l).bad = false ∧ e = .returned (.tuple #[]) ∧ DiskAt w' db bb (d.put i l).flush)
set_option maxRecDepth 100000 in
set_option maxHeartbeats 1000000 in
theorem sure_calls {w : World} {db bb : Nat} {d : DiskM} (h : DiskAt w db bb d) (i : Nat) (hi : i < d.blocks.length) (hp : d.pend = none) (sb so n scap : Nat) (l : List UInt8) (hn : n = l.length) (hl : l.length ≤ 128) (sc : Array Value) (st : TypeId)
    (hs : w.heap[sb]? = some (.cells sc st (0, 0))) (hst : st ≠ 102) (hsc : ∀ j, j < l.length → sc[so + j]? = some (bv (l.getD j 0))) :
    Calls Tryz.prog 95 #[vol db, .int .i64 i, .slice (some ⟨sb, so, none⟩) n scap] w (SurePost w db bb d i l) := by
  unfold vol
  have h1 := h.new ((Fr.refl _ w).alloc (.cells #[.iface 27 (.pointer (some ⟨db, 0, none⟩))] 130))
  have hs1 := heap_alloc_keep (.cells #[.iface 27 (.pointer (some ⟨db, 0, none⟩))] 130) hs
  have hv := heap_alloc_new w (.cells #[.iface 27 (.pointer (some ⟨db, 0, none⟩))] 130)
  have hF1 : Fr (fun k => k = db ∨ k = bb) w (w.alloc (.cells #[.iface 27 (.pointer (some ⟨db, 0, none⟩))] 130)) := (Fr.refl _ w).alloc _
  have hvd : w.heap.size ≠ db := by
    obtain ⟨_, cap, rest, cv, h1, _⟩ := h
    have := lt_of_hp h1
    omega
  have HW := Lib.hid (Write_calls h1 i hi hp sb so n scap l hn hl sc st hs1 hst hsc)
  clear h1 hs1 hsc hn hl hst hs h hi hp
  go_enter Tryz.func95, Tryz.ntmps95
  go_wp2_with (first
    | (go_at_call 180; refine Calls.mono HW.out ?_; rintro e w1 ⟨hf1, ⟨hb, rfl, hd1⟩ | ⟨hb, rfl, hd1⟩⟩)
    | fail)
  · refine Calls.mono (check_bad w1 5) ?_
    rintro e w2 ⟨rfl, rfl⟩
    refine ⟨rfl, ?_⟩
    exact ⟨(hF1.trans' hf1 (fun _ _ e => .inl e)).alloc _, .inl ⟨hb, ⟨w1.heap.size, Nat.le_trans (by simp) hf1.size, rfl, heap_alloc_new w1 _⟩, hd1.new ((Fr.refl _ _).alloc _)⟩⟩
  · refine Calls.mono (check_ok w1) ?_
    rintro e w2 ⟨rfl, rfl⟩
    have hv1 := hf1.get hv hvd
    have hcv1 := cellv w2
    go_wp2_with (first
      | (go_at_call 178; refine Calls.mono (Flush_calls hd1) ?_; rintro e w3 ⟨hf3, ⟨hb3, rfl, hd3⟩ | ⟨hb3, rfl, hd3⟩⟩)
      | fail)
    · refine Calls.mono (check_bad w3 5) ?_
      rintro e w4 ⟨rfl, rfl⟩
      refine ⟨rfl, ?_⟩
      exact ⟨((hF1.trans' hf1 (fun _ _ e => .inl e)).trans hf3).alloc _, .inr (.inl ⟨hb, hb3, ⟨w3.heap.size, Nat.le_trans (by simp) (Nat.le_trans hf1.size hf3.size), rfl, heap_alloc_new w3 _⟩, hd3.new ((Fr.refl _ _).alloc _)⟩)⟩
    · refine Calls.mono (check_ok w3) ?_
      rintro e w4 ⟨rfl, rfl⟩
      go_wp2
      go_end0
      exact ⟨(hF1.trans' hf1 (fun _ _ e => .inl e)).trans hf3, .inr (.inr ⟨hb, hb3, rfl, hd3⟩)⟩

/-! ### Where nothing was thrown -/
theorem failed_nil (w : World) (op : ByteArray) (p : Value) : Calls Tryz.prog 70 #[.nilIface, .string op, p] w fun e w' => e = .returned (.tuple #[]) ∧ w' = w := by
  go_enter Tryz.func70, Tryz.ntmps70
  go_wp2
  go_end0
  exact ⟨rfl, rfl⟩
theorem idle69 (p : Value) (w : World) : CallsD Tryz.prog 69 #[p] .returning w fun e u' w' => e = .returned (.tuple #[]) ∧ u' = .returning ∧ w' = w := by
  refine callsD_of_wpS Tryz.func69 rfl fun c₀ cs hu => ?_
  apply wpS_region
  simp [wpOpsS, go_sem, recoverD, hu, Tryz.ntmps69]
  refine Calls.mono (failed_nil w _ p) ?_
  rintro e w' ⟨rfl, rfl⟩
  cases c₀
  simp_all [bodyPostS, results, Tryz.results69]
theorem idle94 (p : Value) (w : World) : CallsD Tryz.prog 94 #[p] .returning w fun e u' w' => e = .returned (.tuple #[]) ∧ u' = .returning ∧ w' = w := by
  refine callsD_of_wpS Tryz.func94 rfl fun c₀ cs hu => ?_
  apply wpS_region
  simp [wpOpsS, go_sem, recoverD, hu, Tryz.ntmps94]
  refine Calls.mono (failed_nil w _ p) ?_
  rintro e w' ⟨rfl, rfl⟩
  cases c₀
  simp_all [bodyPostS, results, Tryz.results94]
theorem idle103 (p : Value) (w : World) : CallsD Tryz.prog 103 #[p] .returning w fun e u' w' => e = .returned (.tuple #[]) ∧ u' = .returning ∧ w' = w := by
  refine callsD_of_wpS Tryz.func103 rfl fun c₀ cs hu => ?_
  apply wpS_region
  simp [wpOpsS, go_sem, recoverD, hu, Tryz.ntmps103]
  refine Calls.mono (failed_nil w _ p) ?_
  rintro e w' ⟨rfl, rfl⟩
  cases c₀
  simp_all [bodyPostS, results, Tryz.results103]
theorem idle116 (p : Value) (w : World) : CallsD Tryz.prog 116 #[p] .returning w fun e u' w' => e = .returned (.tuple #[]) ∧ u' = .returning ∧ w' = w := by
  refine callsD_of_wpS Tryz.func116 rfl fun c₀ cs hu => ?_
  apply wpS_region
  simp [wpOpsS, go_sem, recoverD, hu, Tryz.ntmps116]
  refine Calls.mono (failed_nil w _ p) ?_
  rintro e w' ⟨rfl, rfl⟩
  cases c₀
  simp_all [bodyPostS, results, Tryz.results116]
end Go.Proofs.YtkafmfdipmhleaaGreatDoor
