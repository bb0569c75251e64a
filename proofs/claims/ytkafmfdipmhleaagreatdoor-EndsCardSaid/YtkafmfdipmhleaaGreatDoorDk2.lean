/-
  What is proved: contracts of NewDisk, Off, Bad, Pending, Writes, Told of the disk in memory.
-/
import Derived.Test.YtkafmfdipmhleaaGreatDoorFl
namespace Go.Proofs.YtkafmfdipmhleaaGreatDoor
open Go.RowKit

/-- A disk of noughts. -/
def DiskM.new (n : Nat) : DiskM := ⟨List.replicate n (List.replicate 128 0), none, 0, 0, 0, -1, 0, 0⟩
theorem made_zero (n : Nat) (z : Value) (hz : z.cells = Array.replicate 128 (.int .u8 0)) : madeCells z.cells (n * 128) = blkCells (List.replicate n (List.replicate 128 0)) [] := by
  rw [hz]
  apply Array.ext
  · rw [size_madeCells, blk_size _ (by intro b hb; obtain rfl := List.eq_of_mem_replicate hb; simp)]; simp
  · intro i h1 h2
    have e0 : blkCells (List.replicate n (List.replicate 128 0)) [] = (List.replicate (n * 128) (.int .u8 0)).toArray := by
      simp only [blkCells, List.append_nil]
      rw [List.flatten_replicate_replicate, List.map_replicate]
      rfl
    have e1 : (blkCells (List.replicate n (List.replicate 128 0)) [])[i] = .int .u8 0 := by
      simp only [e0, List.getElem_toArray, List.getElem_replicate]
    rw [e1]
    have h3 : i % 128 < (Array.replicate 128 (Value.int .u8 0)).size := by rw [Array.size_replicate]; omega
    have e2 : (Array.replicate 128 (Value.int .u8 0))[i % 128]! = .int .u8 0 := by rw [getElem!_pos (Array.replicate 128 (Value.int .u8 0)) (i % 128) h3, Array.getElem_replicate]
    simp only [madeCells, Array.getElem_map, Array.getElem_range, Array.size_replicate]
    exact e2
set_option maxRecDepth 100000 in
set_option maxHeartbeats 1000000 in
theorem NewDisk_calls (w : World) (n : Nat) (hn : n < 1000) : Calls Tryz.prog 38 #[.int .i64 n] w fun e w' => New w w' ∧ ∃ db bb, w.heap.size ≤ db ∧ w.heap.size ≤ bb ∧ e = .returned (.pointer (some ⟨db, 0, none⟩)) ∧ DiskAt w' db bb (DiskM.new n) := by
  obtain ⟨i, z, hi, hz, hs, hb, hzc⟩ : ∃ i z, Tryz.prog.info? 103 = some i ∧ i.zero = some z ∧ i.size = 128 ∧ i.bytes = 128 ∧ z.cells = Array.replicate 128 (.int .u8 0) := by
    have hx : (Tryz.prog.info? 103).map (fun i => (i.zero.map (·.cells), i.size, i.bytes)) = some (some (Array.replicate 128 (.int .u8 0)), 128, 128) := by kernel_rfl
    cases hi : Tryz.prog.info? 103 with
    | none => rw [hi] at hx; cases hx
    | some i =>
      rw [hi] at hx
      simp only [Option.map_some, Option.some.injEq, Prod.mk.injEq] at hx
      obtain ⟨h1, h2, h3⟩ := hx
      cases hz : i.zero with
      | none => rw [hz] at h1; cases h1
      | some z => rw [hz] at h1; exact ⟨i, z, rfl, hz, h2, h3, Option.some.inj h1⟩
  have hmk : ∀ w, (Instr.makeSlice 99 (.int .i64 n) (.int .i64 n)).run Tryz.prog w = .ok (.slice (some ⟨w.heap.size, 0, none⟩) n n) (w.alloc (.cells (blkCells (List.replicate n (List.replicate 128 0)) []) 103)) := by
    intro w
    have := run_make (P := Tryz.prog) w 99 103 i z Tryz.underlying99 hi hz .i64 .i64 n n (by omega) (Int.le_refl _) (by rw [hb]; omega) (by omega)
    rw [this, hs, Int.toNat_natCast, made_zero n z hzc]
  have hrem : (n : Int).tmod 1000 = n := by
    rw [Int.tmod_eq_emod_of_nonneg (by omega)]; omega
  have hn0 : ¬ ((n : Int) < 0) := by omega
  clear hi hz hs hb hzc
  generalize hBC : (blkCells (List.replicate n (List.replicate 128 0)) []) = BC at hmk
  have HBC := Lib.hid hBC
  clear hBC
  go_enter Tryz.func38, Tryz.ntmps38
  go_wp2_with fail
  go_ret
  have h1 := heap_alloc_keep (.cells #[.slice (some ⟨w.heap.size, 0, none⟩) n n, .slice none 0 0, .int .i64 0, .int .i64 0, .int .i64 0, .int .i64 (-1), .int .i64 0, .int .i64 0] 102) (heap_alloc_new w (.cells BC 103))
  refine ⟨((Fr.refl _ w).alloc _).alloc _, w.heap.size + 1, by omega, w.heap.size, Nat.le_refl _, rfl, ?_, n, [], .slice none 0 0, ?_, ?_, rfl⟩
  · exact ⟨fun b hb => by obtain rfl := List.eq_of_mem_replicate hb; simp, fun p hp => by cases hp⟩
  · have := heap_alloc_new (w.alloc (.cells BC 103)) (.cells #[.slice (some ⟨w.heap.size, 0, none⟩) n n, .slice none 0 0, .int .i64 0, .int .i64 0, .int .i64 0, .int .i64 (-1), .int .i64 0, .int .i64 0] 102)
    rw [sz_alloc] at this
    simpa [dkCells, DiskM.new] using this
  · rw [h1, ← HBC.out]; rfl

theorem pend_keep {w w' : World} {db : Nat} {cv : Value} {q : Option (Nat × List UInt8)} {c : Array Value} {f : Nat × Nat} (h3 : PendAt w cv q) (h1 : w.heap[db]? = some (.cells c 102 f)) (hf : Fr (· = db) w w') : PendAt w' cv q :=
  h3.frame hf (by rintro k rfl; exact ⟨_, h1, by simp [kindOf]⟩)

def DiskM.cut (d : DiskM) (n : Int) : DiskM := { d with off := wrap64 (d.calls + n) }
set_option maxHeartbeats 1000000 in
theorem Off_calls {w : World} {db bb : Nat} {d : DiskM} (h : DiskAt w db bb d) (n : Int) :
    Calls Tryz.prog 27 #[.pointer (some ⟨db, 0, none⟩), .int .i64 n] w fun e w' => e = .returned (.tuple #[]) ∧ Fr (· = db) w w' ∧ DiskAt w' db bb (d.cut n) := by
  obtain ⟨hwf, cap, rest, cv, h1, h2, h3⟩ := h
  have hk := fun w' => pend_keep (w' := w') h3 h1
  have hbd : bb ≠ db := ne_of_kind h2 h1 (by simp [kindOf])
  simp only [dkCells] at h1
  have Hw := Lib.hid hwf
  have H2 := Lib.hid h2
  have Hk := Lib.hid hk
  clear hwf h2 h3 hk
  have hcv := cellv w
  have hfv := frozv w
  go_enter Tryz.func27, Tryz.ntmps27
  go_wp2_with fail
  go_end0
  refine ⟨rfl, Fr.one _ _ _ _, Hw.out, cap, rest, cv, ?_, ?_, Hk.out _ (Fr.one _ _ _ _)⟩
  · rw [hp_setCell, if_pos rfl, h1]; rfl
  · rw [hp_setCell, if_neg hbd]; exact H2.out

def DiskM.spoil (d : DiskM) (n k : Int) : DiskM := { d with fr := wrap64 (d.calls + n), «to» := wrap64 (wrap64 (d.calls + n) + k) }
set_option maxHeartbeats 1000000 in
theorem Bad_calls {w : World} {db bb : Nat} {d : DiskM} (h : DiskAt w db bb d) (n k : Int) :
    Calls Tryz.prog 28 #[.pointer (some ⟨db, 0, none⟩), .int .i64 n, .int .i64 k] w fun e w' => e = .returned (.tuple #[]) ∧ Fr (· = db) w w' ∧ DiskAt w' db bb (d.spoil n k) := by
  obtain ⟨hwf, cap, rest, cv, h1, h2, h3⟩ := h
  have hk := fun w' => pend_keep (w' := w') h3 h1
  have hbd : bb ≠ db := ne_of_kind h2 h1 (by simp [kindOf])
  simp only [dkCells] at h1
  have Hw := Lib.hid hwf
  have H2 := Lib.hid h2
  have Hk := Lib.hid hk
  clear hwf h2 h3 hk
  have hc2 : w.drew.cell? ⟨db, 2, none⟩ = some (.int .i64 d.calls) := by rw [cellv, hp_drew, h1]; rfl
  have hc6 : w.drew.cell? ⟨db, 6, none⟩ = some (.int .i64 d.fr) := by rw [cellv, hp_drew, h1]; rfl
  have hc7 : w.drew.cell? ⟨db, 7, none⟩ = some (.int .i64 d.to) := by rw [cellv, hp_drew, h1]; rfl
  have hc6' : w.cell? ⟨db, 6, none⟩ = some (.int .i64 d.fr) := hc6
  have hc7' : w.cell? ⟨db, 7, none⟩ = some (.int .i64 d.to) := hc7
  have hf6' : w.frozen? ⟨db, 6, none⟩ = false := by rw [frozv, h1]; rfl
  have hf7' : w.frozen? ⟨db, 7, none⟩ = false := by rw [frozv, h1]; rfl
  have hf6 : w.drew.frozen? ⟨db, 6, none⟩ = false := by rw [frozv, hp_drew, h1]; rfl
  have hf7 : w.drew.frozen? ⟨db, 7, none⟩ = false := by rw [frozv, hp_drew, h1]; rfl
  go_enter Tryz.func28, Tryz.ntmps28
  go_wp2_with fail
  go_region
  all_goals
    go_wp2_with fail
    go_end0
    refine ⟨rfl, ((Fr.one _ _ _ _).trans (Fr.one _ _ _ _)).drew, Hw.out, cap, rest, cv, ?_, ?_, Hk.out _ ((Fr.one _ _ _ _).trans (Fr.one _ _ _ _)).drew⟩
    · simp only [hp_setCell, hp_drew, if_true, h1]; rfl
    · simp only [hp_setCell, hp_drew, if_neg hbd]; exact H2.out

def DiskM.pending (d : DiskM) : Int := match d.pend with | some _ => 1 | none => 0
set_option maxHeartbeats 1000000 in
theorem Pending_calls {w : World} {db bb : Nat} {d : DiskM} (h : DiskAt w db bb d) :
    Calls Tryz.prog 31 #[.pointer (some ⟨db, 0, none⟩)] w fun e w' => e = .returned (.int .i64 d.pending) ∧ w = w' := by
  obtain ⟨hwf, cap, rest, cv, h1, h2, h3⟩ := h
  simp only [dkCells] at h1
  have hcv := cellv w
  cases hp : d.pend with
  | none =>
    rw [hp] at h3
    obtain rfl : cv = .slice none 0 0 := h3
    clear hwf h2
    go_enter Tryz.func31, Tryz.ntmps31
    go_wp2
    go_ret
    exact ⟨by simp [DiskM.pending, hp], rfl⟩
  | some p =>
    rw [hp] at h3
    obtain ⟨cb, ccap, rest', rfl, hcb⟩ := h3
    clear hwf h2 hcb
    go_enter Tryz.func31, Tryz.ntmps31
    go_wp2
    go_ret
    exact ⟨by simp [DiskM.pending, hp], rfl⟩
set_option maxHeartbeats 1000000 in
theorem Told_calls {w : World} {db bb : Nat} {d : DiskM} (h : DiskAt w db bb d) :
    Calls Tryz.prog 33 #[.pointer (some ⟨db, 0, none⟩)] w fun e w' => e = .returned (.int .i64 d.told) ∧ w = w' := by
  obtain ⟨hwf, cap, rest, cv, h1, h2, h3⟩ := h
  simp only [dkCells] at h1
  clear hwf h2 h3
  have hcv := cellv w
  go_enter Tryz.func33, Tryz.ntmps33
  go_wp2
  go_ret
  exact ⟨rfl, rfl⟩
set_option maxHeartbeats 1000000 in
theorem Writes_calls {w : World} {db bb : Nat} {d : DiskM} (h : DiskAt w db bb d) :
    Calls Tryz.prog 34 #[.pointer (some ⟨db, 0, none⟩)] w fun e w' => e = .returned (.int .i64 d.writes) ∧ w = w' := by
  obtain ⟨hwf, cap, rest, cv, h1, h2, h3⟩ := h
  simp only [dkCells] at h1
  clear hwf h2 h3
  have hcv := cellv w
  go_enter Tryz.func34, Tryz.ntmps34
  go_wp2
  go_ret
  exact ⟨rfl, rfl⟩
end Go.Proofs.YtkafmfdipmhleaaGreatDoor
