/-
  What is proved: the disk behind a Format; the first engine of 'begun'. (No program in sight.)
-/
import Derived.Test.YtkafmfdipmhleaaGreatDoorSba
import Derived.Test.YtkafmfdipmhleaaGreatDoorKs
namespace Go.Proofs.YtkafmfdipmhleaaGreatDoor
open Go.RowKit Go.Maps

def hdr : List UInt8 := padB (recBytes ⟨1, 1, 0, 0, 0, []⟩)
def zer : List UInt8 := List.replicate 128 0
theorem parse_hdr : ∃ r, parseM hdr = some (r, true) ∧ r.kind = 1 ∧ r.epoch = 1 := by
  have h : (parseM hdr).map (fun p => (p.1.kind, p.1.epoch, p.2)) = some (1, 1, true) := by kernel_rfl
  cases hp : parseM hdr with
  | none => rw [hp] at h; cases h
  | some p =>
    rw [hp] at h
    obtain ⟨r, ok⟩ := p
    simp at h
    obtain ⟨h1, h2, rfl⟩ := h
    exact ⟨r, rfl, h1, h2⟩
theorem parse_zer : ∃ r, parseM zer = some (r, false) := by
  have hk : kindB zer = 0 := by decide
  unfold parseM
  split
  · rw [if_neg (by rw [hk]; decide)]
    exact ⟨_, by rw [hk]; rfl⟩
  · exact ⟨_, rfl⟩
/-- The disk behind a Format. -/
def DiskM.fresh (n : Nat) : DiskM := (DiskM.new n).format 1
theorem fresh_blocks (n : Nat) : (DiskM.fresh n).blocks = (List.replicate n zer).set 0 hdr := by
  simp [DiskM.fresh, DiskM.format, DiskM.sure, DiskM.flush, DiskM.put, DiskM.count, DiskM.new, zer, hdr]
theorem fresh_len (n : Nat) : (DiskM.fresh n).blocks.length = n := by rw [fresh_blocks]; simp
theorem fresh_pend (n : Nat) : (DiskM.fresh n).pend = none := by simp [DiskM.fresh, DiskM.format, DiskM.sure, DiskM.flush]
theorem new_quiet (n : Nat) : (DiskM.new n).quiet := ⟨by simp [DiskM.new], by simp [DiskM.new]⟩
theorem fresh_quiet (n : Nat) : (DiskM.fresh n).quiet := (((new_quiet n).count.flush).put 0 _).flush
theorem fresh_look0 (n : Nat) (hn : 1 ≤ n) : (DiskM.fresh n).look 0 = hdr := by
  unfold DiskM.look
  rw [fresh_pend, fresh_blocks]
  simp only [List.getD_eq_getElem?_getD]
  rw [List.getElem?_set_self (by simp; omega)]
  rfl
theorem fresh_look1 (n : Nat) (hn : 2 ≤ n) : (DiskM.fresh n).look 1 = zer := by
  unfold DiskM.look
  rw [fresh_pend, fresh_blocks]
  have : 1 < n := by omega
  simp [List.getD_eq_getElem?_getD, this]
theorem new_look0 (n : Nat) (hn : 1 ≤ n) : (DiskM.new n).look 0 = zer := by
  have : 0 < n := by omega
  simp [DiskM.look, DiskM.new, List.getD_eq_getElem?_getD, this, zer]
/-- An engine on a fresh disk. -/
def StM.fresh (n : Nat) (pause : Int) (p : PartM) : StM := ⟨pause, 0, [], ⟨1, 1, true⟩, (DiskM.fresh n).count.count, p⟩
theorem fresh_inv (n : Nat) (pause : Int) (p : PartM) (hn : 1 ≤ n ∧ n ≤ 1000) (hp : 1 ≤ pause ∧ pause ≤ 64) : (StM.fresh n pause p).inv :=
  ⟨(fresh_quiet n).count.count, fresh_pend n, by show 1 < 2 ^ 32; omega, fun g hg => by simp [StM.fresh] at hg, by simp [StM.fresh], by
    have : (StM.fresh n pause p).d.blocks.length = n := fresh_len n
    rw [this]; simp [StM.fresh, leftSum]; omega, by
    have : (StM.fresh n pause p).d.blocks.length = n := fresh_len n
    rw [this]; exact hn.2, hp⟩
/-- The first engine of begun: its saga is done by a tick. -/
def begun1 (lo : Nat) : StM := (StM.fresh 20 1 ⟨[], [], [], 0, lo⟩).submit 5 (kSteps 5 1)
theorem begun1_tick (lo : Nat) : ∃ g, (begun1 lo).tick.sagas = [g] ∧ g.st = 3 ∧ g.id = 5 ∧ (begun1 lo).tick.p.effs.length = 1 := by
  refine ⟨_, rfl, ?_, ?_, ?_⟩
  all_goals rfl
theorem kSteps_whole (id : Int) (n : Nat) (hid : 1 ≤ id ∧ id ≤ 1000) (hn : 1 ≤ n ∧ n ≤ 6) : wholeB id (kSteps id n) = true := by
  have hal : anyLong (kSteps id n) = false := by
    unfold anyLong
    rw [List.any_eq_false]
    intro x hx
    simp only [kSteps, List.mem_map] at hx
    obtain ⟨i, _, rfl⟩ := hx
    have e1 : (kStep id i).1.size = 3 := rfl
    have e2 : (kStep id i).2.size = 3 := rfl
    simp [longB, e1, e2]
  simp [wholeB, hal, kSteps_len]
  omega
end Go.Proofs.YtkafmfdipmhleaaGreatDoor
