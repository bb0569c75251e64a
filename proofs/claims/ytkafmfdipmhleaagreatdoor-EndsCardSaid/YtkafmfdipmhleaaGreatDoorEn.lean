/-
  What is proved: contracts of the engine's small calls: fail, fits, Format, write.
-/
import Derived.Test.YtkafmfdipmhleaaGreatDoorApp
namespace Go.Proofs.YtkafmfdipmhleaaGreatDoor
open Go.RowKit

/-- A fault of an operation, in a new block. -/
def FaultAt (w : World) (w' : World) (op : ByteArray) (n : Int) (v : Value) : Prop := ∃ fb, w.heap.size ≤ fb ∧ v = .iface 121 (.pointer (some ⟨fb, 0, none⟩)) ∧ w'.heap[fb]? = some (.cells (faultCells op n) 123 (0, 0))
def FailPost (w : World) (op : ByteArray) (n : Int) (e : Ending) (w' : World) : Prop := ∃ v, e = .returned v ∧ FaultAt w w' op n v ∧ New w w'
theorem fail_calls (w : World) (op : ByteArray) (n : Int) : Calls Tryz.prog 40 #[.string op, .int .i64 n] w (FailPost w op n) := by
  go_enter Tryz.func40, Tryz.ntmps40
  go_wp2
  go_ret
  exact ⟨_, rfl, ⟨w.heap.size, Nat.le_refl _, rfl, heap_alloc_new w _⟩, (Fr.refl _ _).alloc _⟩

def DiskM.fits (d : DiskM) : Bool := decide (8 ≤ d.blocks.length) && decide (d.blocks.length ≤ 400)
theorem fits_calls {w : World} {db bb : Nat} {d : DiskM} (h : DiskAt w db bb d) :
    Calls Tryz.prog 79 #[.iface 27 (.pointer (some ⟨db, 0, none⟩))] w fun e w' => e = .returned (.bool d.fits) ∧ w = w' := by
  have HB := Lib.hid (Blocks_calls h)
  have Hf : Hid (d.fits = (decide (8 ≤ d.blocks.length) && decide (d.blocks.length ≤ 400))) := rfl
  clear h
  generalize d.blocks.length = n at HB Hf
  by_cases h1 : (8 : Int) ≤ n
  · have h1' : 8 ≤ n := by omega
    by_cases h2 : (n : Int) ≤ 400
    · have h2' : n ≤ 400 := by omega
      go_enter Tryz.func79, Tryz.ntmps79
      go_wp2_with (first
        | (go_at_call 177; refine Calls.mono HB.out ?_; rintro e w2 ⟨rfl, rfl⟩)
        | fail)
      go_ret
      exact ⟨by rw [Hf.out]; simp [h1', h2'], rfl⟩
    · have h2' : ¬ n ≤ 400 := by omega
      go_enter Tryz.func79, Tryz.ntmps79
      go_wp2_with (first
        | (go_at_call 177; refine Calls.mono HB.out ?_; rintro e w2 ⟨rfl, rfl⟩)
        | fail)
      go_ret
      exact ⟨by rw [Hf.out]; simp [h2']; omega, rfl⟩
  · have h1' : ¬ 8 ≤ n := by omega
    go_enter Tryz.func79, Tryz.ntmps79
    go_wp2_with (first
      | (go_at_call 177; refine Calls.mono HB.out ?_; rintro e w2 ⟨rfl, rfl⟩)
      | fail)
    go_ret
    exact ⟨by rw [Hf.out]; simp; intros; omega, rfl⟩

def fmtStr : ByteArray := ⟨#[102, 111, 114, 109, 97, 116]⟩
/-- Format of a disk that tells no errors and on which nothing is pending. -/
def sFmtPost (w : World) (db bb : Nat) (d : DiskM) (ep : Nat) (e : Ending) (w' : World) : Prop :=
  if d.fits then FmtPost w db bb d ep e w' else FailPost w fmtStr 7 e w'
theorem sFormat_calls {w : World} {db bb : Nat} {d : DiskM} (h : DiskAt w db bb d) (hq : d.quiet) (hp : d.pend = none) (r : RecM) (ok : Bool) (hpm : parseM (d.look 0) = some (r, ok)) :
    Calls Tryz.prog 61 #[.iface 27 (.pointer (some ⟨db, 0, none⟩))] w (sFmtPost w db bb d (nextEpoch r ok)) := by
  have HF := Lib.hid (fits_calls h)
  have HJ := Lib.hid (fun h0 => jFormat_calls h hq hp h0 r ok hpm)
  have H0 : Hid (d.fits = true → 0 < d.blocks.length) := by intro h; simp [DiskM.fits] at h; omega
  clear h hq hp hpm
  cases hf : d.fits
  · have Hp : Hid (sFmtPost w db bb d (nextEpoch r ok) = FailPost w fmtStr 7) := by show _ = _; funext e w'; simp [sFmtPost, hf]
    rw [Hp.out]
    rw [hf] at HF
    clear hf
    go_enter Tryz.func61, Tryz.ntmps61
    go_wp2_with (first
      | (go_at_call 79; refine Calls.mono HF.out ?_; rintro e w2 ⟨rfl, rfl⟩)
      | (go_at_call 40; refine Calls.mono (fail_calls w fmtStr 7) ?_; rintro e w2 ⟨v, rfl, hv, hf2⟩)
      | fail)
    go_ret
    exact ⟨v, rfl, hv, hf2⟩
  · have Hp : Hid (sFmtPost w db bb d (nextEpoch r ok) = FmtPost w db bb d (nextEpoch r ok)) := by show _ = _; funext e w'; simp [sFmtPost, hf]
    rw [Hp.out]
    have HJ := Lib.hid (HJ.out (H0.out hf))
    rw [hf] at HF
    clear hf
    go_enter Tryz.func61, Tryz.ntmps61
    go_wp2_with (first
      | (go_at_call 79; refine Calls.mono HF.out ?_; rintro e w2 ⟨rfl, rfl⟩)
      | (go_at_call 92; refine Calls.mono HJ.out ?_; rintro e w2 ⟨rfl, hf2, hd2⟩)
      | fail)
    go_ret
    exact ⟨rfl, hf2, hd2⟩
end Go.Proofs.YtkafmfdipmhleaaGreatDoor
