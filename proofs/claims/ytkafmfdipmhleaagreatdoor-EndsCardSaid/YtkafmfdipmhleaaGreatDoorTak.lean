/-
  What is proved: the contract of the closure in journal's parse that takes one text off the rest of a block.
-/
import Derived.Test.YtkafmfdipmhleaaGreatDoorByt
namespace Go.Proofs.YtkafmfdipmhleaaGreatDoor
open Go.RowKit

/-- One text, and what is behind it. -/
def takeOne : List UInt8 → Option (ByteArray × List UInt8)
  | [] => none
  | x :: t => if x.toNat < t.length then some (⟨(t.take x.toNat).toArray⟩, t.drop x.toNat) else none
/-- The bytes of row g that are still to be read. -/
def RestAt (gc : Array Value) (g : Nat) (rest : List UInt8) (v : Value) : Prop :=
  ∃ off, v = .slice (some ⟨g, off, none⟩) rest.length rest.length ∧ ∀ j, j < rest.length → gc[off + j]? = some (bv (rest.getD j 0))

set_option maxRecDepth 100000 in
set_option maxHeartbeats 2000000 in
theorem take_calls (w : World) (g q : Nat) (gc : Array Value) (gt : TypeId) (x : UInt8) (t : List UInt8) (v : Value) (hlen : t.length ≤ 128) (hx : x.toNat < t.length) (hg : w.heap[g]? = some (.cells gc gt (0, 0)))
    (hq : w.heap[q]? = some (.cells #[v] 92 (0, 0))) (hr : RestAt gc g (x :: t) v) :
    Calls Tryz.prog 132 #[.pointer (some ⟨q, 0, none⟩)] w fun e w' => ∃ v', e = .returned (.string ⟨(t.take x.toNat).toArray⟩) ∧ w'.heap[q]? = some (.cells #[v'] 92 (0, 0)) ∧ RestAt gc g (t.drop x.toNat) v' ∧ Fr (· = q) w w' := by
  obtain ⟨off, rfl, hc⟩ := hr
  have h0 := hc 0 (by simp)
  simp only [List.length_cons] at hq ⊢
  rw [Nat.add_zero] at h0
  unfold bv at h0
  simp only [List.getD_eq_getElem?_getD, List.getElem?_cons_zero, Option.getD_some] at h0
  have hcv := cellv w
  have hfv := frozv w
  have Hc := Lib.hid hc
  have hx0 := x.toNat_lt
  clear hc
  have hT : 0 < t.length := by omega
  have htake : Hid (strOfNums ((t.take x.toNat).map fun b : UInt8 => (b.toNat : Int)) = ⟨(t.take x.toNat).toArray⟩) := by
    show _ = _
    simp [strOfNums, Function.comp_def]
  have hcell : Hid (∀ j, j < x.toNat → w.cell? ⟨g, off + 1 + j, none⟩ = some (.int .u8 (((t.take x.toNat).map fun b : UInt8 => (b.toNat : Int)).getD j 0))) := by
    intro j hj
    have h1 := Hc.out (j + 1) (by simp; omega)
    rw [hcv, hg, cellOf_cells, show off + 1 + j = off + (j + 1) by omega, h1]
    simp [bv, hj, List.getElem?_take_of_lt, (by omega : j < t.length)]
  generalize hN : t.length = N at hx hlen hq hT
  have HN := Lib.hid hN
  clear hN
  have hx1 : ¬ ((x.toNat : Int) = N) := by omega
  have hx2 : ¬ (x.toNat = N) := by omega
  have hN0 : ¬ N = 0 := by omega
  have hlm : ((t.take x.toNat).map fun b : UInt8 => (b.toNat : Int)).length = x.toNat := by simp [HN.out]; omega
  have hcnv : (convert 92 9 (.slice (some ⟨g, off + 1, none⟩) x.toNat N)).run Tryz.prog w = .ok (.string ⟨(t.take x.toNat).toArray⟩) w := by
    rw [run_convert_bytes_arg (P := Tryz.prog) w 92 5 Tryz.underlying92 Tryz.underlying5 g (off + 1) x.toNat N _ hlm hcell.out 9 Tryz.underlying9, htake.out]
  clear hlm
  go_enter Tryz.func132, Tryz.ntmps132
  go_wp2
  go_ret
  refine ⟨_, rfl, by rw [hp_setCell, if_pos rfl, hq]; rfl, ⟨off + (1 + x.toNat), ?_, ?_⟩, Fr.one _ _ _ _⟩
  · rw [List.length_drop, HN.out, show N + 1 - (1 + x.toNat) = N - x.toNat by omega]
  · intro j hj
    rw [List.length_drop] at hj
    have h1 := Hc.out (x.toNat + j + 1) (by simp; omega)
    rw [show off + (1 + x.toNat) + j = off + (x.toNat + j + 1) by omega, h1]
    simp [List.getElem?_drop]
end Go.Proofs.YtkafmfdipmhleaaGreatDoor
