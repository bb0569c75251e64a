/-
  What is proved: contracts of the disk in memory: fails, none, Blocks.
-/
import Derived.Test.YtkafmfdipmhleaaGreatDoorProg
import Derived.Test.YtkafmfdipmhleaaGreatDoorBase
namespace Go.Proofs.YtkafmfdipmhleaaGreatDoor
open Go.RowKit

/-- The disk in memory: its blocks; the write that is not flushed (never more than one); its counts. -/
structure DiskM where
  blocks : List (List UInt8)
  pend : Option (Nat × List UInt8)
  calls : Int
  writes : Int
  told : Int
  off : Int
  fr : Int
  to : Int

def DiskM.bad (d : DiskM) : Bool := (decide (0 ≤ d.off) && decide (d.off ≤ d.calls)) || (decide (d.fr ≤ d.calls) && decide (d.calls < d.to))
/-- A call is counted, and an error if it tells one. -/
def DiskM.count (d : DiskM) : DiskM := { d with calls := wrap64 (d.calls + 1), told := if d.bad then wrap64 (d.told + 1) else d.told }
def DiskM.wf (d : DiskM) : Prop := (∀ b ∈ d.blocks, b.length = 128) ∧ ∀ p, d.pend = some p → p.1 < d.blocks.length ∧ p.2.length = 128

def blkCells (bl : List (List UInt8)) (rest : List Value) : Array Value := (bl.flatten.map bv ++ rest).toArray
def wrCells (i : Nat) (b : List UInt8) (rest : List Value) : Array Value := ((Value.int .i64 (i : Int) :: b.map bv) ++ rest).toArray
def PendAt (w : World) (cv : Value) : Option (Nat × List UInt8) → Prop
  | none => cv = .slice none 0 0
  | some (i, b) => ∃ cb ccap rest, cv = .slice (some ⟨cb, 0, none⟩) 1 ccap ∧ w.heap[cb]? = some (.cells (wrCells i b rest) 107 (0, 0))
def dkCells (bb n cap : Nat) (cv : Value) (d : DiskM) : Array Value :=
  #[.slice (some ⟨bb, 0, none⟩) n cap, cv, .int .i64 d.calls, .int .i64 d.writes, .int .i64 d.told, .int .i64 d.off, .int .i64 d.fr, .int .i64 d.to]
structure DiskAt (w : World) (db bb : Nat) (d : DiskM) : Prop where
  wf : d.wf
  ex : ∃ cap rest cv, w.heap[db]? = some (.cells (dkCells bb d.blocks.length cap cv d) 102 (0, 0)) ∧ w.heap[bb]? = some (.cells (blkCells d.blocks rest) 103 (0, 0)) ∧ PendAt w cv d.pend

/-- A block whose kind is none of a disk's. -/
def Apart (w : World) (ks : List Nat) (S : Nat → Prop) : Prop := ∀ k, S k → ∃ o, w.heap[k]? = some o ∧ kindOf o ∉ ks
theorem PendAt.frame {w w' : World} {cv : Value} {q : Option (Nat × List UInt8)} {S : Nat → Prop} (h : PendAt w cv q) (hf : Fr S w w') (hS : ∀ k, S k → ∃ o, w.heap[k]? = some o ∧ kindOf o ≠ 108) : PendAt w' cv q := by
  cases q with
  | none => exact h
  | some p =>
    obtain ⟨cb, ccap, rest', hcv, hcb⟩ := h
    refine ⟨cb, ccap, rest', hcv, hf.get hcb (fun s => ?_)⟩
    obtain ⟨o, ho, hk⟩ := hS cb s
    rw [hcb] at ho
    exact hk (by rw [← Option.some.inj ho]; rfl)
theorem DiskAt.frame {w w' : World} {db bb : Nat} {d : DiskM} {S : Nat → Prop} (h : DiskAt w db bb d) (hf : Fr S w w') (hS : ∀ k, S k → k ≠ db ∧ k ≠ bb ∧ ∃ o, w.heap[k]? = some o ∧ kindOf o ≠ 108) : DiskAt w' db bb d := by
  obtain ⟨hwf, cap, rest, cv, h1, h2, h3⟩ := h
  refine ⟨hwf, cap, rest, cv, hf.get h1 (fun s => (hS db s).1 rfl), hf.get h2 (fun s => (hS bb s).2.1 rfl), ?_⟩
  cases hp : d.pend with
  | none => rw [hp] at h3; exact h3
  | some p =>
    rw [hp] at h3
    obtain ⟨cb, ccap, rest', hcv, hcb⟩ := h3
    refine ⟨cb, ccap, rest', hcv, hf.get hcb (fun s => ?_)⟩
    obtain ⟨_, _, o, ho, hk⟩ := hS cb s
    rw [hcb] at ho
    exact hk (by rw [← Option.some.inj ho]; rfl)
/-- If no block of a disk's kinds turns, a disk stays as it is. -/
theorem DiskAt.apart {w w' : World} {db bb : Nat} {d : DiskM} {S : Nat → Prop} (h : DiskAt w db bb d) (hf : Fr S w w') (hS : Apart w [103, 104, 108] S) : DiskAt w' db bb d := by
  refine h.frame hf (fun k s => ?_)
  obtain ⟨o, ho, hk⟩ := hS k s
  obtain ⟨_, cap, rest, cv, h1, h2, _⟩ := h
  refine ⟨?_, ?_, o, ho, fun e => hk (by simp [e])⟩
  · rintro rfl; rw [h1] at ho; exact hk (by rw [← Option.some.inj ho]; simp [kindOf])
  · rintro rfl; rw [h2] at ho; exact hk (by rw [← Option.some.inj ho]; simp [kindOf])
theorem DiskAt.new {w w' : World} {db bb : Nat} {d : DiskM} (h : DiskAt w db bb d) (hf : New w w') : DiskAt w' db bb d := h.apart hf (fun _ f => f.elim)

theorem bad_cases (c o f t : Int) : ((decide (0 ≤ o) && decide (o ≤ c)) || (decide (f ≤ c) && decide (c < t))) = true ∨ ((decide (0 ≤ o) && decide (o ≤ c)) || (decide (f ≤ c) && decide (c < t))) = false := by
  cases ((decide (0 ≤ o) && decide (o ≤ c)) || (decide (f ≤ c) && decide (c < t))) <;> simp

set_option maxHeartbeats 1000000 in
theorem fails_calls {w : World} {db bb : Nat} {d : DiskM} (h : DiskAt w db bb d) :
    Calls Tryz.prog 181 #[.pointer (some ⟨db, 0, none⟩)] w fun e w' => e = .returned (.bool d.bad) ∧ DiskAt w' db bb d.count ∧ Fr (· = db) w w' := by
  obtain ⟨hwf, cap, rest, cv, h1, h2, h3⟩ := h
  have hne : bb ≠ db := ne_of_kind h2 h1 (by simp [kindOf])
  have hp : ∀ w', Fr (· = db) w w' → PendAt w' cv d.pend := by
    intro w' hf
    cases hp : d.pend with
    | none => rw [hp] at h3; exact h3
    | some p =>
      rw [hp] at h3
      obtain ⟨cb, ccap, rest', hcv, hcb⟩ := h3
      exact ⟨cb, ccap, rest', hcv, hf.get hcb (ne_of_kind hcb h1 (by simp [kindOf]))⟩
  obtain ⟨blocks, pend, c, wr, tl, o, f, t⟩ := d
  have key : ∀ (b : Bool) (w' : World), b = DiskM.bad ⟨blocks, pend, c, wr, tl, o, f, t⟩ → Fr (· = db) w w' → w'.heap[db]? = some (.cells #[.slice (some ⟨bb, 0, none⟩) blocks.length cap, cv, .int .i64 (wrap64 (c + 1)), .int .i64 wr, .int .i64 (if b then wrap64 (tl + 1) else tl), .int .i64 o, .int .i64 f, .int .i64 t] 102 (0, 0)) →
      DiskAt w' db bb (DiskM.count ⟨blocks, pend, c, wr, tl, o, f, t⟩) := by
    rintro b w' rfl hf hb
    exact ⟨hwf, cap, rest, cv, hb, hf.get h2 hne, hp w' hf⟩
  have Key := Lib.hid key
  have Hbad : Hid (DiskM.bad ⟨blocks, pend, c, wr, tl, o, f, t⟩ = ((decide (0 ≤ o) && decide (o ≤ c)) || (decide (f ≤ c) && decide (c < t)))) := rfl
  simp only [dkCells] at h1
  clear key hp h3 hwf h2
  have hcv := cellv w
  have hfv := frozv w
  by_cases a1 : 0 ≤ o <;> by_cases a2 : o ≤ c <;> by_cases a3 : f ≤ c <;> by_cases a4 : c < t
  all_goals
    go_enter Tryz.func181, Tryz.ntmps181
    go_wp2
    go_ret
    have hF : ∀ (v : Value), Fr (· = db) w ((w.setCell ⟨db, 2, none⟩ (.int .i64 (wrap64 (c + 1)))).setCell ⟨db, 4, none⟩ v) := fun v => ((Fr.refl (· = db) w).setCell (fun _ => rfl) _ _).setCell (fun _ => rfl) _ _
    have hF1 : Fr (· = db) w (w.setCell ⟨db, 2, none⟩ (.int .i64 (wrap64 (c + 1)))) := Fr.one _ _ _ _
    refine ⟨by rw [Hbad.out]; first | (simp [a1, a2, a3, a4]; done) | (simp [a1, a2, a3, a4]; omega), Key.out _ _ (by rw [Hbad.out]) ?_ (by first | (simp [hp_setCell, h1, a1, a2, a3, a4]; done) | (simp [hp_setCell, h1, a1, a2, a3, a4]; intro hh; omega)), ?_⟩ <;> first | exact hF1 | exact hF _

set_option maxHeartbeats 1000000 in
theorem none_calls {w : World} {db bb : Nat} {d : DiskM} (h : DiskAt w db bb d) (i : Nat) :
    Calls Tryz.prog 182 #[.pointer (some ⟨db, 0, none⟩), .int .i64 i] w fun e w' => e = .returned (.bool (decide (d.blocks.length ≤ i))) ∧ w = w' := by
  obtain ⟨hwf, cap, rest, cv, h1, h2, h3⟩ := h
  simp only [dkCells] at h1
  clear hwf h2 h3
  have hcv := cellv w
  go_enter Tryz.func182, Tryz.ntmps182
  go_wp2
  all_goals
    go_ret
    exact ⟨by first | (simp; done) | (simp; omega), rfl⟩

set_option maxHeartbeats 1000000 in
theorem Blocks_calls {w : World} {db bb : Nat} {d : DiskM} (h : DiskAt w db bb d) :
    Calls Tryz.prog 177 #[.pointer (some ⟨db, 0, none⟩)] w fun e w' => e = .returned (.int .i64 d.blocks.length) ∧ w = w' := by
  obtain ⟨hwf, cap, rest, cv, h1, h2, h3⟩ := h
  simp only [dkCells] at h1
  clear hwf h2 h3
  have hcv := cellv w
  go_enter Tryz.func177, Tryz.ntmps177
  go_wp2
  go_ret
  exact ⟨rfl, rfl⟩
end Go.Proofs.YtkafmfdipmhleaaGreatDoor
