/-
  Small facts on the model's heap, block by block: what a block is behind a store, an allocation, a draw; the relation 'Fr S w w'': behind the call only the blocks of S, of those that were there, may have turned. No program in sight.
-/
import Derived.WalkKit
import Derived.WalkSpells
import Derived.WalkLawsBesides
import Derived.Lib.Hide
import Derived.Deep.Draws
namespace Go.Proofs.YtkafmfdipmhleaaGreatDoor
open Go.RowKit

/-- The cell number o of a block. -/
def cellOf : Option Obj → Nat → Option Value
  | some (.cells c _ _), o => c[o]?
  | _, _ => none
@[simp] theorem cellOf_cells (c : Array Value) (t : TypeId) (f : Nat × Nat) (o : Nat) : cellOf (some (.cells c t f)) o = c[o]? := rfl

def frozOf : Option Obj → Nat → Bool
  | some (.cells _ _ (lo, hi)), o => lo ≤ o && o < hi
  | _, _ => false
@[simp] theorem frozOf_cells (c : Array Value) (t : TypeId) (o : Nat) : frozOf (some (.cells c t (0, 0))) o = false := by simp [frozOf]

theorem cellv (w : World) (b o : Nat) : w.cell? ⟨b, o, none⟩ = cellOf w.heap[b]? o := by
  unfold World.cell? cellOf
  cases w.heap[b]? with
  | none => rfl
  | some x => cases x <;> rfl
theorem frozv (w : World) (b o : Nat) : w.frozen? ⟨b, o, none⟩ = frozOf w.heap[b]? o := by
  unfold World.frozen? frozOf
  cases w.heap[b]? with
  | none => rfl
  | some x => cases x <;> rfl

/-- A block with one cell written. -/
def objSet : Option Obj → Nat → Value → Option Obj
  | some (.cells c t f), o, v => some (.cells (c.setIfInBounds o v) t f)
  | x, _, _ => x
@[simp] theorem objSet_cells (c : Array Value) (t : TypeId) (f : Nat × Nat) (o : Nat) (v : Value) : objSet (some (.cells c t f)) o v = some (.cells (c.setIfInBounds o v) t f) := rfl

theorem hp_setCell (w : World) (b o k : Nat) (v : Value) : (w.setCell ⟨b, o, none⟩ v).heap[k]? = if k = b then objSet w.heap[k]? o v else w.heap[k]? := by
  simp only [World.setCell, Array.getElem?_modify]
  by_cases h : b = k
  · subst h
    simp only [if_true]
    cases w.heap[b]? with
    | none => rfl
    | some x => cases x <;> rfl
  · rw [if_neg h, if_neg (fun e => h e.symm)]
theorem hp_alloc (w : World) (x : Obj) (k : Nat) : (w.alloc x).heap[k]? = if k = w.heap.size then some x else w.heap[k]? := by
  show (w.heap.push x)[k]? = _
  rw [Array.getElem?_push]
theorem hp_drew (w : World) (k : Nat) : w.drew.heap[k]? = w.heap[k]? := rfl
theorem hp_drewN (w : World) (n k : Nat) : (w.drewN n).heap[k]? = w.heap[k]? := rfl
theorem sz_setCell (w : World) (a : Addr) (v : Value) : (w.setCell a v).heap.size = w.heap.size := by simp
theorem sz_alloc (w : World) (x : Obj) : (w.alloc x).heap.size = w.heap.size + 1 := by simp
theorem sz_drew (w : World) : w.drew.heap.size = w.heap.size := rfl
theorem sz_drewN (w : World) (n : Nat) : (w.drewN n).heap.size = w.heap.size := rfl

theorem lt_of_hp {w : World} {b : Nat} {o : Obj} (h : w.heap[b]? = some o) : b < w.heap.size := lt_of_block h
theorem ne_size_of_hp {w : World} {b : Nat} {o : Obj} (h : w.heap[b]? = some o) : b ≠ w.heap.size := Nat.ne_of_lt (lt_of_block h)

/-- Of what was there only the blocks of S may have turned. -/
structure Fr (S : Nat → Prop) (w w' : World) : Prop where
  os : w'.os = w.os
  tape : w'.tape = w.tape
  output : w'.output = w.output
  size : w.heap.size ≤ w'.heap.size
  block : ∀ k, k < w.heap.size → ¬ S k → w'.heap[k]? = w.heap[k]?

theorem Fr.refl (S : Nat → Prop) (w : World) : Fr S w w := ⟨rfl, rfl, rfl, Nat.le_refl _, fun _ _ _ => rfl⟩
theorem Fr.trans {S : Nat → Prop} {a b c : World} (h : Fr S a b) (k : Fr S b c) : Fr S a c :=
  ⟨k.os.trans h.os, k.tape.trans h.tape, k.output.trans h.output, Nat.le_trans h.size k.size,
   fun i hi hs => (k.block i (Nat.lt_of_lt_of_le hi h.size) hs).trans (h.block i hi hs)⟩
/-- The second step may turn what was new to the first. -/
theorem Fr.trans' {S T : Nat → Prop} {a b c : World} (h : Fr S a b) (k : Fr T b c) (hT : ∀ i, i < a.heap.size → T i → S i) : Fr S a c :=
  ⟨k.os.trans h.os, k.tape.trans h.tape, k.output.trans h.output, Nat.le_trans h.size k.size,
   fun i hi hs => (k.block i (Nat.lt_of_lt_of_le hi h.size) (fun t => hs (hT i hi t))).trans (h.block i hi hs)⟩
theorem Fr.mono {S T : Nat → Prop} {a b : World} (h : Fr S a b) (hT : ∀ i, i < a.heap.size → S i → T i) : Fr T a b :=
  ⟨h.os, h.tape, h.output, h.size, fun i hi hs => h.block i hi (fun t => hs (hT i hi t))⟩
theorem Fr.drew {S : Nat → Prop} {a w : World} (h : Fr S a w) : Fr S a w.drew := ⟨h.os, h.tape, h.output, h.size, h.block⟩
theorem Fr.drewN {S : Nat → Prop} {a w : World} (h : Fr S a w) (n : Nat) : Fr S a (w.drewN n) := ⟨h.os, h.tape, h.output, h.size, h.block⟩
theorem Fr.alloc {S : Nat → Prop} {a w : World} (h : Fr S a w) (o : Obj) : Fr S a (w.alloc o) :=
  ⟨h.os, h.tape, h.output, Nat.le_trans h.size (by simp), fun i hi hs => by
    rw [hp_alloc, if_neg (by have := h.size; omega)]; exact h.block i hi hs⟩
theorem Fr.setCell {S : Nat → Prop} {a w : World} (h : Fr S a w) {b : Nat} (hb : b < a.heap.size → S b) (o : Nat) (v : Value) : Fr S a (w.setCell ⟨b, o, none⟩ v) :=
  ⟨h.os, h.tape, h.output, Nat.le_trans h.size (by simp), fun i hi hs => by
    rw [hp_setCell, if_neg (by rintro rfl; exact hs (hb hi))]; exact h.block i hi hs⟩
theorem Fr.setRow {S : Nat → Prop} {a w : World} (h : Fr S a w) {b : Nat} (hb : b < a.heap.size → S b) (c : Array Value) : Fr S a (w.setRow b c) :=
  ⟨h.os, h.tape, h.output, Nat.le_trans h.size (by simp), fun i hi hs => by
    rw [setRow_other w b i c (by rintro rfl; exact hs (hb hi))]; exact h.block i hi hs⟩
theorem Fr.get {S : Nat → Prop} {w w' : World} (h : Fr S w w') {k : Nat} {o : Obj} (hk : w.heap[k]? = some o) (hs : ¬ S k) : w'.heap[k]? = some o :=
  (h.block k (lt_of_hp hk) hs).trans hk
theorem Fr.below {S : Nat → Prop} {w w' : World} (h : Fr S w w') {B : Nat} (hB : B ≤ w.heap.size) (hs : ∀ k, k < B → ¬ S k) : Below B w w' :=
  ⟨h.os, h.tape, h.output, h.size, fun k hk => h.block k (by omega) (hs k hk)⟩
theorem Fr.one (b : Nat) (w : World) (o : Nat) (v : Value) : Fr (· = b) w (w.setCell ⟨b, o, none⟩ v) := (Fr.refl (· = b) w).setCell (fun _ => rfl) o v
theorem Fr.ofGrown {w w' : World} {row : Option Nat} (h : w.grownBy w' row) : Fr (fun k => row = some k) w w' :=
  ⟨h.os, h.tape, h.output, h.size, fun k hk hs => h.block k hk (fun e => hs e.symm)⟩
/-- Nothing that was there has turned. -/
abbrev New (w w' : World) : Prop := Fr (fun _ => False) w w'

/-- What kind of block it is: of cells of type t: t + 1. -/
def kindOf : Obj → Nat
  | .cells _ t _ => t + 1
  | _ => 0
theorem ne_of_kind {w : World} {a b : Nat} {x y : Obj} (ha : w.heap[a]? = some x) (hb : w.heap[b]? = some y) (h : kindOf x ≠ kindOf y) : a ≠ b := by
  rintro rfl; rw [ha] at hb; exact h (by rw [Option.some.inj hb])

/-- A byte as a cell. -/
def bv (x : UInt8) : Value := .int .u8 (x.toNat : Int)
end Go.Proofs.YtkafmfdipmhleaaGreatDoor
