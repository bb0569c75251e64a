/-
  What is proved: Small facts on the model's heap, block by block: what a block is behind a store, an allocation, a draw; the relation 'Fr S w w'': behind the call only the blocks of S, of those that were there, may have turned. No program in sight. the contracts of journal's (*block).put: numbers are laid as bytes, the least first. the contracts of journal's crc, get and (*block).text. the contract of journal's (*block).text: a text is laid as its length and its bytes. the contract of journal's Record.bytes: the record, laid out as bytes in a new block. contracts of how a saga moves: Waits, Moves, Left, Pause, forward, backward, Move. contracts of the disk in memory: fails, none, Blocks. the contract of the disk's Read: the block as it was written last, or an error.
-/
import Derived.WalkKit
import Derived.WalkSpells
import Derived.WalkLawsBesides
import Derived.Lib.Hide
import Derived.Deep.Draws
import Derived.Test.YtkafmfdipmhleaaGreatDoorProg
import Derived.Deep.QuietTactic
import Derived.BigQuiet
import Derived.OpenShut
import Derived.Lib.BufferWrite
import Derived.Deep.RegionLaw
import Derived.IntWalk
import Derived.Deep.MidRow
import Derived.Deep.WholeRow
import Derived.Laws.CopyOwn
import Derived.Deep.DeepCutAuto

namespace Go.Proofs.YtkafmfdipmhleaaGreatDoor
open Go.RowKit
/-- The cell number o of a block. -/
def cellOf : Option Obj → Nat → Option Value
  | some (.cells c _ _), o => c[o]?
  | _, _ => none
@[simp] theorem cellOf_cells (c : Array Value) (t : TypeId) (f : Nat × Nat) (o : Nat) : cellOf (some (.cells c t f)) o = c[o]? := rfl
def frozOf : Option Obj → Nat → Bool
  | some (.cells _ _ (lo, hi)), o => lo ≤ o && o < hi
  | _, _ => false
@[simp] theorem frozOf_cells (c : Array Value) (t : TypeId) (o : Nat) : frozOf (some (.cells c t (0, 0))) o = false := by simp [frozOf]
theorem cellv (w : World) (b o : Nat) : w.cell? ⟨b, o, none⟩ = cellOf w.heap[b]? o := by
  unfold World.cell? cellOf
  cases w.heap[b]? with
  | none => rfl
  | some x => cases x <;> rfl
theorem frozv (w : World) (b o : Nat) : w.frozen? ⟨b, o, none⟩ = frozOf w.heap[b]? o := by
  unfold World.frozen? frozOf
  cases w.heap[b]? with
  | none => rfl
  | some x => cases x <;> rfl
/-- A block with one cell written. -/
def objSet : Option Obj → Nat → Value → Option Obj
  | some (.cells c t f), o, v => some (.cells (c.setIfInBounds o v) t f)
  | x, _, _ => x
@[simp] theorem objSet_cells (c : Array Value) (t : TypeId) (f : Nat × Nat) (o : Nat) (v : Value) : objSet (some (.cells c t f)) o v = some (.cells (c.setIfInBounds o v) t f) := rfl
theorem hp_setCell (w : World) (b o k : Nat) (v : Value) : (w.setCell ⟨b, o, none⟩ v).heap[k]? = if k = b then objSet w.heap[k]? o v else w.heap[k]? := by
  simp only [World.setCell, Array.getElem?_modify]
  by_cases h : b = k
  · subst h
    simp only [if_true]
    cases w.heap[b]? with
    | none => rfl
    | some x => cases x <;> rfl
  · rw [if_neg h, if_neg (fun e => h e.symm)]
theorem hp_alloc (w : World) (x : Obj) (k : Nat) : (w.alloc x).heap[k]? = if k = w.heap.size then some x else w.heap[k]? := by
  show (w.heap.push x)[k]? = _
  rw [Array.getElem?_push]
theorem hp_drew (w : World) (k : Nat) : w.drew.heap[k]? = w.heap[k]? := rfl
theorem hp_drewN (w : World) (n k : Nat) : (w.drewN n).heap[k]? = w.heap[k]? := rfl
theorem sz_setCell (w : World) (a : Addr) (v : Value) : (w.setCell a v).heap.size = w.heap.size := by simp
theorem sz_alloc (w : World) (x : Obj) : (w.alloc x).heap.size = w.heap.size + 1 := by simp
theorem lt_of_hp {w : World} {b : Nat} {o : Obj} (h : w.heap[b]? = some o) : b < w.heap.size := lt_of_block h
theorem ne_size_of_hp {w : World} {b : Nat} {o : Obj} (h : w.heap[b]? = some o) : b ≠ w.heap.size := Nat.ne_of_lt (lt_of_block h)
/-- Of what was there only the blocks of S may have turned. -/
structure Fr (S : Nat → Prop) (w w' : World) : Prop where
  os : w'.os = w.os
  tape : w'.tape = w.tape
  output : w'.output = w.output
  size : w.heap.size ≤ w'.heap.size
  block : ∀ k, k < w.heap.size → ¬ S k → w'.heap[k]? = w.heap[k]?
theorem Fr.refl (S : Nat → Prop) (w : World) : Fr S w w := ⟨rfl, rfl, rfl, Nat.le_refl _, fun _ _ _ => rfl⟩
theorem Fr.trans {S : Nat → Prop} {a b c : World} (h : Fr S a b) (k : Fr S b c) : Fr S a c :=
  ⟨k.os.trans h.os, k.tape.trans h.tape, k.output.trans h.output, Nat.le_trans h.size k.size,
   fun i hi hs => (k.block i (Nat.lt_of_lt_of_le hi h.size) hs).trans (h.block i hi hs)⟩
/-- The second step may turn what was new to the first. -/
theorem Fr.trans' {S T : Nat → Prop} {a b c : World} (h : Fr S a b) (k : Fr T b c) (hT : ∀ i, i < a.heap.size → T i → S i) : Fr S a c :=
  ⟨k.os.trans h.os, k.tape.trans h.tape, k.output.trans h.output, Nat.le_trans h.size k.size,
   fun i hi hs => (k.block i (Nat.lt_of_lt_of_le hi h.size) (fun t => hs (hT i hi t))).trans (h.block i hi hs)⟩
theorem Fr.mono {S T : Nat → Prop} {a b : World} (h : Fr S a b) (hT : ∀ i, i < a.heap.size → S i → T i) : Fr T a b :=
  ⟨h.os, h.tape, h.output, h.size, fun i hi hs => h.block i hi (fun t => hs (hT i hi t))⟩
theorem Fr.drew {S : Nat → Prop} {a w : World} (h : Fr S a w) : Fr S a w.drew := ⟨h.os, h.tape, h.output, h.size, h.block⟩
theorem Fr.drewN {S : Nat → Prop} {a w : World} (h : Fr S a w) (n : Nat) : Fr S a (w.drewN n) := ⟨h.os, h.tape, h.output, h.size, h.block⟩
theorem Fr.alloc {S : Nat → Prop} {a w : World} (h : Fr S a w) (o : Obj) : Fr S a (w.alloc o) :=
  ⟨h.os, h.tape, h.output, Nat.le_trans h.size (by simp), fun i hi hs => by
    rw [hp_alloc, if_neg (by have := h.size; omega)]; exact h.block i hi hs⟩
theorem Fr.setCell {S : Nat → Prop} {a w : World} (h : Fr S a w) {b : Nat} (hb : b < a.heap.size → S b) (o : Nat) (v : Value) : Fr S a (w.setCell ⟨b, o, none⟩ v) :=
  ⟨h.os, h.tape, h.output, Nat.le_trans h.size (by simp), fun i hi hs => by
    rw [hp_setCell, if_neg (by rintro rfl; exact hs (hb hi))]; exact h.block i hi hs⟩
theorem Fr.setRow {S : Nat → Prop} {a w : World} (h : Fr S a w) {b : Nat} (hb : b < a.heap.size → S b) (c : Array Value) : Fr S a (w.setRow b c) :=
  ⟨h.os, h.tape, h.output, Nat.le_trans h.size (by simp), fun i hi hs => by
    rw [setRow_other w b i c (by rintro rfl; exact hs (hb hi))]; exact h.block i hi hs⟩
theorem Fr.get {S : Nat → Prop} {w w' : World} (h : Fr S w w') {k : Nat} {o : Obj} (hk : w.heap[k]? = some o) (hs : ¬ S k) : w'.heap[k]? = some o :=
  (h.block k (lt_of_hp hk) hs).trans hk
theorem Fr.below {S : Nat → Prop} {w w' : World} (h : Fr S w w') {B : Nat} (hB : B ≤ w.heap.size) (hs : ∀ k, k < B → ¬ S k) : Below B w w' :=
  ⟨h.os, h.tape, h.output, h.size, fun k hk => h.block k (by omega) (hs k hk)⟩
theorem Fr.one (b : Nat) (w : World) (o : Nat) (v : Value) : Fr (· = b) w (w.setCell ⟨b, o, none⟩ v) := (Fr.refl (· = b) w).setCell (fun _ => rfl) o v
theorem Fr.ofGrown {w w' : World} {row : Option Nat} (h : w.grownBy w' row) : Fr (fun k => row = some k) w w' :=
  ⟨h.os, h.tape, h.output, h.size, fun k hk hs => h.block k hk (fun e => hs e.symm)⟩
/-- Nothing that was there has turned. -/
abbrev New (w w' : World) : Prop := Fr (fun _ => False) w w'
/-- What kind of block it is: of cells of type t: t + 1. -/
def kindOf : Obj → Nat
  | .cells _ t _ => t + 1
  | _ => 0
theorem ne_of_kind {w : World} {a b : Nat} {x y : Obj} (ha : w.heap[a]? = some x) (hb : w.heap[b]? = some y) (h : kindOf x ≠ kindOf y) : a ≠ b := by
  rintro rfl; rw [ha] at hb; exact h (by rw [Option.some.inj hb])
/-- A byte as a cell. -/
def bv (x : UInt8) : Value := .int .u8 (x.toNat : Int)
end Go.Proofs.YtkafmfdipmhleaaGreatDoor

namespace Go.Proofs.YtkafmfdipmhleaaGreatDoor
open Go.RowKit
/-- A block on its way: its bytes, and how much of it is written. -/
def wayCells (bs : List UInt8) (at_ : Nat) : Array Value := (bs.map bv ++ [Value.int .i64 (at_ : Int)]).toArray
theorem way_byte (bs : List UInt8) (at_ k : Nat) (h : k < bs.length) : (wayCells bs at_)[k]? = some (bv (bs.getD k 0)) := by
  simp [wayCells, List.getElem?_append_left, h]
theorem way_at (bs : List UInt8) (at_ : Nat) (h : bs.length = 128) : (wayCells bs at_)[128]? = some (.int .i64 (at_ : Int)) := by
  simp [wayCells, h]
theorem way_set (bs : List UInt8) (at_ k : Nat) (x : UInt8) (h : k < bs.length) : (wayCells bs at_).setIfInBounds k (bv x) = wayCells (bs.set k x) at_ := by
  simp only [wayCells, List.setIfInBounds_toArray, List.map_set]
  rw [List.set_append_left _ _ (by simpa using h)]
theorem way_setAt (bs : List UInt8) (at_ q : Nat) (h : bs.length = 128) : (wayCells bs at_).setIfInBounds 128 (.int .i64 (q : Int)) = wayCells bs q := by
  simp only [wayCells, List.setIfInBounds_toArray]
  rw [List.set_append_right _ _ (by simp [h])]
  simp [h]
/-- Byte k of a number. -/
def leB (n k : Nat) : UInt8 := UInt8.ofNat (n / 2 ^ (8 * k))
def leN (wd n : Nat) : List UInt8 := (List.range wd).map (leB n)
theorem leN_length (wd n : Nat) : (leN wd n).length = wd := by simp [leN]
theorem bv_leB (n k : Nat) : bv (leB n k) = .int .u8 ((n : Int) / 2 ^ (8 * k) % 256) := by
  unfold bv leB
  congr 1
/-- bs with l written over it from at_ on. -/
def wrAt (bs : List UInt8) (at_ : Nat) (l : List UInt8) : List UInt8 := bs.take at_ ++ l ++ bs.drop (at_ + l.length)
theorem wrAt_nil (bs : List UInt8) (at_ : Nat) : wrAt bs at_ [] = bs := by simp [wrAt]
theorem wrAt_length (bs : List UInt8) (at_ : Nat) (l : List UInt8) (h : at_ + l.length ≤ bs.length) : (wrAt bs at_ l).length = bs.length := by
  simp [wrAt]; omega
theorem wrAt_snoc (bs : List UInt8) (at_ : Nat) (l : List UInt8) (x : UInt8) (h : at_ + l.length < bs.length) : (wrAt bs at_ l).set (at_ + l.length) x = wrAt bs at_ (l ++ [x]) := by
  unfold wrAt
  have h1 : (bs.take at_ ++ l).length = at_ + l.length := by simp; omega
  rw [List.set_append_right _ _ (by omega), h1, Nat.sub_self]
  rw [show bs.drop (at_ + l.length) = bs[at_ + l.length] :: bs.drop (at_ + l.length + 1) from List.drop_eq_getElem_cons h]
  simp [List.append_assoc, Nat.add_assoc]
theorem wrAt_wrAt (bs : List UInt8) (at_ : Nat) (l m : List UInt8) (h : at_ + l.length ≤ bs.length) : wrAt (wrAt bs at_ l) (at_ + l.length) m = wrAt bs at_ (l ++ m) := by
  unfold wrAt
  have h1 : (bs.take at_ ++ l).length = at_ + l.length := by simp; omega
  rw [List.take_append_of_le_length (by omega), List.take_of_length_le (by omega), List.drop_append, List.drop_of_length_le (by omega), h1]
  simp [List.append_assoc, Nat.add_assoc]
theorem flat_len (wd : Nat) (ns : List Nat) : (ns.flatMap (leN wd)).length = wd * ns.length := by
  induction ns with
  | nil => simp
  | cons a l ih => simp [ih, leN_length, Nat.mul_add]; omega
/-- One byte laid, and the mark moved: what the block is then. -/
theorem put_step (w : World) (b : Nat) (bs : List UInt8) (at_ : Nat) (l : List UInt8) (P n q : Nat) (hb : w.heap[b]? = some (.cells (wayCells (wrAt bs at_ l) P) 201 (0, 0)))
    (hbs : bs.length = 128) (hP : P = at_ + l.length) (hPlt : P < 128) :
    ((w.setCell ⟨b, P, none⟩ (.int .u8 ((n : Int) / 2 ^ (8 * q) % 256))).setCell ⟨b, 128, none⟩ (.int .i64 ((P : Int) + 1))).drew.heap[b]? =
      some (.cells (wayCells (wrAt bs at_ (l ++ [leB n q])) (P + 1)) 201 (0, 0)) := by
  have hl : (wrAt bs at_ l).length = 128 := by rw [wrAt_length _ _ _ (by omega)]; exact hbs
  rw [hp_drew, hp_setCell, if_pos rfl, hp_setCell, if_pos rfl, hb, objSet_cells, objSet_cells, ← bv_leB, way_set _ _ _ _ (by omega), hP, wrAt_snoc _ _ _ _ (by omega),
    show ((↑(at_ + l.length) : Int) + 1) = ((at_ + l.length + 1 : Nat) : Int) from by push_cast; rfl, way_setAt _ _ _ (by rw [wrAt_length _ _ _ (by simp; omega)]; exact hbs)]
/-- What put does: the numbers' bytes, from the mark on. -/
def PutPost (b : Nat) (w : World) (bs : List UInt8) (at_ : Nat) (l : List UInt8) (e : Ending) (w' : World) : Prop :=
  e = .returned (.tuple #[]) ∧ w'.heap[b]? = some (.cells (wayCells (wrAt bs at_ l) (at_ + l.length)) 201 (0, 0)) ∧ Fr (· = b) w w'
set_option maxHeartbeats 1000000 in
theorem put_calls (b : Nat) (w : World) (bs : List UInt8) (at_ wd : Nat) (ns : List Nat) (lb loff cap : Nat) (hat : at_ + wd * ns.length ≤ 128) (hwd : 1 ≤ wd ∧ wd ≤ 8) (hlen : ns.length ≤ 128)
    (hl : ∀ j, j < ns.length → cellOf w.heap[lb]? (loff + j) = some (.int .i64 (ns.getD j 0 : Nat))) (hn : ∀ n ∈ ns, n < 2^63) (hne : lb ≠ b) (hlb : lb < w.heap.size)
    (hbs : bs.length = 128) (hb : w.heap[b]? = some (.cells (wayCells bs at_) 201 (0, 0))) :
    Calls Tryz.prog 117 #[.pointer (some ⟨b, 0, none⟩), .int .i64 wd, .slice (some ⟨lb, loff, none⟩) ns.length cap] w (PutPost b w bs at_ (ns.flatMap (leN wd))) := by
  obtain ⟨hwd1, hwd2⟩ := hwd
  go_enter Tryz.func117, Tryz.ntmps117
  go_wp2
  go_loopw [11] (fun i wr => ∃ m : Nat, m ≤ ns.length ∧ i = .int .i64 m ∧ wr.heap[b]? = some (.cells (wayCells (wrAt bs at_ ((ns.take m).flatMap (leN wd))) (at_ + wd * m)) 201 (0, 0)) ∧ Fr (· = b) w wr) (fun i _ => ns.length - (intOf i).toNat)
  case atStart => exact ⟨0, by omega, rfl, by simpa [wrAt] using hb, Fr.refl _ _⟩
  case round =>
    obtain ⟨m, hm, rfl, hb1, hf1⟩ := hrel
    by_cases hlt : m < ns.length
    · have hcv := cellv wr
      have hc := (congrArg (cellOf · (loff + m)) (hf1.block lb hlb hne)).trans (hl m hlt)
      have hnm : ns.getD m 0 < 2 ^ 63 := hn _ (by rw [List.getD_eq_getElem?_getD]; simp [hlt])
      have htk : (ns.take (m + 1)).flatMap (leN wd) = (ns.take m).flatMap (leN wd) ++ leN wd (ns.getD m 0) := by
        rw [List.take_succ_eq_append_getElem hlt, List.flatMap_append, List.getD_eq_getElem?_getD]; simp [hlt]
      have htl : ((ns.take m).flatMap (leN wd)).length = wd * m := by rw [flat_len, List.length_take, Nat.min_eq_left hm]
      generalize hnv : ns.getD m 0 = n at hc hnm htk
      have hmw : at_ + wd * m + wd ≤ 128 := by
        have : wd * (m + 1) ≤ wd * ns.length := Nat.mul_le_mul_left _ hlt
        rw [Nat.mul_add] at this; omega
      generalize hpre : (ns.take m).flatMap (leN wd) = pre at hb1 htk htl
      have Hb1 := Lib.hid hb1
      have Htk := Lib.hid htk
      have Htl := Lib.hid htl
      clear hb1 hnv hb hl htk htl hpre
      go_wp2
      go_loopw [16] (fun k wr' => ∃ q : Nat, q ≤ wd ∧ k = .int .i64 q ∧ wr'.heap[b]? = some (.cells (wayCells (wrAt bs at_ (pre ++ (List.range q).map (leB n))) (at_ + wd * m + q)) 201 (0, 0)) ∧ Fr (· = b) w wr') (fun k _ => wd - (intOf k).toNat)
      case atStart => exact ⟨0, by omega, rfl, by simpa using Hb1.out, hf1⟩
      case round =>
        obtain ⟨q, hq, rfl, hb2, hf2⟩ := hrel
        by_cases hlt2 : q < wd
        · have hl2 : (pre ++ (List.range q).map (leB n)).length = wd * m + q := by simp [Htl.out]
          generalize hL : pre ++ (List.range q).map (leB n) = L at hb2 hl2
          have hlen2 : (wrAt bs at_ L).length = 128 := by rw [wrAt_length _ _ _ (by omega)]; exact hbs
          have h1 := way_at _ (at_ + wd * m + q) hlen2
          have h2 := way_byte (wrAt bs at_ L) (at_ + wd * m + q) (at_ + wd * m + q) (by omega)
          have HB2 := Lib.hid hb2
          have HL := Lib.hid hL
          have Hl2 := Lib.hid hl2
          clear hlen2 hL hl2
          generalize hX : wayCells (wrAt bs at_ L) (at_ + wd * m + q) = X at hb2 h1 h2
          generalize hP : at_ + wd * m + q = P at h1 h2
          have hPlt : P < 128 := by omega
          have HP := Lib.hid hP
          clear hP hmw hat hc hX
          have hcv := cellv wr
          have hfv := frozv wr
          go_wp2
          go_region
          all_goals go_wp2
          all_goals go_roundw
          case rel =>
            refine ⟨q + 1, by omega, by go_num, ?_, ((hf2.setCell (fun _ => rfl) _ _).setCell (fun _ => rfl) _ _).drew⟩
            have := put_step wr b bs at_ L P n q (by rw [← HP.out]; exact HB2.out) hbs (by rw [← HP.out, Hl2.out]; omega) hPlt
            rw [this, List.range_succ, List.map_append, ← List.append_assoc, HL.out, ← HP.out]
            rfl
          case measure => simp [intOf]; omega
        · obtain rfl : q = wd := by omega
          have HB2 := Lib.hid hb2
          clear hb2
          go_wp2
          all_goals go_roundw
          case rel =>
            exact ⟨m + 1, by omega, by go_num, by rw [HB2.out, Htk.out, Nat.mul_add, Nat.mul_one, ← Nat.add_assoc]; rfl, hf2⟩
          case measure => simp [intOf]; omega
    · obtain rfl : m = ns.length := by omega
      have HB1 := Lib.hid hb1
      clear hb1
      go_wp2
      go_end0
      exact ⟨rfl, by rw [HB1.out, List.take_length, flat_len], hf1⟩
end Go.Proofs.YtkafmfdipmhleaaGreatDoor

namespace Go.Proofs.YtkafmfdipmhleaaGreatDoor
open Go.RowKit
/-- The check sum, as the program reckons it. -/
def crcBit (c : Int) : Int := bits BinOp.xor IntKind.u32 (c / 2) (bits BinOp.and IntKind.u32 (-bits BinOp.and IntKind.u32 c 1 % 4294967296) 2197175160)
def crcBits : Nat → Int → Int
  | 0, c => c
  | n + 1, c => crcBit (crcBits n c)
def crcByte (c : Int) (x : UInt8) : Int := crcBits 8 (bits BinOp.xor IntKind.u32 c ((x.toNat : Int) % 4294967296))
def crcRun (l : List UInt8) : Int := l.foldl crcByte 4294967295
def crcM (l : List UInt8) : Int := bits BinOp.xor IntKind.u32 IntKind.u32.max (crcRun l)
theorem bits_u32 (op : BinOp) (x y : Int) : 0 ≤ bits op IntKind.u32 x y ∧ bits op IntKind.u32 x y < 4294967296 := by
  have h := wf_bits op IntKind.u32 x y
  have hmin : IntKind.u32.min = 0 := rfl
  have hmax : IntKind.u32.max = 4294967295 := rfl
  simp only [Lit.wf, Bool.and_eq_true, decide_eq_true_eq] at h
  omega
theorem crcBits_u32 (n : Nat) (c : Int) (h : 0 ≤ c ∧ c < 4294967296) : 0 ≤ crcBits n c ∧ crcBits n c < 4294967296 := by
  cases n with
  | zero => exact h
  | succ n => rw [crcBits]; unfold crcBit; exact bits_u32 _ _ _
theorem crcRun_snoc (l : List UInt8) (x : UInt8) : crcRun (l ++ [x]) = crcByte (crcRun l) x := by simp [crcRun]
theorem crcRun_u32 (l : List UInt8) : 0 ≤ crcRun l ∧ crcRun l < 4294967296 := by
  rcases List.eq_nil_or_concat l with rfl | ⟨m, x, rfl⟩
  · exact ⟨by decide, by decide⟩
  · rw [List.concat_eq_append, crcRun_snoc]; exact crcBits_u32 8 _ (bits_u32 _ _ _)
theorem crcM_u32 (l : List UInt8) : 0 ≤ crcM l ∧ crcM l < 4294967296 := bits_u32 _ _ _
set_option maxHeartbeats 1000000 in
theorem crc_calls (w : World) (l : List UInt8) (b off cap : Nat) (hlen : l.length ≤ 128)
    (hl : ∀ j, j < l.length → cellOf w.heap[b]? (off + j) = some (bv (l.getD j 0))) :
    Calls Tryz.prog 119 #[.slice (some ⟨b, off, none⟩) l.length cap] w fun e w' => e = .returned (.int .u32 (crcM l)) ∧ w = w' := by
  have hcv := cellv w
  go_enter Tryz.func119, Tryz.ntmps119
  go_wp2
  go_loop [3, 8] (fun c i => ∃ m : Nat, m ≤ l.length ∧ i = .int .i64 m ∧ c = .int .u32 (crcRun (l.take m))) (fun _ i => l.length - (intOf i).toNat)
  case atStart => exact ⟨0, by omega, rfl, rfl⟩
  case round =>
    obtain ⟨m, hm, rfl, rfl⟩ := hrel
    have hcr := crcRun_u32 (l.take m)
    by_cases hlt : m < l.length
    · have hc := hl m hlt
      have htk : crcRun (l.take (m + 1)) = crcByte (crcRun (l.take m)) (l.getD m 0) := by
        rw [List.take_succ_eq_append_getElem hlt, crcRun_snoc, List.getD_eq_getElem?_getD]; simp [hlt]
      generalize l.getD m 0 = x at hc htk
      generalize crcRun (l.take m) = cc at htk hcr
      obtain ⟨hc0, hc1⟩ := hcr
      unfold bv at hc
      have Htk := Lib.hid htk
      clear hl htk
      go_wp2
      go_loop [3, 16] (fun c i => ∃ q : Nat, q ≤ 8 ∧ i = .int .i64 q ∧ c = .int .u32 (crcBits q (bits BinOp.xor IntKind.u32 cc ((x.toNat : Int) % 4294967296)))) (fun _ i => 8 - (intOf i).toNat)
      case atStart => exact ⟨0, by omega, rfl, rfl⟩
      case round =>
        obtain ⟨q, hq, rfl, rfl⟩ := hrel
        have hcr := crcBits_u32 q _ (bits_u32 BinOp.xor cc ((x.toNat : Int) % 4294967296))
        by_cases hlt2 : q < 8
        · have hs : crcBits (q + 1) (bits BinOp.xor IntKind.u32 cc ((x.toNat : Int) % 4294967296)) = crcBit (crcBits q (bits BinOp.xor IntKind.u32 cc ((x.toNat : Int) % 4294967296))) := rfl
          have Hs := Lib.hid hs
          clear hs
          generalize crcBits q (bits BinOp.xor IntKind.u32 cc ((x.toNat : Int) % 4294967296)) = c2 at hcr Hs
          obtain ⟨hd0, hd1⟩ := hcr
          go_wp2
          go_round
          case rel => exact ⟨q + 1, by omega, by go_num, by rw [Hs.out]; rfl⟩
          case measure => simp [intOf]; omega
        · obtain rfl : q = 8 := by omega
          have Hs : Hid (crcBits 8 (bits BinOp.xor IntKind.u32 cc ((x.toNat : Int) % 4294967296)) = crcByte cc x) := rfl
          generalize crcBits 8 (bits BinOp.xor IntKind.u32 cc ((x.toNat : Int) % 4294967296)) = c2 at hcr Hs
          obtain ⟨hd0, hd1⟩ := hcr
          go_wp2
          go_round
          case rel => exact ⟨m + 1, by omega, by go_num, by rw [Htk.out, Hs.out]⟩
          case measure => simp [intOf]; omega
    · obtain rfl : m = l.length := by omega
      rw [List.take_length] at hcr
      rw [List.take_length]
      have Hs : Hid (crcM l = bits BinOp.xor IntKind.u32 IntKind.u32.max (crcRun l)) := rfl
      generalize crcRun l = cc at hcr Hs
      obtain ⟨hc0, hc1⟩ := hcr
      go_wp2
      go_ret
      exact ⟨by rw [Hs.out]; rfl, rfl⟩
/-- The number that bytes mean, the least first. -/
def leVal : List UInt8 → Nat
  | [] => 0
  | x :: l => x.toNat + 256 * leVal l
theorem leVal_snoc (l : List UInt8) (x : UInt8) : leVal (l ++ [x]) = leVal l + x.toNat * 2 ^ (8 * l.length) := by
  induction l with
  | nil => simp [leVal]
  | cons a l ih =>
    simp only [List.cons_append, leVal, ih, List.length_cons]
    have : 2 ^ (8 * (l.length + 1)) = 256 * 2 ^ (8 * l.length) := by rw [Nat.mul_add, Nat.pow_add, Nat.mul_comm]
    rw [this, Nat.mul_add, ← Nat.add_assoc, Nat.mul_left_comm]
theorem leVal_lt (l : List UInt8) : leVal l < 2 ^ (8 * l.length) := by
  induction l with
  | nil => simp [leVal]
  | cons a l ih =>
    have h1 : 2 ^ (8 * (l.length + 1)) = 256 * 2 ^ (8 * l.length) := by rw [Nat.mul_add, Nat.pow_add, Nat.mul_comm]
    have := a.toNat_lt
    simp only [leVal, List.length_cons, h1]; omega
theorem or_i64 (a x i : Nat) (hi : i ≤ 3) (ha : a < 2 ^ (8 * i)) (hx : x < 256) : bits BinOp.or IntKind.i64 (a : Int) (wrap64 ((x : Int) * 2 ^ (8 * i))) = ((a + x * 2 ^ (8 * i) : Nat) : Int) := by
  have h4 : x * 2 ^ (8 * i) < 2 ^ 32 := by
    calc x * 2 ^ (8 * i) < 256 * 2 ^ (8 * i) := by apply Nat.mul_lt_mul_of_pos_right hx (Nat.two_pow_pos _)
      _ = 2 ^ (8 * i + 8) := by rw [Nat.pow_add]; omega
      _ ≤ 2 ^ 32 := Nat.pow_le_pow_right (by omega) (by omega)
  have h5 : a < 2 ^ 24 := Nat.lt_of_lt_of_le ha (Nat.pow_le_pow_right (by omega) (by omega))
  have hor : a ||| x * 2 ^ (8 * i) = a + x * 2 ^ (8 * i) := by
    rw [Nat.or_comm, Nat.mul_comm, ← Nat.two_pow_add_eq_or_of_lt ha, Nat.add_comm]
  have e0 : wrap64 ((x : Int) * 2 ^ (8 * i)) = ((x * 2 ^ (8 * i) : Nat) : Int) := by
    rw [show ((x : Int) * 2 ^ (8 * i)) = ((x * 2 ^ (8 * i) : Nat) : Int) from by push_cast; rfl]
    generalize x * 2 ^ (8 * i) = y at h4
    exact IntWalk.wrap64_in _ (by omega)
  rw [e0]
  unfold bits
  have e1 : (BitVec.ofInt 64 (a : Int) ||| BitVec.ofInt 64 ((x * 2 ^ (8 * i) : Nat) : Int)).toNat = a + x * 2 ^ (8 * i) := by
    rw [BitVec.toNat_or, BitVec.ofInt_natCast, BitVec.ofInt_natCast, BitVec.toNat_ofNat, BitVec.toNat_ofNat, Nat.mod_eq_of_lt (by omega), Nat.mod_eq_of_lt (by omega), hor]
  change IntKind.i64.wrap ((BitVec.ofInt 64 (a : Int) ||| BitVec.ofInt 64 ((x * 2 ^ (8 * i) : Nat) : Int)).toNat : Int) = _
  rw [e1]
  generalize x * 2 ^ (8 * i) = y at h4 ⊢
  exact IntWalk.i64_in _ (by omega)
set_option maxHeartbeats 1000000 in
theorem get_calls (w : World) (l : List UInt8) (b off cap : Nat) (hlen : l.length ≤ 4)
    (hl : ∀ j, j < l.length → cellOf w.heap[b]? (off + j) = some (bv (l.getD j 0))) :
    Calls Tryz.prog 131 #[.slice (some ⟨b, off, none⟩) l.length cap] w fun e w' => e = .returned (.int .i64 (leVal l)) ∧ w = w' := by
  have hcv := cellv w
  go_enter Tryz.func131, Tryz.ntmps131
  go_wp2
  go_loop [2, 7] (fun c i => ∃ m : Nat, m ≤ l.length ∧ i = .int .i64 m ∧ c = .int .i64 (leVal (l.take m))) (fun _ i => l.length - (intOf i).toNat)
  case atStart => exact ⟨0, by omega, rfl, rfl⟩
  case round =>
    obtain ⟨m, hm, rfl, rfl⟩ := hrel
    have hcr := leVal_lt (l.take m)
    rw [List.length_take, Nat.min_eq_left hm] at hcr
    by_cases hlt : m < l.length
    · have hc := hl m hlt
      have htk : leVal (l.take (m + 1)) = leVal (l.take m) + (l.getD m 0).toNat * 2 ^ (8 * m) := by
        rw [List.take_succ_eq_append_getElem hlt, leVal_snoc, List.getD_eq_getElem?_getD, List.length_take, Nat.min_eq_left hm]; simp [hlt]
      generalize l.getD m 0 = x at hc htk
      generalize leVal (l.take m) = cc at htk hcr
      unfold bv at hc
      have Htk := Lib.hid htk
      have Hcr := Lib.hid hcr
      have hx := x.toNat_lt
      clear hl htk hcr
      go_wp2
      go_round
      case rel => exact ⟨m + 1, by omega, by go_num, by rw [or_i64 _ _ _ (by omega) Hcr.out hx, Htk.out]⟩
      case measure => simp [intOf]; omega
    · obtain rfl : m = l.length := by omega
      rw [List.take_length] at hcr
      rw [List.take_length]
      generalize hL : leVal l = cc at hcr ⊢
      have HL := Lib.hid hL
      have Hcr := Lib.hid hcr
      clear hL hcr
      go_wp2
      go_ret
      exact ⟨by rw [HL.out]; rfl, rfl⟩
end Go.Proofs.YtkafmfdipmhleaaGreatDoor

namespace Go.Proofs.YtkafmfdipmhleaaGreatDoor
open Go.RowKit
/-- copy from a string, into a row: as one step of a region that draws. -/
theorem step_copy_str {P : Program} {ops : Array Oper} {o : Oper} {a : Act} {w : World} {K : Act → World → Prop} {Q : Exit → Act → World → Prop} {E : Prop} (hgd : o.guard = none) (d s : Operand) (dT sT : TypeId)
    (ho : o.op = .call { callee := .builtin .copy, args := #[d, s], argTypes := #[dT, sT] }) (elem : TypeId) (hu : P.underlying dT = some (.slice elem)) (hsz : (P.info? elem).map (·.size) = some 1)
    (g off dLen dCap : Nat) (hd : a.eval d = .slice (some ⟨g, off, none⟩) dLen dCap) (str : ByteArray) (hs : a.eval s = .string str)
    (cur : Array Value) (t : TypeId) (hg : w.heap[g]? = some (.cells cur t (0, 0))) (hle : str.size ≤ dLen) (hfit : off + str.size ≤ cur.size)
    (h : ∀ w' Y, Hid (Y = (cur.toList.take off ++ str.data.toList.map bv ++ cur.toList.drop (off + str.size)).toArray) → w'.heap[g]? = some (.cells Y t (0, 0)) → Fr (· = g) w w' → K (a.put o.dst (goInt str.size)) w') :
    if Region.wanted o (yielded ops a.tmps) = true then Oper.wp P o a w K Q else E := by
  have hw : Region.wanted o (yielded ops a.tmps) = true := by simp [Region.wanted, hgd]
  rw [if_pos hw]
  have hrun := Lib.run_copy_row_string (P := P) w dT sT o.type elem g off dLen dCap str cur t hu hsz hg hle hfit
  unfold Oper.wp
  simp [execOp, ho, resolve, invoke, builtin, hd, hs, hrun, Result.andThen]
  exact h _ _ rfl (by rw [setRow_heap w g _ _ t _ hg]; simp [Lib.byteCells, bv]) ((Fr.refl (· = g) w).setRow (fun _ => rfl) _)
theorem Tryz.info5s : (Tryz.prog.info? 5).map (·.size) = some 1 := by kernel_rfl
theorem way_splice (bs : List UInt8) (at_ P : Nat) (l : List UInt8) (h : bs.length = 128) (hP : P + l.length ≤ 128) {n : Nat} (hn : n = l.length) :
    ((wayCells bs at_).toList.take P ++ l.map bv ++ (wayCells bs at_).toList.drop (P + n)).toArray = wayCells (wrAt bs P l) at_ := by
  subst hn
  simp only [wayCells, wrAt]
  rw [List.take_append_of_le_length (by simp; omega), List.drop_append_of_le_length (by simp; omega)]
  simp [List.map_take, List.map_drop]
set_option maxHeartbeats 1000000 in
theorem text_calls (b : Nat) (w : World) (bs : List UInt8) (at_ : Nat) (s : ByteArray) (hat : at_ + 1 + s.size < 128) (hs : s.size ≤ 8)
    (hbs : bs.length = 128) (hb : w.heap[b]? = some (.cells (wayCells bs at_) 201 (0, 0))) :
    Calls Tryz.prog 118 #[.pointer (some ⟨b, 0, none⟩), .string s] w (PutPost b w bs at_ (leN 1 s.size ++ s.data.toList)) := by
  have hcv := cellv w
  have hbl := lt_of_hp hb
  go_enter Tryz.func118, Tryz.ntmps118
  go_wp2_with fail
  refine (put_calls b _ bs at_ 1 [s.size] w.heap.size 0 1 (by simp; omega) (by omega) (by simp) ?_ ?_ ?_ ?_ hbs ?_).mono ?_
  · intro j hj
    obtain rfl : j = 0 := by simpa using hj
    rw [hp_alloc, if_pos rfl]; rfl
  · intro n hn; simp at hn; omega
  · exact Ne.symm (Nat.ne_of_lt hbl)
  · simp
  · rw [hp_alloc, if_neg (Nat.ne_of_lt hbl)]; exact hb
  · rintro e w1 ⟨rfl, hb1, hf1⟩
    have hL : [s.size].flatMap (leN 1) = leN 1 s.size := by simp
    rw [hL] at hb1
    have hl1 : (wrAt bs at_ (leN 1 s.size)).length = 128 := by rw [wrAt_length _ _ _ (by rw [leN_length]; omega)]; exact hbs
    rw [leN_length] at hb1
    have h1 := way_at _ (at_ + 1) hl1
    have h1s : (wayCells (wrAt bs at_ (leN 1 s.size)) (at_ + 1)).size = 129 := by simp [wayCells, hl1]
    have HL := Lib.hid hl1
    clear hl1 hL
    generalize hX : wayCells (wrAt bs at_ (leN 1 s.size)) (at_ + 1) = X at hb1 h1 h1s
    have HX := Lib.hid hX
    generalize hP : at_ + 1 = P at h1
    have HP := Lib.hid hP
    have hPlt : P + s.size < 128 := by omega
    have H1s := Lib.hid h1s
    clear hX hP hat hcv hb h1s
    have hcv := cellv w1
    have hfv := frozv w1
    have hP1 : P ≤ 128 := by omega
    have hsz : s.data.toList.length = s.size := by simp
    have HY : Hid (∀ Y : Array Value, Y = (X.toList.take P ++ s.data.toList.map bv ++ X.toList.drop (P + s.size)).toArray → Y[128]? = some (.int .i64 P)) := by
      rintro Y rfl
      have : (X.toList.take P ++ s.data.toList.map bv).length = P + s.size := by simp [H1s.out]; omega
      rw [List.getElem?_toArray, List.getElem?_append_right (by omega), this, List.getElem?_drop, show P + s.size + (128 - (P + s.size)) = 128 by omega, Array.getElem?_toList]
      exact h1
    clear hsz
    have hP2 : (P : Int) ≤ 128 := by omega
    have hP3 : ¬ 128 = P := by omega
    go_wp2_with fail
    go_region_law (refine step_copy_str rfl (.tmp 20) (.tmp 21) 92 9 rfl 5 Tryz.underlying92 Tryz.info5s b P (128 - P) (128 - P) rfl s rfl X 201 hb1 (by omega) (by rw [H1s.out]; omega) ?_; intro w2 Y hY hb2 hf2; have hy := HY.out Y hY.out; have hcv2 := cellv w2; have hfv2 := frozv w2)
    all_goals
      go_end0
      refine ⟨rfl, ?_, (((Fr.refl _ w).alloc _).trans hf1).drew.trans (hf2.setCell (fun _ => rfl) _ _)⟩
      have hPe : P = at_ + 1 := HP.out.symm
      subst hPe
      rw [hp_setCell, if_pos rfl, hb2, objSet_cells, hY.out, IntWalk.i64_in _ (by omega), ← HX.out, way_splice _ _ _ _ HL.out (by simp; omega) (by simp),
        show ((↑(at_ + 1) : Int) + s.size) = ((at_ + 1 + s.size : Nat) : Int) from by push_cast; rfl,
        way_setAt _ _ _ (by rw [wrAt_length _ _ _ (by rw [HL.out]; simp; omega)]; exact HL.out)]
      have := wrAt_wrAt bs at_ (leN 1 s.size) s.data.toList (by rw [leN_length]; omega)
      rw [leN_length] at this
      rw [this]
      simp [leN_length, Nat.add_assoc]
end Go.Proofs.YtkafmfdipmhleaaGreatDoor

namespace Go.Proofs.YtkafmfdipmhleaaGreatDoor
open Go.RowKit
/-- A record. -/
structure RecM where
  kind : Nat
  epoch : Nat
  index : Nat
  saga : Nat
  reply : Nat
  steps : List (ByteArray × ByteArray)
def headB (r : RecM) : List UInt8 := leN 1 r.kind ++ leN 4 r.epoch ++ leN 2 r.index ++ leN 2 r.saga ++ leN 1 r.reply
def textB (s : ByteArray) : List UInt8 := leN 1 s.size ++ s.data.toList
def stepsB (l : List (ByteArray × ByteArray)) : List UInt8 := l.flatMap fun s => textB s.1 ++ textB s.2
def zeros : List UInt8 := List.replicate 128 0
def bodyB (r : RecM) : List UInt8 := headB r ++ if r.kind = 2 then leN 1 r.steps.length ++ stepsB r.steps else []
def baseB (r : RecM) : List UInt8 := wrAt zeros 4 (bodyB r)
def endOf (r : RecM) : Nat := if r.kind = 2 then 128 else 32
def sumB (r : RecM) : Nat := (crcM ((baseB r).drop 4 |>.take (endOf r - 4))).toNat
def recB (r : RecM) : List UInt8 := wrAt (baseB r) 0 (leN 4 (sumB r))
/-- A slice of steps, laid out. -/
def stepCells (l : List (ByteArray × ByteArray)) : List Value := l.flatMap fun s => [.string s.1, .string s.2]
/-- A slice whose steps read as l (not empty). -/
def StepsAt (w : World) (v : Value) (l : List (ByteArray × ByteArray)) : Prop :=
  ∃ b off cap c, v = .slice (some ⟨b, off, none⟩) l.length cap ∧ w.heap[b]? = some (.cells c 54 (0, 0)) ∧ ∀ j, j < 2 * l.length → c[off + j]? = (stepCells l)[j]?
def smallSteps (l : List (ByteArray × ByteArray)) : Prop := 1 ≤ l.length ∧ l.length ≤ 6 ∧ ∀ s ∈ l, s.1.size ≤ 8 ∧ s.2.size ≤ 8
theorem textB_length (s : ByteArray) : (textB s).length = 1 + s.size := by simp [textB, leN_length]
theorem stepsB_le (l : List (ByteArray × ByteArray)) (h : ∀ s ∈ l, s.1.size ≤ 8 ∧ s.2.size ≤ 8) : (stepsB l).length ≤ 18 * l.length := by
  induction l with
  | nil => simp [stepsB]
  | cons a l ih =>
    have h1 := h a (by simp)
    have h2 := ih (fun s hs => h s (by simp [hs]))
    simp only [stepsB, List.flatMap_cons, List.length_append, textB_length, List.length_cons] at h2 ⊢
    omega
theorem stepsB_take (l : List (ByteArray × ByteArray)) (m : Nat) (h : m < l.length) : stepsB (l.take (m + 1)) = stepsB (l.take m) ++ textB l[m].1 ++ textB l[m].2 := by
  unfold stepsB
  rw [List.take_succ_eq_append_getElem h, List.flatMap_append]
  simp
theorem stepCells_get (l : List (ByteArray × ByteArray)) (m : Nat) (h : m < l.length) : (stepCells l)[m * 2]? = some (.string l[m].1) ∧ (stepCells l)[m * 2 + 1]? = some (.string l[m].2) := by
  induction l generalizing m with
  | nil => simp at h
  | cons a l ih =>
    cases m with
    | zero => exact ⟨rfl, rfl⟩
    | succ m =>
      have := ih m (by simpa using h)
      rw [show (m + 1) * 2 = m * 2 + 1 + 1 by omega]
      simpa [stepCells] using this
theorem zero201 : Tryz.zeroCells201.setIfInBounds 128 (Value.int IntKind.i64 4) = wayCells zeros 4 := by kernel_rfl
theorem zeros_length : zeros.length = 128 := by simp [zeros]
/-- A record's bytes on their way. -/
structure BInv (b rb : Nat) (rc : Array Value) (w W : World) (pre : List UInt8) : Prop where
  recd : W.heap[rb]? = some (.cells rc 91 (0, 0))
  blk : W.heap[b]? = some (.cells (wayCells (wrAt zeros 4 pre) (4 + pre.length)) 201 (0, 0))
  new : New w W
  ne : rb ≠ b
  ge : w.heap.size ≤ b
theorem BInv.step {b rb : Nat} {rc : Array Value} {w W W' w1 : World} {pre l : List UInt8} (h : BInv b rb rc w W pre) (hn : New W W') (hp : Fr (· = b) W' w1)
    (hb : w1.heap[b]? = some (.cells (wayCells (wrAt (wrAt zeros 4 pre) (4 + pre.length) l) (4 + pre.length + l.length)) 201 (0, 0))) (hlen : 4 + pre.length ≤ 128) :
    BInv b rb rc w w1 (pre ++ l) where
  recd := hp.get (hn.get h.recd (fun f => f)) (fun e => h.ne e)
  blk := by rw [hb, wrAt_wrAt _ _ _ _ (by rw [zeros_length]; exact hlen)]; simp [Nat.add_assoc]
  new := (h.new.trans hn).trans' hp (fun i hi e => absurd (e ▸ h.ge : w.heap.size ≤ i) (by omega))
  ne := h.ne
  ge := h.ge
theorem BInv.alloc {b rb : Nat} {rc : Array Value} {w W : World} {pre : List UInt8} (h : BInv b rb rc w W pre) (o : Obj) : BInv b rb rc w (W.alloc o) pre where
  recd := by rw [hp_alloc, if_neg (ne_size_of_hp h.recd)]; exact h.recd
  blk := by rw [hp_alloc, if_neg (ne_size_of_hp h.blk)]; exact h.blk
  new := h.new.alloc _
  ne := h.ne
  ge := h.ge
theorem put_at1 {b rb : Nat} {rc : Array Value} {w W : World} {pre : List UInt8} (h : BInv b rb rc w W pre) (wd n : Nat) {wi : Int} {q : Nat} (hwi : wi = wd) (hq : q = W.heap.size) (hwd : 1 ≤ wd ∧ wd ≤ 8) (hn : n < 2 ^ 63) (hlen : 4 + pre.length + wd ≤ 128) :
    Calls Tryz.prog 117 #[.pointer (some ⟨b, 0, none⟩), .int .i64 wi, .slice (some ⟨q, 0, none⟩) 1 1] (W.alloc (.cells #[.int .i64 n] 3)) fun e w1 => e = .returned (.tuple #[]) ∧ BInv b rb rc w w1 (pre ++ leN wd n) := by
  subst hwi hq
  have hbl := lt_of_hp h.blk
  refine (put_calls b _ (wrAt zeros 4 pre) (4 + pre.length) wd [n] W.heap.size 0 1 (by simpa using hlen) hwd (by simp) ?_ ?_ ?_ ?_ ?_ ?_).mono ?_
  · intro j hj
    obtain rfl : j = 0 := by simpa using hj
    rw [hp_alloc, if_pos rfl]; rfl
  · intro m hm; obtain rfl : m = n := by simpa using hm
    exact hn
  · exact Ne.symm (Nat.ne_of_lt hbl)
  · simp
  · rw [wrAt_length _ _ _ (by rw [zeros_length]; omega)]; exact zeros_length
  · rw [hp_alloc, if_neg (Nat.ne_of_lt hbl)]; exact h.blk
  · rintro e w1 ⟨he, hb1, hf1⟩
    rw [show [n].flatMap (leN wd) = leN wd n by simp] at hb1
    exact ⟨he, h.step ((Fr.refl _ _).alloc _) hf1 hb1 (by omega)⟩
theorem put_at2 {b rb : Nat} {rc : Array Value} {w W : World} {pre : List UInt8} (h : BInv b rb rc w W pre) (wd n m : Nat) {wi : Int} {q : Nat} (hwi : wi = wd) (hq : q = W.heap.size) (hwd : 1 ≤ wd ∧ wd ≤ 8) (hn : n < 2 ^ 63) (hm : m < 2 ^ 63) (hlen : 4 + pre.length + 2 * wd ≤ 128) :
    Calls Tryz.prog 117 #[.pointer (some ⟨b, 0, none⟩), .int .i64 wi, .slice (some ⟨q, 0, none⟩) 2 2] (W.alloc (.cells #[.int .i64 n, .int .i64 m] 3)) fun e w1 => e = .returned (.tuple #[]) ∧ BInv b rb rc w w1 (pre ++ (leN wd n ++ leN wd m)) := by
  subst hwi hq
  have hbl := lt_of_hp h.blk
  refine (put_calls b _ (wrAt zeros 4 pre) (4 + pre.length) wd [n, m] W.heap.size 0 2 (by simp; omega) hwd (by simp) ?_ ?_ ?_ ?_ ?_ ?_).mono ?_
  · intro j hj
    rw [hp_alloc, if_pos rfl]
    match j, hj with
    | 0, _ => rfl
    | 1, _ => rfl
  · intro k hk
    have : k = n ∨ k = m := by simpa using hk
    rcases this with rfl | rfl <;> assumption
  · exact Ne.symm (Nat.ne_of_lt hbl)
  · simp
  · rw [wrAt_length _ _ _ (by rw [zeros_length]; omega)]; exact zeros_length
  · rw [hp_alloc, if_neg (Nat.ne_of_lt hbl)]; exact h.blk
  · rintro e w1 ⟨he, hb1, hf1⟩
    rw [show [n, m].flatMap (leN wd) = leN wd n ++ leN wd m by simp] at hb1
    exact ⟨he, h.step ((Fr.refl _ _).alloc _) hf1 hb1 (by omega)⟩
theorem text_at {b rb : Nat} {rc : Array Value} {w W : World} {pre : List UInt8} (h : BInv b rb rc w W pre) (s : ByteArray) (hs : s.size ≤ 8) (hlen : 4 + pre.length + 1 + s.size < 128) :
    Calls Tryz.prog 118 #[.pointer (some ⟨b, 0, none⟩), .string s] W fun e w1 => e = .returned (.tuple #[]) ∧ BInv b rb rc w w1 (pre ++ textB s) ∧ Fr (· = b) W w1 := by
  refine (text_calls b W (wrAt zeros 4 pre) (4 + pre.length) s hlen hs ?_ h.blk).mono ?_
  · rw [wrAt_length _ _ _ (by rw [zeros_length]; omega)]; exact zeros_length
  · rintro e w1 ⟨he, hb1, hf1⟩
    exact ⟨he, h.step (Fr.refl _ _) hf1 hb1 (by omega), hf1⟩
/-- What bytes hands back: a slice over a new block, which holds the record. -/
def BytesPost (w : World) (r : RecM) (e : Ending) (w' : World) : Prop :=
  ∃ nb, e = .returned (.slice (some ⟨nb, 0, none⟩) (endOf r) (endOf r)) ∧ w.heap.size ≤ nb ∧ w'.heap[nb]? = some (.cells (wayCells (recB r) 4) 201 (0, 0)) ∧ New w w'
/-- crc over a part of a block on its way. -/
theorem crc_way {w : World} {b : Nat} {bs : List UInt8} {P : Nat} {t : TypeId} (hb : w.heap[b]? = some (.cells (wayCells bs P) t (0, 0))) (hbs : bs.length = 128) (off n cap : Nat) (h : off + n ≤ 128) :
    Calls Tryz.prog 119 #[.slice (some ⟨b, off, none⟩) n cap] w fun e w' => e = .returned (.int .u32 (crcM ((bs.drop off).take n))) ∧ w = w' := by
  have hl : ((bs.drop off).take n).length = n := by simp; omega
  have := crc_calls w ((bs.drop off).take n) b off cap (by omega) (by
    intro j hj
    rw [hb, cellOf_cells, way_byte _ _ _ (by omega)]
    rw [List.getD_eq_getElem?_getD, List.getD_eq_getElem?_getD, List.getElem?_take_of_lt (by omega), List.getElem?_drop])
  rwa [hl] at this
/-- Behind the last put: what the record's block is. -/
theorem BInv.done {b rb : Nat} {rc : Array Value} {w W W' : World} {pre : List UInt8} {sum : Nat} (h : BInv b rb rc w W pre) (hlen : 4 + pre.length ≤ 128)
    (hW : W' = W.setCell ⟨b, 128, none⟩ (.int .i64 0)) (hn : sum < 2 ^ 32) {wi : Int} {q : Nat} (hwi : wi = 4) (hq : q = W'.heap.size) {R : Ending → World → Prop}
    (hR : ∀ e w1, e = .returned (.tuple #[]) → w1.heap[b]? = some (.cells (wayCells (wrAt (wrAt zeros 4 pre) 0 (leN 4 sum)) 4) 201 (0, 0)) → New w w1 → R e w1) :
    Calls Tryz.prog 117 #[.pointer (some ⟨b, 0, none⟩), .int .i64 wi, .slice (some ⟨q, 0, none⟩) 1 1] (W'.alloc (.cells #[.int .i64 sum] 3)) R := by
  subst hwi hq hW
  have hbl := lt_of_hp h.blk
  have hl : (wrAt zeros 4 pre).length = 128 := by rw [wrAt_length _ _ _ (by rw [zeros_length]; omega)]; exact zeros_length
  refine (put_calls b _ (wrAt zeros 4 pre) 0 4 [sum] (W.setCell ⟨b, 128, none⟩ (.int .i64 0)).heap.size 0 1 (by simp) (by omega) (by simp) ?_ ?_ ?_ ?_ hl ?_).mono ?_
  · intro j hj
    obtain rfl : j = 0 := by simpa using hj
    rw [hp_alloc, if_pos rfl]; rfl
  · intro m hm; obtain rfl : m = sum := by simpa using hm
    omega
  · simp; omega
  · simp
  · rw [hp_alloc, if_neg (by simp; omega), hp_setCell, if_pos rfl, h.blk, objSet_cells]
    exact congrArg (fun c => some (Obj.cells c 201 (0, 0))) (way_setAt _ _ 0 hl)
  · rintro e w1 ⟨he, hb1, hf1⟩
    rw [show [sum].flatMap (leN 4) = leN 4 sum by simp, leN_length] at hb1
    refine hR e w1 he hb1 ?_
    exact ((h.new.setCell (fun hi => absurd h.ge (by omega)) _ _).alloc _).trans' hf1 (fun i hi e => absurd (e ▸ h.ge : w.heap.size ≤ i) (by omega))
set_option maxRecDepth 100000 in
set_option maxHeartbeats 1000000 in
theorem bytes_head (w : World) (k ep ix sg rp : Nat) (hk : k < 256) (hep : ep < 2 ^ 32) (hix : ix < 65536) (hsg : sg < 65536) (hrp : rp < 256) (sv : Value) (h2 : (k == 2) = false) :
    Calls Tryz.prog 96 #[.agg #[.int .u8 k, .int .u32 ep, .int .i64 ix, .int .i64 sg, .int .i64 rp, sv]] w (BytesPost w ⟨k, ep, ix, sg, rp, []⟩) := by
  go_enter Tryz.func96, Tryz.ntmps96
  go_wp2_with fail
  rw [zero201]
  generalize hrc : (#[.int .u8 k, .int .u32 ep, .int .i64 ix, .int .i64 sg, .int .i64 rp, sv] : Array Value) = rc
  have r1 : rc[1]? = some (.int .u32 ep) := by rw [← hrc]; rfl
  have r2 : rc[2]? = some (.int .i64 ix) := by rw [← hrc]; rfl
  have r3 : rc[3]? = some (.int .i64 sg) := by rw [← hrc]; rfl
  have r4 : rc[4]? = some (.int .i64 rp) := by rw [← hrc]; rfl
  have r0 : rc[0]? = some (.int .u8 k) := by rw [← hrc]; rfl
  have r5 : rc[5]? = some sv := by rw [← hrc]; rfl
  have I0 : BInv (w.heap.size + 1) w.heap.size rc w ((w.alloc (.cells rc 91)).alloc (.cells (wayCells zeros 4) 201)) [] := {
    recd := by rw [hp_alloc, if_neg (by simp), hp_alloc, if_pos rfl]
    blk := by rw [hp_alloc, if_pos (by simp), wrAt_nil]; rfl
    new := ((Fr.refl _ _).alloc _).alloc _
    ne := by omega
    ge := by omega }
  clear hrc
  with_reducible refine Calls.mono (put_at1 I0 1 k rfl (by simp) (by omega) (by omega) (by simp)) ?_
  rintro e w1 ⟨rfl, I1⟩
  have g1 := I1.recd
  have hcv := cellv w1
  go_wp2_with fail
  with_reducible refine Calls.mono (put_at1 I1 4 ep rfl rfl (by omega) (by omega) (by simp [leN_length])) ?_
  clear g1 hcv I1 I0
  rintro e w2 ⟨rfl, I2⟩
  have g2 := I2.recd
  have hcv := cellv w2
  go_wp2_with fail
  with_reducible refine Calls.mono (put_at2 I2 2 ix sg rfl rfl (by omega) (by omega) (by omega) (by simp [leN_length])) ?_
  clear g2 hcv I2
  rintro e w3 ⟨rfl, I3⟩
  have g3 := I3.recd
  have hcv := cellv w3
  go_wp2_with fail
  with_reducible refine Calls.mono (put_at1 I3 1 rp rfl rfl (by omega) (by omega) (by simp [leN_length])) ?_
  clear g3 hcv I3
  rintro e w4 ⟨rfl, I4⟩
  have g4 := I4.recd
  have hcv := cellv w4
  go_wp2_with fail
  have hl4 : ([] ++ leN 1 k ++ leN 4 ep ++ (leN 2 ix ++ leN 2 sg) ++ leN 1 rp).length = 10 := by simp [leN_length]
  have hbs4 : (wrAt zeros 4 ([] ++ leN 1 k ++ leN 4 ep ++ (leN 2 ix ++ leN 2 sg) ++ leN 1 rp)).length = 128 := by rw [wrAt_length _ _ _ (by rw [zeros_length, hl4]; omega)]; exact zeros_length
  with_reducible refine Calls.mono (crc_way I4.blk hbs4 4 28 124 (by omega)) ?_
  rintro e w5 ⟨rfl, rfl⟩
  have hcr := crcM_u32 (((wrAt zeros 4 ([] ++ leN 1 k ++ leN 4 ep ++ (leN 2 ix ++ leN 2 sg) ++ leN 1 rp)).drop 4).take 28)
  generalize hsum : crcM (((wrAt zeros 4 ([] ++ leN 1 k ++ leN 4 ep ++ (leN 2 ix ++ leN 2 sg) ++ leN 1 rp)).drop 4).take 28) = sm at hcr
  obtain ⟨sm, rfl⟩ := Int.eq_ofNat_of_zero_le hcr.1
  have hsm : sm < 2 ^ 32 := by omega
  have hsm' : (sm : Int) < 4294967296 := by omega
  have g5 := I4.blk
  have g6 : (wayCells (wrAt zeros 4 ([] ++ leN 1 k ++ leN 4 ep ++ (leN 2 ix ++ leN 2 sg) ++ leN 1 rp)) (4 + ([] ++ leN 1 k ++ leN 4 ep ++ (leN 2 ix ++ leN 2 sg) ++ leN 1 rp).length))[128]? = some _ := way_at _ _ hbs4
  generalize hX : wayCells (wrAt zeros 4 ([] ++ leN 1 k ++ leN 4 ep ++ (leN 2 ix ++ leN 2 sg) ++ leN 1 rp)) (4 + ([] ++ leN 1 k ++ leN 4 ep ++ (leN 2 ix ++ leN 2 sg) ++ leN 1 rp).length) = X at g5 g6
  have Hsum := Lib.hid hsum
  have hfv := frozv w4
  have hle : 4 + ([] ++ leN 1 k ++ leN 4 ep ++ (leN 2 ix ++ leN 2 sg) ++ leN 1 rp).length ≤ 128 := by rw [hl4]; omega
  have Hle := Lib.hid hle
  clear hcr hX hsum hl4 hle
  go_wp2_with fail
  refine I4.done Hle.out rfl hsm rfl (by simp) ?_
  rintro e w5 rfl hb5 hn5
  have Hb5 := Lib.hid hb5
  clear hb5 g5 g6 hcv hfv g4
  go_wp2
  go_ret
  have hne : ¬ k = 2 := by rintro rfl; simp at h2
  refine ⟨w.heap.size + 1, by simp [endOf, hne], by omega, ?_, hn5⟩
  rw [Hb5.out]
  have e1 : baseB ⟨k, ep, ix, sg, rp, []⟩ = wrAt zeros 4 ([] ++ leN 1 k ++ leN 4 ep ++ (leN 2 ix ++ leN 2 sg) ++ leN 1 rp) := by
    simp [baseB, bodyB, headB, hne]
  have e2 : sumB ⟨k, ep, ix, sg, rp, []⟩ = sm := by
    unfold sumB
    rw [e1]
    simp only [endOf, if_neg hne]
    rw [Hsum.out]; rfl
  rw [recB, e2, e1]
set_option maxRecDepth 100000 in
set_option maxHeartbeats 2000000 in
theorem bytes_body (w : World) (ep ix sg rp : Nat) (hep : ep < 2 ^ 32) (hix : ix < 65536) (hsg : sg < 65536) (hrp : rp < 256) (sv : Value) (l : List (ByteArray × ByteArray)) (hsv : StepsAt w sv l) (hl : smallSteps l) :
    Calls Tryz.prog 96 #[.agg #[.int .u8 2, .int .u32 ep, .int .i64 ix, .int .i64 sg, .int .i64 rp, sv]] w (BytesPost w ⟨2, ep, ix, sg, rp, l⟩) := by
  obtain ⟨tb, toff, cap, tc, rfl, htb, hst⟩ := hsv
  obtain ⟨hl1, hl2, hl3⟩ := hl
  go_enter Tryz.func96, Tryz.ntmps96
  go_wp2_with fail
  rw [zero201]
  generalize hrc : (#[.int .u8 2, .int .u32 ep, .int .i64 ix, .int .i64 sg, .int .i64 rp, .slice (some ⟨tb, toff, none⟩) l.length cap] : Array Value) = rc
  have r1 : rc[1]? = some (.int .u32 ep) := by rw [← hrc]; rfl
  have r2 : rc[2]? = some (.int .i64 ix) := by rw [← hrc]; rfl
  have r3 : rc[3]? = some (.int .i64 sg) := by rw [← hrc]; rfl
  have r4 : rc[4]? = some (.int .i64 rp) := by rw [← hrc]; rfl
  have r0 : rc[0]? = some (.int .u8 2) := by rw [← hrc]; rfl
  have r5 : rc[5]? = some (.slice (some ⟨tb, toff, none⟩) l.length cap) := by rw [← hrc]; rfl
  have I0 : BInv (w.heap.size + 1) w.heap.size rc w ((w.alloc (.cells rc 91)).alloc (.cells (wayCells zeros 4) 201)) [] := {
    recd := by rw [hp_alloc, if_neg (by simp), hp_alloc, if_pos rfl]
    blk := by rw [hp_alloc, if_pos (by simp), wrAt_nil]; rfl
    new := ((Fr.refl _ _).alloc _).alloc _
    ne := by omega
    ge := by omega }
  clear hrc
  with_reducible refine Calls.mono (put_at1 I0 1 2 rfl (by simp) (by omega) (by omega) (by simp)) ?_
  rintro e w1 ⟨rfl, I1⟩
  have g1 := I1.recd
  have hcv := cellv w1
  go_wp2_with fail
  with_reducible refine Calls.mono (put_at1 I1 4 ep rfl rfl (by omega) (by omega) (by simp [leN_length])) ?_
  clear g1 hcv I1 I0
  rintro e w2 ⟨rfl, I2⟩
  have g2 := I2.recd
  have hcv := cellv w2
  go_wp2_with fail
  with_reducible refine Calls.mono (put_at2 I2 2 ix sg rfl rfl (by omega) (by omega) (by omega) (by simp [leN_length])) ?_
  clear g2 hcv I2
  rintro e w3 ⟨rfl, I3⟩
  have g3 := I3.recd
  have hcv := cellv w3
  go_wp2_with fail
  with_reducible refine Calls.mono (put_at1 I3 1 rp rfl rfl (by omega) (by omega) (by simp [leN_length])) ?_
  clear g3 hcv I3
  rintro e w4 ⟨rfl, I4⟩
  have g4 := I4.recd
  have hcv := cellv w4
  go_wp2_with fail
  with_reducible refine Calls.mono (put_at1 I4 1 l.length rfl rfl (by omega) (by omega) (by simp [leN_length])) ?_
  clear g4 hcv I4
  rintro e w5 ⟨rfl, I5⟩
  have hpl : ([] ++ leN 1 2 ++ leN 4 ep ++ (leN 2 ix ++ leN 2 sg) ++ leN 1 rp ++ leN 1 l.length).length = 11 := by simp [leN_length]
  have hpre : Hid (headB ⟨2, ep, ix, sg, rp, l⟩ ++ leN 1 l.length = [] ++ leN 1 2 ++ leN 4 ep ++ (leN 2 ix ++ leN 2 sg) ++ leN 1 rp ++ leN 1 l.length) := by
    show _ = _
    simp [headB]
  generalize [] ++ leN 1 2 ++ leN 4 ep ++ (leN 2 ix ++ leN 2 sg) ++ leN 1 rp ++ leN 1 l.length = pre at I5 hpl hpre
  have Hpl := Lib.hid hpl
  clear hpl
  have g5 := I5.recd
  have hcv := cellv w5
  go_wp2_with fail
  go_loopw [46] (fun i wr => ∃ m : Nat, m ≤ l.length ∧ i = .int .i64 m ∧ BInv (w.heap.size + 1) w.heap.size rc w wr (pre ++ stepsB (l.take m))) (fun i _ => l.length - (intOf i).toNat)
  case atStart => exact ⟨0, by omega, rfl, by simpa [stepsB] using I5⟩
  case round =>
    clear g5 hcv I5
    obtain ⟨m, hm, rfl, I⟩ := hrel
    by_cases hlt : m < l.length
    · have gt := I.new.get htb (fun f => f)
      have g5 := I.recd
      obtain ⟨hc1, hc2⟩ := stepCells_get l m hlt
      have hs1 := (hst (m * 2) (by omega)).trans hc1
      have hs2 := (hst (m * 2 + 1) (by omega)).trans hc2
      rw [← Nat.add_assoc] at hs2
      have hsz := hl3 _ (List.getElem_mem hlt)
      have htk := stepsB_take l m hlt
      have hle := stepsB_le (l.take m) (fun s hs => hl3 s (List.mem_of_mem_take hs))
      rw [List.length_take, Nat.min_eq_left hm] at hle
      generalize l[m].1 = s1 at hs1 hs2 hsz htk
      generalize l[m].2 = s2 at hs1 hs2 hsz htk
      have Htk := Lib.hid htk
      clear htk hc1 hc2
      have hp11 : pre.length = 11 := Hpl.out
      have hlen : (pre ++ stepsB (l.take m)).length ≤ 11 + 18 * m := by rw [List.length_append]; omega
      generalize hpp : pre ++ stepsB (l.take m) = pp at I hlen
      have Hpp := Lib.hid hpp
      have hbl := lt_of_hp I.blk
      clear hpp hp11
      have hcv := cellv wr
      go_wp2_with fail
      with_reducible refine Calls.mono (text_at (I.alloc _) s1 hsz.1 (by omega)) ?_
      rintro e w6 ⟨rfl, I6, hf6⟩
      have g6 : w6.heap[wr.heap.size]? = some (.cells #[.string s1, .string s2] 54 (0, 0)) := hf6.get (by rw [hp_alloc, if_pos rfl]) (by omega)
      clear hcv g5 gt
      have hcv := cellv w6
      go_wp2_with fail
      with_reducible refine Calls.mono (text_at I6 s2 hsz.2 (by simp [textB_length]; omega)) ?_
      rintro e w7 ⟨rfl, I7, _⟩
      clear hcv g6
      go_wp2
      go_roundw
      case rel => exact ⟨m + 1, by omega, by go_num, by rw [Htk.out, ← List.append_assoc, ← List.append_assoc, Hpp.out]; exact I7⟩
      case measure => simp [intOf]; omega
    · obtain rfl : m = l.length := by omega
      rw [List.take_length] at I
      have hle := stepsB_le l hl3
      have hlen : 4 + (pre ++ stepsB l).length ≤ 128 := by rw [List.length_append, Hpl.out]; omega
      have hpre2 : Hid (bodyB ⟨2, ep, ix, sg, rp, l⟩ = pre ++ stepsB l) := by
        show _ = _
        rw [← hpre.out]
        simp [bodyB]
      generalize pre ++ stepsB l = pp at I hlen hpre2
      have hbs : (wrAt zeros 4 pp).length = 128 := by rw [wrAt_length _ _ _ (by rw [zeros_length]; omega)]; exact zeros_length
      have g5 := I.blk
      have hcr := crcM_u32 (((wrAt zeros 4 pp).drop 4).take 124)
      have g6 : (wayCells (wrAt zeros 4 pp) (4 + pp.length))[128]? = some _ := way_at _ _ hbs
      generalize hX : wayCells (wrAt zeros 4 pp) (4 + pp.length) = X at g5 g6
      have Hlen := Lib.hid hlen
      clear hlen hX
      have hcv := cellv wr
      have hfv := frozv wr
      go_wp2_with fail
      with_reducible refine Calls.mono (crc_way I.blk hbs 4 124 124 (by omega)) ?_
      rintro e w6 ⟨rfl, rfl⟩
      generalize hsum : crcM (((wrAt zeros 4 pp).drop 4).take 124) = sm at hcr
      obtain ⟨sm, rfl⟩ := Int.eq_ofNat_of_zero_le hcr.1
      have hsm : sm < 2 ^ 32 := by omega
      have hsm' : (sm : Int) < 4294967296 := by omega
      have Hsum := Lib.hid hsum
      clear hcr hsum
      go_wp2_with fail
      refine I.done Hlen.out rfl hsm rfl (by simp) ?_
      rintro e w5 rfl hb5 hn5
      have Hb5 := Lib.hid hb5
      clear hb5 g5 g6 hcv hfv
      go_wp2
      go_ret
      refine ⟨w.heap.size + 1, by simp [endOf], by omega, ?_, hn5⟩
      rw [Hb5.out]
      have e1 : baseB ⟨2, ep, ix, sg, rp, l⟩ = wrAt zeros 4 pp := by rw [baseB, hpre2.out]
      have e2 : sumB ⟨2, ep, ix, sg, rp, l⟩ = sm := by
        unfold sumB
        rw [e1]
        simp only [endOf, if_true]
        rw [Hsum.out]; rfl
      rw [recB, e2, e1]
end Go.Proofs.YtkafmfdipmhleaaGreatDoor

namespace Go.Proofs.YtkafmfdipmhleaaGreatDoor
open Go.RowKit
theorem StepsAt.frame {w w' : World} {v : Value} {l : List (ByteArray × ByteArray)} {S : Nat → Prop} (h : StepsAt w v l) (hf : Fr S w w') (hS : ∀ k, S k → ∃ o, w.heap[k]? = some o ∧ kindOf o ≠ 55) : StepsAt w' v l := by
  obtain ⟨b, off, cap, c, h1, h2, h3⟩ := h
  refine ⟨b, off, cap, c, h1, hf.get h2 (fun hs => ?_), h3⟩
  obtain ⟨o, ho, hk⟩ := hS b hs
  rw [h2] at ho
  exact hk (by rw [← Option.some.inj ho]; rfl)
/-- A saga. -/
structure SagaM where
  id : Int
  st : Int
  step : Int
  tries : Int
  due : Int
  steps : List (ByteArray × ByteArray)
def sgCells (s : SagaM) (sv : Value) : Array Value := #[.int .i64 s.id, .int .i64 s.st, .int .i64 s.step, .int .i64 s.steps.length, .int .i64 s.tries, .int .i64 s.due, sv]
def SagaAt (w : World) (sb : Nat) (s : SagaM) : Prop := ∃ sv, w.heap[sb]? = some (.cells (sgCells s sv) 88 (0, 0)) ∧ StepsAt w sv s.steps
theorem SagaAt.frame {w w' : World} {sb : Nat} {s : SagaM} {S : Nat → Prop} (h : SagaAt w sb s) (hf : Fr S w w') (hS : ∀ k, S k → k ≠ sb ∧ ∃ o, w.heap[k]? = some o ∧ kindOf o ≠ 55) : SagaAt w' sb s := by
  obtain ⟨sv, h1, h2⟩ := h
  exact ⟨sv, hf.get h1 (fun hs => (hS sb hs).1 rfl), h2.frame hf (fun k hk => (hS k hk).2)⟩
theorem SagaAt.new {w w' : World} {sb : Nat} {s : SagaM} (h : SagaAt w sb s) (hf : New w w') : SagaAt w' sb s := h.frame hf (fun _ f => f.elim)
/-- Only the numbers of the saga have turned. -/
theorem SagaAt.turn {w w' : World} {sb : Nat} {s s' : SagaM} {sv : Value} (h1 : w.heap[sb]? = some (.cells (sgCells s sv) 88 (0, 0))) (h2 : StepsAt w sv s.steps) (hf : Fr (· = sb) w w') (hs : s'.steps = s.steps)
    (h : w'.heap[sb]? = some (.cells (sgCells s' sv) 88 (0, 0))) : SagaAt w' sb s' :=
  ⟨sv, h, by rw [hs]; exact h2.frame hf (by rintro k rfl; exact ⟨_, h1, by simp [kindOf]⟩)⟩
def SagaM.waits (s : SagaM) (clock : Int) : Bool := decide (s.st ≤ 2) && decide (s.due ≤ clock)
set_option maxHeartbeats 1000000 in
theorem Waits_calls {w : World} {sb : Nat} {s : SagaM} (h : SagaAt w sb s) (clock : Int) :
    Calls Tryz.prog 49 #[.pointer (some ⟨sb, 0, none⟩), .int .i64 clock] w fun e w' => e = .returned (.bool (s.waits clock)) ∧ w = w' := by
  obtain ⟨sv, h1, _⟩ := h
  obtain ⟨id, st, step, tries, due, steps⟩ := s
  simp only [sgCells] at h1
  have Hw : Hid (SagaM.waits ⟨id, st, step, tries, due, steps⟩ clock = (decide (st ≤ 2) && decide (due ≤ clock))) := rfl
  have hcv := cellv w
  by_cases a1 : st ≤ 2 <;> by_cases a2 : due ≤ clock
  all_goals
    go_enter Tryz.func49, Tryz.ntmps49
    go_wp2
    go_ret
    exact ⟨by rw [Hw.out]; simp [a1, a2], rfl⟩
def SagaM.moves (s : SagaM) (reply : Int) : Bool := reply == 0 || (reply == 2 && s.st == 1)
set_option maxHeartbeats 1000000 in
theorem Moves_calls {w : World} {sb : Nat} {s : SagaM} (h : SagaAt w sb s) (reply : Int) :
    Calls Tryz.prog 53 #[.pointer (some ⟨sb, 0, none⟩), .int .i64 reply] w fun e w' => e = .returned (.bool (s.moves reply)) ∧ w = w' := by
  obtain ⟨sv, h1, _⟩ := h
  obtain ⟨id, st, step, tries, due, steps⟩ := s
  simp only [sgCells] at h1
  have Hw : Hid (SagaM.moves ⟨id, st, step, tries, due, steps⟩ reply = (reply == 0 || (reply == 2 && st == 1))) := rfl
  have hcv := cellv w
  by_cases a1 : (reply == 0) = true
  · go_enter Tryz.func53, Tryz.ntmps53
    go_wp2
    go_ret
    exact ⟨by rw [Hw.out]; simp [a1], rfl⟩
  · have a1 : (reply == 0) = false := by simpa using a1
    by_cases a2 : (reply == 2) = true
    · go_enter Tryz.func53, Tryz.ntmps53
      go_wp2
      go_ret
      exact ⟨by rw [Hw.out]; simp [a1, a2], rfl⟩
    · have a2 : (reply == 2) = false := by simpa using a2
      go_enter Tryz.func53, Tryz.ntmps53
      go_wp2
      go_ret
      exact ⟨by rw [Hw.out]; simp [a1, a2], rfl⟩
def SagaM.left (s : SagaM) : Int := if s.st = 1 then 2 * s.steps.length - s.step else if s.st = 2 then s.step else 0
set_option maxHeartbeats 1000000 in
theorem Left_calls {w : World} {sb : Nat} {s : SagaM} (h : SagaAt w sb s) (hb : -100 ≤ s.step ∧ s.step ≤ 100 ∧ s.steps.length ≤ 100) :
    Calls Tryz.prog 44 #[.pointer (some ⟨sb, 0, none⟩)] w fun e w' => e = .returned (.int .i64 s.left) ∧ ∃ n, w' = w.drewN n := by
  obtain ⟨sv, h1, b, off, cap, c, rfl, h1x⟩ := h
  obtain ⟨id, st, step, tries, due, steps⟩ := s
  simp only [sgCells] at h1
  have Hw : Hid (SagaM.left ⟨id, st, step, tries, due, steps⟩ = if st = 1 then 2 * steps.length - step else if st = 2 then step else 0) := rfl
  have hcv := cellv w
  simp only at hb
  clear h1x
  have hl : (0 : Int) ≤ steps.length := by omega
  have hw1 : IntKind.i64.wrap (2 * (steps.length : Int)) = 2 * (steps.length : Int) := IntWalk.i64_in _ (by omega)
  have hw2 : IntKind.i64.wrap (2 * (steps.length : Int) - step) = 2 * (steps.length : Int) - step := IntWalk.i64_in _ (by omega)
  clear hb hl
  by_cases a1 : st = 1
  · have a1' : (st == 1) = true := by simpa using a1
    have Ha := Lib.hid a1
    clear a1
    go_enter Tryz.func44, Tryz.ntmps44
    go_wp2_with fail
    go_quiet (fail)
    go_wp2
    go_ret
    exact ⟨by rw [Hw.out, if_pos Ha.out]; rfl, _, rfl⟩
  · have a1' : (st == 1) = false := by simpa using a1
    have Ha := Lib.hid a1
    clear a1 hw1 hw2
    by_cases a2 : st = 2
    · have a2' : (st == 2) = true := by simpa using a2
      have Hb := Lib.hid a2
      clear a2
      go_enter Tryz.func44, Tryz.ntmps44
      go_wp2
      go_ret
      exact ⟨by rw [Hw.out, if_neg Ha.out, if_pos Hb.out]; rfl, 0, rfl⟩
    · have a2' : (st == 2) = false := by simpa using a2
      have Hb := Lib.hid a2
      clear a2
      go_enter Tryz.func44, Tryz.ntmps44
      go_wp2
      go_ret
      exact ⟨by rw [Hw.out, if_neg Ha.out, if_neg Hb.out]; rfl, 0, rfl⟩
theorem wrap_in (n : Int) (h : -9223372036854775808 ≤ n ∧ n ≤ 9223372036854775807) : wrap64 n = n := by unfold wrap64; omega
theorem wrap_20 : wrap64 1048576 = 1048576 := wrap_in _ (by omega)
theorem wrap_pow (k : Nat) (h : k ≤ 20) : wrap64 (2 ^ k) = 2 ^ k := by
  have h2 : (2 : Nat) ^ k ≤ 2 ^ 20 := Nat.pow_le_pow_right (by omega) h
  have h3 : ((2 ^ k : Nat) : Int) = (2 : Int) ^ k := by simp
  have h4 : (0 : Int) ≤ 2 ^ k := by rw [← h3]; exact Int.natCast_nonneg _
  exact wrap_in _ ⟨by omega, by rw [← h3]; omega⟩
def SagaM.paused (s : SagaM) (clock most : Int) : SagaM := { s with due := wrap64 (clock + min (2 ^ (min s.tries 20).toNat) most), tries := wrap64 (s.tries + 1) }
set_option maxHeartbeats 1000000 in
theorem Pause_calls {w : World} {sb : Nat} {s : SagaM} (h : SagaAt w sb s) (clock most : Int) (ht : 0 ≤ s.tries) :
    Calls Tryz.prog 54 #[.pointer (some ⟨sb, 0, none⟩), .int .i64 clock, .int .i64 most] w fun e w' => e = .returned (.tuple #[]) ∧ Fr (· = sb) w w' ∧ SagaAt w' sb (s.paused clock most) := by
  obtain ⟨sv, h1, h2⟩ := h
  obtain ⟨id, st, step, tries, due, steps⟩ := s
  have hturn := @SagaAt.turn w
  have Ht := Lib.hid (fun (w' : World) (s' : SagaM) (hf : Fr (· = sb) w w') (hs : s'.steps = steps) => SagaAt.turn h1 h2 hf hs)
  clear hturn
  simp only [sgCells] at h1
  clear h2
  simp only at ht
  have hcv := cellv w
  have hfv := frozv w
  go_enter Tryz.func54, Tryz.ntmps54
  go_wp2_with fail
  all_goals
    go_end0
    refine ⟨rfl, (Fr.one _ _ _ _).trans (Fr.one _ _ _ _), Ht.out _ (SagaM.paused ⟨id, st, step, tries, due, steps⟩ clock most) ((Fr.one _ _ _ _).trans (Fr.one _ _ _ _)) rfl ?_⟩
    rw [hp_setCell, if_pos rfl, hp_setCell, if_pos rfl, h1]
  · rename_i h5
    have h6 := h
    rw [wrap_20] at h6
    simp [sgCells, SagaM.paused, Int.min_eq_right (Int.le_of_lt h5), Int.min_eq_right (Int.le_of_lt h6)]
  · rename_i h5
    have h6 := h
    rw [wrap_20] at h6
    simp [sgCells, SagaM.paused, Int.min_eq_right (Int.le_of_lt h5), Int.min_eq_left h6, wrap_20]
  · rename_i h5
    have h6 := h
    rw [wrap_pow _ (by omega)] at h6
    simp [sgCells, SagaM.paused, Int.min_eq_left h5, Int.min_eq_right (Int.le_of_lt h6)]
  · rename_i h5
    have h6 := h
    rw [wrap_pow _ (by omega)] at h6
    simp [sgCells, SagaM.paused, Int.min_eq_left h5, Int.min_eq_left h6, wrap_pow _ (show tries.toNat ≤ 20 by omega)]
def SagaM.backward (s : SagaM) : SagaM := { s with st := if s.step - 1 = 0 then 4 else 2, step := s.step - 1 }
def SagaM.forward (s : SagaM) (reply : Int) : SagaM :=
  if reply = 0 then (if (s.steps.length : Int) < s.step + 1 then { s with st := 3, step := 0 } else { s with step := s.step + 1 }) else s.backward
def SagaM.moved (s : SagaM) (reply : Int) : SagaM :=
  let t : SagaM := { s with tries := 0, due := 0 }
  if s.st = 1 then t.forward reply else t.backward
def MovePost (w : World) (sb : Nat) (s : SagaM) (e : Ending) (w' : World) : Prop := e = .returned (.tuple #[]) ∧ Fr (· = sb) w w' ∧ SagaAt w' sb s
set_option maxHeartbeats 1000000 in
theorem backward_calls {w : World} {sb : Nat} {s : SagaM} (h : SagaAt w sb s) (hs : 1 ≤ s.step ∧ s.step ≤ 100) (reply : Int) :
    Calls Tryz.prog 74 #[.pointer (some ⟨sb, 0, none⟩), .int .i64 reply] w (MovePost w sb s.backward) := by
  obtain ⟨sv, h1, h2⟩ := h
  obtain ⟨id, st, step, tries, due, steps⟩ := s
  simp only at hs
  have Ht := Lib.hid (fun (w' : World) (s' : SagaM) (hf : Fr (· = sb) w w') (hs : s'.steps = steps) => SagaAt.turn h1 h2 hf hs)
  simp only [sgCells] at h1
  clear h2
  have hcv := cellv w
  have hfv := frozv w
  by_cases h0 : step - 1 = 0
  · have h0' : (step - 1 == 0) = true := by simpa using h0
    have Hb : Hid (SagaM.backward ⟨id, st, step, tries, due, steps⟩ = ⟨id, 4, step - 1, tries, due, steps⟩) := by show _ = _; simp [SagaM.backward, h0]
    have H0 := Lib.hid h0
    clear h0
    go_enter Tryz.func74, Tryz.ntmps74
    go_wp2_with fail
    go_end0
    refine ⟨rfl, ?_, ?_⟩
    · exact ((Fr.one _ _ _ _).trans (Fr.one _ _ _ _)).trans (Fr.one _ _ _ _)
    · rw [Hb.out]
      refine Ht.out _ _ (((Fr.one _ _ _ _).trans (Fr.one _ _ _ _)).trans (Fr.one _ _ _ _)) rfl ?_
      simp only [hp_setCell, if_true, h1]
      simp [sgCells]
  · have h0' : (step - 1 == 0) = false := by simpa using h0
    have Hb : Hid (SagaM.backward ⟨id, st, step, tries, due, steps⟩ = ⟨id, 2, step - 1, tries, due, steps⟩) := by show _ = _; simp [SagaM.backward, h0]
    have H0 := Lib.hid h0
    clear h0
    go_enter Tryz.func74, Tryz.ntmps74
    go_wp2_with fail
    go_end0
    refine ⟨rfl, ?_, ?_⟩
    · exact ((Fr.one _ _ _ _).trans (Fr.one _ _ _ _))
    · rw [Hb.out]
      refine Ht.out _ _ (((Fr.one _ _ _ _).trans (Fr.one _ _ _ _))) rfl ?_
      simp only [hp_setCell, if_true, h1]
      simp [sgCells]
end Go.Proofs.YtkafmfdipmhleaaGreatDoor

namespace Go.Proofs.YtkafmfdipmhleaaGreatDoor
open Go.RowKit
/-- The disk in memory: its blocks; the write that is not flushed (never more than one); its counts. -/
structure DiskM where
  blocks : List (List UInt8)
  pend : Option (Nat × List UInt8)
  calls : Int
  writes : Int
  told : Int
  off : Int
  fr : Int
  «to» : Int
def DiskM.bad (d : DiskM) : Bool := (decide (0 ≤ d.off) && decide (d.off ≤ d.calls)) || (decide (d.fr ≤ d.calls) && decide (d.calls < d.to))
/-- A call is counted, and an error if it tells one. -/
def DiskM.count (d : DiskM) : DiskM := { d with calls := wrap64 (d.calls + 1), told := if d.bad then wrap64 (d.told + 1) else d.told }
def DiskM.wf (d : DiskM) : Prop := (∀ b ∈ d.blocks, b.length = 128) ∧ ∀ p, d.pend = some p → p.1 < d.blocks.length ∧ p.2.length = 128
def blkCells (bl : List (List UInt8)) (rest : List Value) : Array Value := (bl.flatten.map bv ++ rest).toArray
def wrCells (i : Nat) (b : List UInt8) (rest : List Value) : Array Value := ((Value.int .i64 (i : Int) :: b.map bv) ++ rest).toArray
def PendAt (w : World) (cv : Value) : Option (Nat × List UInt8) → Prop
  | none => cv = .slice none 0 0
  | some (i, b) => ∃ cb ccap rest, cv = .slice (some ⟨cb, 0, none⟩) 1 ccap ∧ w.heap[cb]? = some (.cells (wrCells i b rest) 107 (0, 0))
def dkCells (bb n cap : Nat) (cv : Value) (d : DiskM) : Array Value :=
  #[.slice (some ⟨bb, 0, none⟩) n cap, cv, .int .i64 d.calls, .int .i64 d.writes, .int .i64 d.told, .int .i64 d.off, .int .i64 d.fr, .int .i64 d.to]
structure DiskAt (w : World) (db bb : Nat) (d : DiskM) : Prop where
  wf : d.wf
  ex : ∃ cap rest cv, w.heap[db]? = some (.cells (dkCells bb d.blocks.length cap cv d) 102 (0, 0)) ∧ w.heap[bb]? = some (.cells (blkCells d.blocks rest) 103 (0, 0)) ∧ PendAt w cv d.pend
/-- A block whose kind is none of a disk's. -/
def Apart (w : World) (ks : List Nat) (S : Nat → Prop) : Prop := ∀ k, S k → ∃ o, w.heap[k]? = some o ∧ kindOf o ∉ ks
theorem PendAt.frame {w w' : World} {cv : Value} {q : Option (Nat × List UInt8)} {S : Nat → Prop} (h : PendAt w cv q) (hf : Fr S w w') (hS : ∀ k, S k → ∃ o, w.heap[k]? = some o ∧ kindOf o ≠ 108) : PendAt w' cv q := by
  cases q with
  | none => exact h
  | some p =>
    obtain ⟨cb, ccap, rest', hcv, hcb⟩ := h
    refine ⟨cb, ccap, rest', hcv, hf.get hcb (fun s => ?_)⟩
    obtain ⟨o, ho, hk⟩ := hS cb s
    rw [hcb] at ho
    exact hk (by rw [← Option.some.inj ho]; rfl)
theorem DiskAt.frame {w w' : World} {db bb : Nat} {d : DiskM} {S : Nat → Prop} (h : DiskAt w db bb d) (hf : Fr S w w') (hS : ∀ k, S k → k ≠ db ∧ k ≠ bb ∧ ∃ o, w.heap[k]? = some o ∧ kindOf o ≠ 108) : DiskAt w' db bb d := by
  obtain ⟨hwf, cap, rest, cv, h1, h2, h3⟩ := h
  refine ⟨hwf, cap, rest, cv, hf.get h1 (fun s => (hS db s).1 rfl), hf.get h2 (fun s => (hS bb s).2.1 rfl), ?_⟩
  cases hp : d.pend with
  | none => rw [hp] at h3; exact h3
  | some p =>
    rw [hp] at h3
    obtain ⟨cb, ccap, rest', hcv, hcb⟩ := h3
    refine ⟨cb, ccap, rest', hcv, hf.get hcb (fun s => ?_)⟩
    obtain ⟨_, _, o, ho, hk⟩ := hS cb s
    rw [hcb] at ho
    exact hk (by rw [← Option.some.inj ho]; rfl)
/-- If no block of a disk's kinds turns, a disk stays as it is. -/
theorem DiskAt.apart {w w' : World} {db bb : Nat} {d : DiskM} {S : Nat → Prop} (h : DiskAt w db bb d) (hf : Fr S w w') (hS : Apart w [103, 104, 108] S) : DiskAt w' db bb d := by
  refine h.frame hf (fun k s => ?_)
  obtain ⟨o, ho, hk⟩ := hS k s
  obtain ⟨_, cap, rest, cv, h1, h2, _⟩ := h
  refine ⟨?_, ?_, o, ho, fun e => hk (by simp [e])⟩
  · rintro rfl; rw [h1] at ho; exact hk (by rw [← Option.some.inj ho]; simp [kindOf])
  · rintro rfl; rw [h2] at ho; exact hk (by rw [← Option.some.inj ho]; simp [kindOf])
theorem DiskAt.new {w w' : World} {db bb : Nat} {d : DiskM} (h : DiskAt w db bb d) (hf : New w w') : DiskAt w' db bb d := h.apart hf (fun _ f => f.elim)
set_option maxHeartbeats 1000000 in
theorem fails_calls {w : World} {db bb : Nat} {d : DiskM} (h : DiskAt w db bb d) :
    Calls Tryz.prog 181 #[.pointer (some ⟨db, 0, none⟩)] w fun e w' => e = .returned (.bool d.bad) ∧ DiskAt w' db bb d.count ∧ Fr (· = db) w w' := by
  obtain ⟨hwf, cap, rest, cv, h1, h2, h3⟩ := h
  have hne : bb ≠ db := ne_of_kind h2 h1 (by simp [kindOf])
  have hp : ∀ w', Fr (· = db) w w' → PendAt w' cv d.pend := by
    intro w' hf
    cases hp : d.pend with
    | none => rw [hp] at h3; exact h3
    | some p =>
      rw [hp] at h3
      obtain ⟨cb, ccap, rest', hcv, hcb⟩ := h3
      exact ⟨cb, ccap, rest', hcv, hf.get hcb (ne_of_kind hcb h1 (by simp [kindOf]))⟩
  obtain ⟨blocks, pend, c, wr, tl, o, f, t⟩ := d
  have key : ∀ (b : Bool) (w' : World), b = DiskM.bad ⟨blocks, pend, c, wr, tl, o, f, t⟩ → Fr (· = db) w w' → w'.heap[db]? = some (.cells #[.slice (some ⟨bb, 0, none⟩) blocks.length cap, cv, .int .i64 (wrap64 (c + 1)), .int .i64 wr, .int .i64 (if b then wrap64 (tl + 1) else tl), .int .i64 o, .int .i64 f, .int .i64 t] 102 (0, 0)) →
      DiskAt w' db bb (DiskM.count ⟨blocks, pend, c, wr, tl, o, f, t⟩) := by
    rintro b w' rfl hf hb
    exact ⟨hwf, cap, rest, cv, hb, hf.get h2 hne, hp w' hf⟩
  have Key := Lib.hid key
  have Hbad : Hid (DiskM.bad ⟨blocks, pend, c, wr, tl, o, f, t⟩ = ((decide (0 ≤ o) && decide (o ≤ c)) || (decide (f ≤ c) && decide (c < t)))) := rfl
  simp only [dkCells] at h1
  clear key hp h3 hwf h2
  have hcv := cellv w
  have hfv := frozv w
  by_cases a1 : 0 ≤ o <;> by_cases a2 : o ≤ c <;> by_cases a3 : f ≤ c <;> by_cases a4 : c < t
  all_goals
    go_enter Tryz.func181, Tryz.ntmps181
    go_wp2
    go_ret
    have hF : ∀ (v : Value), Fr (· = db) w ((w.setCell ⟨db, 2, none⟩ (.int .i64 (wrap64 (c + 1)))).setCell ⟨db, 4, none⟩ v) := fun v => ((Fr.refl (· = db) w).setCell (fun _ => rfl) _ _).setCell (fun _ => rfl) _ _
    have hF1 : Fr (· = db) w (w.setCell ⟨db, 2, none⟩ (.int .i64 (wrap64 (c + 1)))) := Fr.one _ _ _ _
    refine ⟨by rw [Hbad.out]; first | (simp [a1, a2, a3, a4]; done) | (simp [a1, a2, a3, a4]; omega), Key.out _ _ (by rw [Hbad.out]) ?_ (by first | (simp [hp_setCell, h1, a1, a2, a3, a4]; done) | (simp [hp_setCell, h1, a1, a2, a3, a4]; intro hh; omega)), ?_⟩ <;> first | exact hF1 | exact hF _
set_option maxHeartbeats 1000000 in
theorem none_calls {w : World} {db bb : Nat} {d : DiskM} (h : DiskAt w db bb d) (i : Nat) :
    Calls Tryz.prog 182 #[.pointer (some ⟨db, 0, none⟩), .int .i64 i] w fun e w' => e = .returned (.bool (decide (d.blocks.length ≤ i))) ∧ w = w' := by
  obtain ⟨hwf, cap, rest, cv, h1, h2, h3⟩ := h
  simp only [dkCells] at h1
  clear hwf h2 h3
  have hcv := cellv w
  go_enter Tryz.func182, Tryz.ntmps182
  go_wp2
  all_goals
    go_ret
    exact ⟨by first | (simp; done) | (simp; omega), rfl⟩
set_option maxHeartbeats 1000000 in
theorem Blocks_calls {w : World} {db bb : Nat} {d : DiskM} (h : DiskAt w db bb d) :
    Calls Tryz.prog 177 #[.pointer (some ⟨db, 0, none⟩)] w fun e w' => e = .returned (.int .i64 d.blocks.length) ∧ w = w' := by
  obtain ⟨hwf, cap, rest, cv, h1, h2, h3⟩ := h
  simp only [dkCells] at h1
  clear hwf h2 h3
  have hcv := cellv w
  go_enter Tryz.func177, Tryz.ntmps177
  go_wp2
  go_ret
  exact ⟨rfl, rfl⟩
end Go.Proofs.YtkafmfdipmhleaaGreatDoor

namespace Go.Proofs.YtkafmfdipmhleaaGreatDoor
open Go.RowKit
theorem heap_alloc_keep {w : World} {k : Nat} {x : Obj} (o : Obj) (h : w.heap[k]? = some x) : (w.alloc o).heap[k]? = some x := by
  rw [hp_alloc, if_neg (ne_size_of_hp h)]; exact h
section
variable {P : Program} {w : World} {ops : Array Oper} {rest : List Oper} {o : Oper} {a : Act} {Q : Exit → Act → World → Prop}
/-- copy from a slice into a row. -/
theorem wpl_copy (hgd : o.guard = none) (d s : Operand) (dT sT : TypeId)
    (ho : o.op = .call { callee := .builtin .copy, args := #[d, s], argTypes := #[dT, sT] }) (elem : TypeId) (hu : P.underlying dT = some (.slice elem)) (hsz : (P.info? elem).map (·.size) = some 1)
    (g off dLen dCap : Nat) (hd : a.eval d = .slice (some ⟨g, off, none⟩) dLen dCap) (sb so sLen sCap : Nat) (hs : a.eval s = .slice (some ⟨sb, so, none⟩) sLen sCap)
    (cur : Array Value) (t : TypeId) (hg : w.heap[g]? = some (.cells cur t (0, 0))) (cs : List Value) (hn : cs.length = Nat.min sLen dLen)
    (hsrc : ∀ j v, cs[j]? = some v → cellOf w.heap[sb]? (so + j) = some v) (hfit : off + cs.length ≤ cur.size) (h1 : ∀ v ∈ cs, v.oneCell' = true)
    (h : ∀ w' Y, Hid (Y = (cur.toList.take off ++ cs ++ cur.toList.drop (off + cs.length)).toArray) → w'.heap[g]? = some (.cells Y t (0, 0)) → Fr (· = g) w w' → wpList P ops Q rest (a.put o.dst (goInt cs.length)) w') :
    wpList P ops Q (o :: rest) a w := by
  refine wpList_plain hgd fun K hK => ?_
  have hrun := run_copy_row (P := P) w dT sT o.type elem g off dLen dCap ⟨sb, so, none⟩ sLen sCap cur t cs hu hsz hg hn (fun j v hv => by rw [Addr.add_mid, cellv]; exact hsrc j v hv) hfit h1
  unfold Oper.wp
  simp [execOp, ho, resolve, invoke, builtin, hd, hs, hrun, Result.andThen]
  exact hK _ _ (h _ _ rfl (by rw [setRow_heap w g _ _ t _ hg]; simp) ((Fr.refl (· = g) w).setRow (fun _ => rfl) _))
/-- An aggregate read out of a block. -/
theorem wpl_load (hgd : o.guard = none) (ty : TypeId) (x : Operand) (ho : o.op = .load ty x) (b off : Nat) (hx : a.eval x = .pointer (some ⟨b, off, none⟩)) (cs : List Value) (d : TypeDesc)
    (hc : ∀ j v, cs[j]? = some v → cellOf w.heap[b]? (off + j) = some v) (hu : P.underlying ty = some d) (hd : d.isRow = true) (hi : (P.info? ty).map (·.size) = some cs.length)
    (h : wpList P ops Q rest (a.put o.dst (.agg cs.toArray)) w) : wpList P ops Q (o :: rest) a w :=
  wpList_load_mid hgd ty x ho b off hx cs d (fun j v hv => by rw [cellv]; exact hc j v hv) hu hd hi h
/-- An aggregate stored into a variable that has just been made. -/
theorem wpl_store_new (hgd : o.guard = none) (ty : TypeId) (x y : Operand) (ho : o.op = .store ty x y) (n : Nat) (cells z : Array Value) (t : TypeId) (hn : n = w.heap.size)
    (hx : a.eval x = .pointer (some ⟨n, 0, none⟩)) (hy : a.eval y = .agg cells) (hi : (P.info? ty).map (·.size) = some cells.size) (hz : z.size = cells.size) (h1 : cells.all (·.oneCell') = true)
    (h : wpList P ops Q rest (a.put o.dst undef) (w.alloc (.cells cells t))) : wpList P ops Q (o :: rest) a (w.alloc (.cells z t)) := by
  subst hn
  refine wpList_store_row hgd ty x y ho w.heap.size cells hx hy t z (heap_alloc_new w _) hi hz h1 ?_
  rw [World.setRow_alloc_new]
  exact h
end
def DiskM.look (d : DiskM) (i : Nat) : List UInt8 :=
  match d.pend with
  | some (j, b) => if j = i then b else d.blocks.getD i []
  | none => d.blocks.getD i []
theorem DiskM.look_length {d : DiskM} (h : d.wf) {i : Nat} (hi : i < d.blocks.length) : (d.look i).length = 128 := by
  have hg : (d.blocks.getD i []).length = 128 := by
    rw [List.getD_eq_getElem?_getD, List.getElem?_eq_getElem hi]; exact h.1 _ (List.getElem_mem hi)
  unfold DiskM.look
  split
  · rename_i j b hp
    split
    · exact (h.2 _ hp).2
    · exact hg
  · exact hg
/-- What Read answers. -/
def ReadPost (w : World) (db bb : Nat) (d : DiskM) (i : Nat) (e : Ending) (w' : World) : Prop :=
  DiskAt w' db bb d.count ∧ Fr (· = db) w w' ∧
    (d.bad = true ∧ e = .returned (.tuple #[.slice none 0 0, .iface 55 (.int .i64 5)]) ∨
     d.bad = false ∧ ∃ g, w.heap.size ≤ g ∧ e = .returned (.tuple #[.slice (some ⟨g, 0, none⟩) 128 128, .nilIface]) ∧ w'.heap[g]? = some (.cells ((d.look i).map bv).toArray 5 (0, 0)))
theorem blk_get (bl : List (List UInt8)) (h : ∀ b ∈ bl, b.length = 128) (rest : List Value) (i : Nat) (hi : i < bl.length) (j : Nat) (hj : j < 128) : (blkCells bl rest)[i * 128 + j]? = (((bl.getD i []).map bv))[j]? := by
  induction bl generalizing i with
  | nil => simp at hi
  | cons b bl ih =>
    have hb := h b (by simp)
    cases i with
    | zero =>
      simp [blkCells, List.getElem?_append_left, hb, hj]
    | succ i =>
      have := ih (fun x hx => h x (by simp [hx])) i (by simpa using hi)
      simp only [blkCells, List.getElem?_toArray] at this ⊢
      rw [List.flatten_cons, List.map_append, List.append_assoc, List.getElem?_append_right (by simp [hb]; omega)]
      simp only [List.length_map, hb]
      rw [show (i + 1) * 128 + j - 128 = i * 128 + j by omega, this]
      simp
theorem bv_one (l : List UInt8) : ∀ v ∈ l.map bv, v.oneCell' = true := by
  intro v hv
  obtain ⟨x, _, rfl⟩ := List.mem_map.1 hv
  rfl
theorem Tryz.info5sz : (Tryz.prog.info? 5).map (·.size) = some 1 := by kernel_rfl
theorem Tryz.info107s : (Tryz.prog.info? 107).map (·.size) = some 129 := by kernel_rfl
theorem Tryz.zc107 : Tryz.zeroCells107.size = 129 := by kernel_rfl
set_option maxRecDepth 100000 in
set_option maxHeartbeats 2000000 in
theorem Read_calls {w : World} {db bb : Nat} {d : DiskM} (h : DiskAt w db bb d) (i : Nat) (hi : i < d.blocks.length) :
    Calls Tryz.prog 179 #[.pointer (some ⟨db, 0, none⟩), .int .i64 i] w (ReadPost w db bb d i) := by
  have hfl := fails_calls h
  go_enter Tryz.func179, Tryz.ntmps179
  go_wp2_with fail
  refine hfl.mono ?_
  rintro e w1 ⟨rfl, hd1, hf1⟩
  clear hfl
  by_cases hbad : d.bad = true
  · rw [hbad]
    go_wp2_with fail
    go_ret2
    exact ⟨hd1, hf1, .inl ⟨hbad, rfl⟩⟩
  · have hbad' : d.bad = false := by simpa using hbad
    rw [hbad']
    have hmk : ∀ w, (Instr.makeSlice 92 (.int .i64 128) (.int .i64 128)).run Tryz.prog w = .ok (.slice (some ⟨w.heap.size, 0, none⟩) 128 128) (w.alloc (.cells (Array.replicate 128 (.int .u8 0)) 5)) := fun _ => by kernel_rfl
    go_wp2_with fail
    refine (none_calls hd1 i).mono ?_
    rintro e w2 ⟨rfl, rfl⟩
    have hlt : decide (d.count.blocks.length ≤ i) = false := by rw [decide_eq_false_iff_not]; show ¬ d.blocks.length ≤ i; omega
    rw [hlt]
    go_upto_region 4 with fail
    clear hlt hmk
    have hd2 := hd1.new ((Fr.refl _ w1).alloc (.cells (Array.replicate 128 (.int .u8 0)) 5))
    have hg2 := heap_alloc_new w1 (.cells (Array.replicate 128 (.int .u8 0)) 5)
    have hf2 := hf1.alloc (.cells (Array.replicate 128 (.int .u8 0)) 5)
    have hgl : w.heap.size ≤ w1.heap.size := hf1.size
    generalize w1.alloc (.cells (Array.replicate 128 (.int .u8 0)) 5) = W2 at hd2 hg2 hf2 ⊢
    generalize w1.heap.size = g at hg2 hgl ⊢
    have hZs : (Array.replicate 128 (Value.int .u8 0)).size = 128 := by simp
    generalize (Array.replicate 128 (Value.int .u8 0)) = Z at hg2 hZs
    have Hd := Lib.hid hd2
    obtain ⟨hwf, cap, rest, cv, h1, h2, h3⟩ := hd2
    simp only [dkCells] at h1
    have hcv := cellv W2
    have hwf' : d.wf := hwf
    have hblk : (d.blocks.getD i []).length = 128 := by
      rw [List.getD_eq_getElem?_getD, List.getElem?_eq_getElem hi]; exact hwf'.1 _ (List.getElem_mem hi)
    have hsrc : ∀ j v, ((d.blocks.getD i []).map bv)[j]? = some v → cellOf W2.heap[bb]? (i * 128 + j) = some v := by
      intro j v hj
      have hj' : j < 128 := by
        have := (List.getElem?_eq_some_iff.1 hj).1
        rw [List.length_map, hblk] at this; exact this
      rw [h2, cellOf_cells]
      exact (blk_get d.blocks hwf'.1 rest i hi j hj').trans hj
    have Hlook : Hid (d.look i = match d.pend with | some (j, b) => if j = i then b else d.blocks.getD i [] | none => d.blocks.getD i []) := by
      show _ = _
      unfold DiskM.look
      split <;> rfl
    generalize hB0 : d.blocks.getD i [] = B0 at hblk hsrc Hlook
    have Hsrc := Lib.hid hsrc
    have Hn := Lib.hid (show (B0.map bv).length = 128 by rw [List.length_map]; exact hblk)
    have Hfit := Lib.hid (show 0 + (B0.map bv).length ≤ Z.size by rw [List.length_map, hblk, hZs]; omega)
    have HZ := Lib.hid (show Z.toList.take 0 ++ B0.map bv ++ Z.toList.drop (0 + (B0.map bv).length) = B0.map bv by
      rw [List.drop_of_length_le (by simp [hZs, hblk])]; simp)
    have Hone := Lib.hid (bv_one B0)
    have Hb := Lib.hid hblk
    have hi' : (i : Int) < d.count.blocks.length := by show (i : Int) < d.blocks.length; omega
    have hi0 : 0 ≤ (i : Int) := by omega
    have Hwf := Lib.hid hwf'
    generalize hC : B0.map bv = C at Hsrc Hn Hfit HZ Hone
    have HC := Lib.hid hC
    clear hwf hblk h2 hd1 hf1 hi hsrc hZs hwf' hB0 hC
    have h3' : PendAt W2 cv d.pend := h3
    clear h3
    go_upto_region 5 with (refine wpl_copy rfl (.tmp 18) (.tmp 25) 92 92 rfl 5 Tryz.underlying92 Tryz.info5sz g 0 128 128 rfl bb (i * 128) 128 128 rfl Z 5 hg2 C Hn.out Hsrc.out Hfit.out Hone.out ?_; intro W3 Y hY hg3 hf3)
    have hgdb : db ≠ g := ne_of_kind h1 hg2 (by simp [kindOf])
    have hd3 : DiskAt W3 db bb d.count := Hd.out.apart hf3 (by rintro k rfl; exact ⟨_, hg2, by simp [kindOf]⟩)
    have hF3 : Fr (· = db) w W3 := hf2.trans' hf3 (fun k hk e => by omega)
    have hY' : Y = C.toArray := by rw [hY.out, HZ.out]
    subst hY'
    have h13 := hf3.get h1 hgdb
    have h33 := h3'.frame hf3 (by rintro k rfl; exact ⟨_, hg2, by simp [kindOf]⟩)
    clear h3'
    have Hd3 := Lib.hid hd3
    clear hcv h1 hg2 hf3 hd3 hf2 Hd
    have hcv3 := cellv W3
    cases hp : d.pend with
    | none =>
      rw [hp] at h33
      obtain rfl : cv = .slice none 0 0 := h33
      go_wp2_with fail
      refine wp_loop_rounds 1 ?_
      rw [rounds_succ]
      go_wp2_with fail
      go_ret2
      refine ⟨Hd3.out, hF3, .inr ⟨hbad', g, hgl, rfl, ?_⟩⟩
      rw [Hlook.out, hp, HC.out]
      exact hg3
    | some p =>
      obtain ⟨j, b⟩ := p
      rw [hp] at h33
      obtain ⟨cb, ccap, rest', rfl, hcb⟩ := h33
      obtain ⟨hpj, hpb⟩ := Hwf.out.2 _ hp
      have hpb' : b.length = 128 := hpb
      have hl := Hlook.out
      rw [hp] at hl
      have Hl := Lib.hid hl
      have hw1 : ∀ q v, (Value.int .i64 (j : Int) :: b.map bv)[q]? = some v → cellOf W3.heap[cb]? (0 + q) = some v := by
        intro q v hq
        rw [hcb, cellOf_cells, Nat.zero_add, wrCells, List.getElem?_toArray, List.getElem?_append_left (List.getElem?_eq_some_iff.1 hq).1]
        exact hq
      have hw2 : (Value.int .i64 (j : Int) :: b.map bv).length = 129 := by simp [hpb']
      have hw3 : (Value.int .i64 (j : Int) :: b.map bv).toArray.all (·.oneCell') = true := all_oneCell_toArray (by
        intro v hv
        rcases List.mem_cons.1 hv with rfl | hv
        · rfl
        · exact bv_one b v hv)
      have hw4 : (Value.int .i64 (j : Int) :: b.map bv).toArray[0]? = some (.int .i64 (j : Int)) := rfl
      have hw5 : ∀ q v, (b.map bv)[q]? = some v → (Value.int .i64 (j : Int) :: b.map bv).toArray[1 + q]? = some v := by
        intro q v hq
        rw [Nat.add_comm]; simpa using hq
      have Hbm := Lib.hid (show (b.map bv).length = 128 by rw [List.length_map]; exact hpb')
      have Hone2 := Lib.hid (bv_one b)
      generalize hCW : (Value.int .i64 (j : Int) :: b.map bv) = CW at hw1 hw2 hw3 hw4 hw5
      have Hw1 := Lib.hid hw1
      have Hw3 := Lib.hid hw3
      have Hw5 := Lib.hid hw5
      have Hi1 := Lib.hid (show (Tryz.prog.info? 107).map (·.size) = some CW.length by rw [hw2]; exact Tryz.info107s)
      have Hi2 := Lib.hid (show (Tryz.prog.info? 107).map (·.size) = some CW.toArray.size by rw [List.size_toArray, hw2]; exact Tryz.info107s)
      have Hi3 := Lib.hid (Tryz.zc107.trans (show 129 = CW.toArray.size by rw [List.size_toArray, hw2]))
      have Hp := Lib.hid hp
      have Hcb := Lib.hid hcb
      clear hw1 hw2 hw3 hw5 hCW hp hl hpb hpb' hcb hpj
      go_wp2_with fail
      refine wp_loop_rounds 2 ?_
      rw [rounds_succ]
      go_upto_region 8 with (first
        | (refine wpl_load rfl 107 (.tmp 34) rfl cb 0 rfl CW _ Hw1.out Tryz.underlying107 rfl Hi1.out ?_)
        | (refine wpl_store_new rfl 107 (.tmp 8) (.tmp 35) rfl W3.heap.size CW.toArray Tryz.zeroCells107 107 rfl rfl rfl Hi2.out Hi3.out Hw3.out ?_)
        | fail)
      have hd4 := Hd3.out.new ((Fr.refl _ W3).alloc (.cells CW.toArray 107))
      have hn4 := heap_alloc_new W3 (.cells CW.toArray 107)
      have hF4 := hF3.alloc (.cells CW.toArray 107)
      have hg4 := heap_alloc_keep (.cells CW.toArray 107) hg3
      have hgn : g ≠ W3.heap.size := ne_size_of_hp hg3
      have hnl : w.heap.size ≤ W3.heap.size := hF3.size
      generalize W3.alloc (.cells CW.toArray 107) = W4 at hd4 hn4 hF4 hg4 ⊢
      generalize W3.heap.size = n at hn4 hgn hnl ⊢
      have Hd4 := Lib.hid hd4
      have hcv4 := cellv W4
      clear hcv3 h13 hg3 hd4
      by_cases hji : j = i
      · have hjB : ((j : Int) == i) = true := by rw [hji]; simp
        have hl2 : Hid (C.length = 128) := Hn
        have hfit2 : Hid (0 + (b.map bv).length ≤ C.toArray.size) := by
          show _ ≤ _
          rw [Hbm.out, List.size_toArray, hl2.out]; omega
        have hsrc2 : Hid (∀ q v, (b.map bv)[q]? = some v → cellOf W4.heap[n]? (1 + q) = some v) := by
          intro q v hq
          rw [hn4, cellOf_cells]
          exact Hw5.out q v hq
        go_wp2_with (first
          | (refine wpl_copy rfl (.tmp 40) (.tmp 42) 92 92 rfl 5 Tryz.underlying92 Tryz.info5sz g 0 128 128 rfl n 1 128 128 rfl C.toArray 5 hg4 (b.map bv) Hbm.out hsrc2.out hfit2.out Hone2.out ?_; intro W5 Y5 hY5 hg5 hf5)
          | fail)
        have hY5' : Y5 = (b.map bv).toArray := by
          rw [hY5.out, List.drop_of_length_le (by rw [Hbm.out]; simp [hl2.out])]
          simp
        subst hY5'
        have Hf5 := Lib.hid hf5
        have Hg5 := Lib.hid hg5
        clear hf5 hg5 hcv4
        rw [rounds_succ]
        go_wp2_with fail
        go_ret2
        refine ⟨Hd4.out.apart Hf5.out (by rintro k rfl; exact ⟨_, hg4, by simp [kindOf]⟩), hF4.trans' Hf5.out (fun k hk e => by omega), .inr ⟨hbad', g, hgl, rfl, ?_⟩⟩
        rw [Hl.out]
        simp only [if_pos hji]
        exact Hg5.out
      · have hjB : ((j : Int) == i) = false := by simp; omega
        go_wp2_with fail
        rw [rounds_succ]
        go_wp2_with fail
        go_ret2
        refine ⟨Hd4.out, hF4, .inr ⟨hbad', g, hgl, rfl, ?_⟩⟩
        rw [Hl.out]
        simp only [if_neg hji]
        rw [HC.out]
        exact hg4
end Go.Proofs.YtkafmfdipmhleaaGreatDoor
