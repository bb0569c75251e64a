/-
  What is proved: the contracts of journal's (*block).put: numbers are laid as bytes, the least first.
-/
import Derived.Test.YtkafmfdipmhleaaGreatDoorProg
import Derived.Test.YtkafmfdipmhleaaGreatDoorBase
import Derived.Deep.QuietTactic
import Derived.BigQuiet
namespace Go.Proofs.YtkafmfdipmhleaaGreatDoor
open Go.RowKit

/-- A block on its way: its bytes, and how much of it is written. -/
def wayCells (bs : List UInt8) (at_ : Nat) : Array Value := (bs.map bv ++ [Value.int .i64 (at_ : Int)]).toArray
theorem way_byte (bs : List UInt8) (at_ k : Nat) (h : k < bs.length) : (wayCells bs at_)[k]? = some (bv (bs.getD k 0)) := by
  simp [wayCells, List.getElem?_append_left, h]
theorem way_at (bs : List UInt8) (at_ : Nat) (h : bs.length = 128) : (wayCells bs at_)[128]? = some (.int .i64 (at_ : Int)) := by
  simp [wayCells, h]
theorem way_set (bs : List UInt8) (at_ k : Nat) (x : UInt8) (h : k < bs.length) : (wayCells bs at_).setIfInBounds k (bv x) = wayCells (bs.set k x) at_ := by
  simp only [wayCells, List.setIfInBounds_toArray, List.map_set]
  rw [List.set_append_left _ _ (by simpa using h)]
theorem way_setAt (bs : List UInt8) (at_ q : Nat) (h : bs.length = 128) : (wayCells bs at_).setIfInBounds 128 (.int .i64 (q : Int)) = wayCells bs q := by
  simp only [wayCells, List.setIfInBounds_toArray]
  rw [List.set_append_right _ _ (by simp [h])]
  simp [h]

/-- Byte k of a number. -/
def leB (n k : Nat) : UInt8 := UInt8.ofNat (n / 2 ^ (8 * k))
def leN (wd n : Nat) : List UInt8 := (List.range wd).map (leB n)
theorem leN_length (wd n : Nat) : (leN wd n).length = wd := by simp [leN]
theorem bv_leB (n k : Nat) : bv (leB n k) = .int .u8 ((n : Int) / 2 ^ (8 * k) % 256) := by
  unfold bv leB
  congr 1
/-- bs with l written over it from at_ on. -/
def wrAt (bs : List UInt8) (at_ : Nat) (l : List UInt8) : List UInt8 := bs.take at_ ++ l ++ bs.drop (at_ + l.length)
theorem wrAt_nil (bs : List UInt8) (at_ : Nat) : wrAt bs at_ [] = bs := by simp [wrAt]
theorem wrAt_length (bs : List UInt8) (at_ : Nat) (l : List UInt8) (h : at_ + l.length ≤ bs.length) : (wrAt bs at_ l).length = bs.length := by
  simp [wrAt]; omega
theorem wrAt_snoc (bs : List UInt8) (at_ : Nat) (l : List UInt8) (x : UInt8) (h : at_ + l.length < bs.length) : (wrAt bs at_ l).set (at_ + l.length) x = wrAt bs at_ (l ++ [x]) := by
  unfold wrAt
  have h1 : (bs.take at_ ++ l).length = at_ + l.length := by simp; omega
  rw [List.set_append_right _ _ (by omega), h1, Nat.sub_self]
  rw [show bs.drop (at_ + l.length) = bs[at_ + l.length] :: bs.drop (at_ + l.length + 1) from List.drop_eq_getElem_cons h]
  simp [List.append_assoc, Nat.add_assoc]
theorem wrAt_wrAt (bs : List UInt8) (at_ : Nat) (l m : List UInt8) (h : at_ + l.length ≤ bs.length) : wrAt (wrAt bs at_ l) (at_ + l.length) m = wrAt bs at_ (l ++ m) := by
  unfold wrAt
  have h1 : (bs.take at_ ++ l).length = at_ + l.length := by simp; omega
  rw [List.take_append_of_le_length (by omega), List.take_of_length_le (by omega), List.drop_append, List.drop_of_length_le (by omega), h1]
  simp [List.append_assoc, Nat.add_assoc]
theorem flat_len (wd : Nat) (ns : List Nat) : (ns.flatMap (leN wd)).length = wd * ns.length := by
  induction ns with
  | nil => simp
  | cons a l ih => simp [ih, leN_length, Nat.mul_add]; omega

/-- One byte laid, and the mark moved: what the block is then. -/
theorem put_step (w : World) (b : Nat) (bs : List UInt8) (at_ : Nat) (l : List UInt8) (P n q : Nat) (hb : w.heap[b]? = some (.cells (wayCells (wrAt bs at_ l) P) 201 (0, 0)))
    (hbs : bs.length = 128) (hP : P = at_ + l.length) (hPlt : P < 128) :
    ((w.setCell ⟨b, P, none⟩ (.int .u8 ((n : Int) / 2 ^ (8 * q) % 256))).setCell ⟨b, 128, none⟩ (.int .i64 ((P : Int) + 1))).drew.heap[b]? =
      some (.cells (wayCells (wrAt bs at_ (l ++ [leB n q])) (P + 1)) 201 (0, 0)) := by
  have hl : (wrAt bs at_ l).length = 128 := by rw [wrAt_length _ _ _ (by omega)]; exact hbs
  rw [hp_drew, hp_setCell, if_pos rfl, hp_setCell, if_pos rfl, hb, objSet_cells, objSet_cells, ← bv_leB, way_set _ _ _ _ (by omega), hP, wrAt_snoc _ _ _ _ (by omega),
    show ((↑(at_ + l.length) : Int) + 1) = ((at_ + l.length + 1 : Nat) : Int) from by push_cast; rfl, way_setAt _ _ _ (by rw [wrAt_length _ _ _ (by simp; omega)]; exact hbs)]

/-- What put does: the numbers' bytes, from the mark on. -/
def PutPost (b : Nat) (w : World) (bs : List UInt8) (at_ : Nat) (l : List UInt8) (e : Ending) (w' : World) : Prop :=
  e = .returned (.tuple #[]) ∧ w'.heap[b]? = some (.cells (wayCells (wrAt bs at_ l) (at_ + l.length)) 201 (0, 0)) ∧ Fr (· = b) w w'

set_option maxHeartbeats 1000000 in
theorem put_calls (b : Nat) (w : World) (bs : List UInt8) (at_ wd : Nat) (ns : List Nat) (lb loff cap : Nat) (hat : at_ + wd * ns.length ≤ 128) (hwd : 1 ≤ wd ∧ wd ≤ 8) (hlen : ns.length ≤ 128)
    (hl : ∀ j, j < ns.length → cellOf w.heap[lb]? (loff + j) = some (.int .i64 (ns.getD j 0 : Nat))) (hn : ∀ n ∈ ns, n < 2^63) (hne : lb ≠ b) (hlb : lb < w.heap.size)
    (hbs : bs.length = 128) (hb : w.heap[b]? = some (.cells (wayCells bs at_) 201 (0, 0))) :
    Calls Tryz.prog 117 #[.pointer (some ⟨b, 0, none⟩), .int .i64 wd, .slice (some ⟨lb, loff, none⟩) ns.length cap] w (PutPost b w bs at_ (ns.flatMap (leN wd))) := by
  obtain ⟨hwd1, hwd2⟩ := hwd
  go_enter Tryz.func117, Tryz.ntmps117
  go_wp2
  go_loopw [11] (fun i wr => ∃ m : Nat, m ≤ ns.length ∧ i = .int .i64 m ∧ wr.heap[b]? = some (.cells (wayCells (wrAt bs at_ ((ns.take m).flatMap (leN wd))) (at_ + wd * m)) 201 (0, 0)) ∧ Fr (· = b) w wr) (fun i _ => ns.length - (intOf i).toNat)
  case atStart => exact ⟨0, by omega, rfl, by simpa [wrAt] using hb, Fr.refl _ _⟩
  case round =>
    obtain ⟨m, hm, rfl, hb1, hf1⟩ := hrel
    by_cases hlt : m < ns.length
    · have hcv := cellv wr
      have hc := (congrArg (cellOf · (loff + m)) (hf1.block lb hlb hne)).trans (hl m hlt)
      have hnm : ns.getD m 0 < 2 ^ 63 := hn _ (by rw [List.getD_eq_getElem?_getD]; simp [hlt])
      have htk : (ns.take (m + 1)).flatMap (leN wd) = (ns.take m).flatMap (leN wd) ++ leN wd (ns.getD m 0) := by
        rw [List.take_succ_eq_append_getElem hlt, List.flatMap_append, List.getD_eq_getElem?_getD]; simp [hlt]
      have htl : ((ns.take m).flatMap (leN wd)).length = wd * m := by rw [flat_len, List.length_take, Nat.min_eq_left hm]
      generalize hnv : ns.getD m 0 = n at hc hnm htk
      have hmw : at_ + wd * m + wd ≤ 128 := by
        have : wd * (m + 1) ≤ wd * ns.length := Nat.mul_le_mul_left _ hlt
        rw [Nat.mul_add] at this; omega
      generalize hpre : (ns.take m).flatMap (leN wd) = pre at hb1 htk htl
      have Hb1 := Lib.hid hb1
      have Htk := Lib.hid htk
      have Htl := Lib.hid htl
      clear hb1 hnv hb hl htk htl hpre
      go_wp2
      go_loopw [16] (fun k wr' => ∃ q : Nat, q ≤ wd ∧ k = .int .i64 q ∧ wr'.heap[b]? = some (.cells (wayCells (wrAt bs at_ (pre ++ (List.range q).map (leB n))) (at_ + wd * m + q)) 201 (0, 0)) ∧ Fr (· = b) w wr') (fun k _ => wd - (intOf k).toNat)
      case atStart => exact ⟨0, by omega, rfl, by simpa using Hb1.out, hf1⟩
      case round =>
        obtain ⟨q, hq, rfl, hb2, hf2⟩ := hrel
        by_cases hlt2 : q < wd
        · have hl2 : (pre ++ (List.range q).map (leB n)).length = wd * m + q := by simp [Htl.out]
          generalize hL : pre ++ (List.range q).map (leB n) = L at hb2 hl2
          have hlen2 : (wrAt bs at_ L).length = 128 := by rw [wrAt_length _ _ _ (by omega)]; exact hbs
          have h1 := way_at _ (at_ + wd * m + q) hlen2
          have h2 := way_byte (wrAt bs at_ L) (at_ + wd * m + q) (at_ + wd * m + q) (by omega)
          have HB2 := Lib.hid hb2
          have HL := Lib.hid hL
          have Hl2 := Lib.hid hl2
          clear hlen2 hL hl2
          generalize hX : wayCells (wrAt bs at_ L) (at_ + wd * m + q) = X at hb2 h1 h2
          generalize hP : at_ + wd * m + q = P at h1 h2
          have hPlt : P < 128 := by omega
          have HP := Lib.hid hP
          clear hP hmw hat hc hX
          have hcv := cellv wr
          have hfv := frozv wr
          go_wp2
          go_region
          all_goals go_wp2
          all_goals go_roundw
          case rel =>
            refine ⟨q + 1, by omega, by go_num, ?_, ((hf2.setCell (fun _ => rfl) _ _).setCell (fun _ => rfl) _ _).drew⟩
            have := put_step wr b bs at_ L P n q (by rw [← HP.out]; exact HB2.out) hbs (by rw [← HP.out, Hl2.out]; omega) hPlt
            rw [this, List.range_succ, List.map_append, ← List.append_assoc, HL.out, ← HP.out]
            rfl
          case measure => simp [intOf]; omega
        · obtain rfl : q = wd := by omega
          have HB2 := Lib.hid hb2
          clear hb2
          go_wp2
          all_goals go_roundw
          case rel =>
            exact ⟨m + 1, by omega, by go_num, by rw [HB2.out, Htk.out, Nat.mul_add, Nat.mul_one, ← Nat.add_assoc]; rfl, hf2⟩
          case measure => simp [intOf]; omega
    · obtain rfl : m = ns.length := by omega
      have HB1 := Lib.hid hb1
      clear hb1
      go_wp2
      go_end0
      exact ⟨rfl, by rw [HB1.out, List.take_length, flat_len], hf1⟩
end Go.Proofs.YtkafmfdipmhleaaGreatDoor
