/-
  What is proved: the contract of journal's Record.bytes: the record, laid out as bytes in a new block.
-/
import Derived.Test.YtkafmfdipmhleaaGreatDoorTxt
namespace Go.Proofs.YtkafmfdipmhleaaGreatDoor
open Go.RowKit

/-- A record. -/
structure RecM where
  kind : Nat
  epoch : Nat
  index : Nat
  saga : Nat
  reply : Nat
  steps : List (ByteArray × ByteArray)

def headB (r : RecM) : List UInt8 := leN 1 r.kind ++ leN 4 r.epoch ++ leN 2 r.index ++ leN 2 r.saga ++ leN 1 r.reply
def textB (s : ByteArray) : List UInt8 := leN 1 s.size ++ s.data.toList
def stepsB (l : List (ByteArray × ByteArray)) : List UInt8 := l.flatMap fun s => textB s.1 ++ textB s.2
def zeros : List UInt8 := List.replicate 128 0
def bodyB (r : RecM) : List UInt8 := headB r ++ if r.kind = 2 then leN 1 r.steps.length ++ stepsB r.steps else []
def baseB (r : RecM) : List UInt8 := wrAt zeros 4 (bodyB r)
def endOf (r : RecM) : Nat := if r.kind = 2 then 128 else 32
def sumB (r : RecM) : Nat := (crcM ((baseB r).drop 4 |>.take (endOf r - 4))).toNat
def recB (r : RecM) : List UInt8 := wrAt (baseB r) 0 (leN 4 (sumB r))
/-- A slice of steps, laid out. -/
def stepCells (l : List (ByteArray × ByteArray)) : List Value := l.flatMap fun s => [.string s.1, .string s.2]
/-- A slice whose steps read as l (not empty). -/
def StepsAt (w : World) (v : Value) (l : List (ByteArray × ByteArray)) : Prop :=
  ∃ b off cap c, v = .slice (some ⟨b, off, none⟩) l.length cap ∧ w.heap[b]? = some (.cells c 54 (0, 0)) ∧ ∀ j, j < 2 * l.length → c[off + j]? = (stepCells l)[j]?
def smallSteps (l : List (ByteArray × ByteArray)) : Prop := 1 ≤ l.length ∧ l.length ≤ 6 ∧ ∀ s ∈ l, s.1.size ≤ 8 ∧ s.2.size ≤ 8
theorem textB_length (s : ByteArray) : (textB s).length = 1 + s.size := by simp [textB, leN_length]
theorem stepsB_le (l : List (ByteArray × ByteArray)) (h : ∀ s ∈ l, s.1.size ≤ 8 ∧ s.2.size ≤ 8) : (stepsB l).length ≤ 18 * l.length := by
  induction l with
  | nil => simp [stepsB]
  | cons a l ih =>
    have h1 := h a (by simp)
    have h2 := ih (fun s hs => h s (by simp [hs]))
    simp only [stepsB, List.flatMap_cons, List.length_append, textB_length, List.length_cons] at h2 ⊢
    omega
theorem stepsB_take (l : List (ByteArray × ByteArray)) (m : Nat) (h : m < l.length) : stepsB (l.take (m + 1)) = stepsB (l.take m) ++ textB l[m].1 ++ textB l[m].2 := by
  unfold stepsB
  rw [List.take_succ_eq_append_getElem h, List.flatMap_append]
  simp
theorem stepCells_get (l : List (ByteArray × ByteArray)) (m : Nat) (h : m < l.length) : (stepCells l)[m * 2]? = some (.string l[m].1) ∧ (stepCells l)[m * 2 + 1]? = some (.string l[m].2) := by
  induction l generalizing m with
  | nil => simp at h
  | cons a l ih =>
    cases m with
    | zero => exact ⟨rfl, rfl⟩
    | succ m =>
      have := ih m (by simpa using h)
      rw [show (m + 1) * 2 = m * 2 + 1 + 1 by omega]
      simpa [stepCells] using this

theorem zero201 : Tryz.zeroCells201.setIfInBounds 128 (Value.int IntKind.i64 4) = wayCells zeros 4 := by kernel_rfl
theorem zeros_length : zeros.length = 128 := by simp [zeros]

/-- A record's bytes on their way. -/
structure BInv (b rb : Nat) (rc : Array Value) (w W : World) (pre : List UInt8) : Prop where
  recd : W.heap[rb]? = some (.cells rc 91 (0, 0))
  blk : W.heap[b]? = some (.cells (wayCells (wrAt zeros 4 pre) (4 + pre.length)) 201 (0, 0))
  new : New w W
  ne : rb ≠ b
  ge : w.heap.size ≤ b

theorem BInv.step {b rb : Nat} {rc : Array Value} {w W W' w1 : World} {pre l : List UInt8} (h : BInv b rb rc w W pre) (hn : New W W') (hp : Fr (· = b) W' w1)
    (hb : w1.heap[b]? = some (.cells (wayCells (wrAt (wrAt zeros 4 pre) (4 + pre.length) l) (4 + pre.length + l.length)) 201 (0, 0))) (hlen : 4 + pre.length ≤ 128) :
    BInv b rb rc w w1 (pre ++ l) where
  recd := hp.get (hn.get h.recd (fun f => f)) (fun e => h.ne e)
  blk := by rw [hb, wrAt_wrAt _ _ _ _ (by rw [zeros_length]; exact hlen)]; simp [Nat.add_assoc]
  new := (h.new.trans hn).trans' hp (fun i hi e => absurd (e ▸ h.ge : w.heap.size ≤ i) (by omega))
  ne := h.ne
  ge := h.ge

theorem BInv.alloc {b rb : Nat} {rc : Array Value} {w W : World} {pre : List UInt8} (h : BInv b rb rc w W pre) (o : Obj) : BInv b rb rc w (W.alloc o) pre where
  recd := by rw [hp_alloc, if_neg (ne_size_of_hp h.recd)]; exact h.recd
  blk := by rw [hp_alloc, if_neg (ne_size_of_hp h.blk)]; exact h.blk
  new := h.new.alloc _
  ne := h.ne
  ge := h.ge

theorem put_at1 {b rb : Nat} {rc : Array Value} {w W : World} {pre : List UInt8} (h : BInv b rb rc w W pre) (wd n : Nat) {wi : Int} {q : Nat} (hwi : wi = wd) (hq : q = W.heap.size) (hwd : 1 ≤ wd ∧ wd ≤ 8) (hn : n < 2 ^ 63) (hlen : 4 + pre.length + wd ≤ 128) :
    Calls Tryz.prog 117 #[.pointer (some ⟨b, 0, none⟩), .int .i64 wi, .slice (some ⟨q, 0, none⟩) 1 1] (W.alloc (.cells #[.int .i64 n] 3)) fun e w1 => e = .returned (.tuple #[]) ∧ BInv b rb rc w w1 (pre ++ leN wd n) := by
  subst hwi hq
  have hbl := lt_of_hp h.blk
  refine (put_calls b _ (wrAt zeros 4 pre) (4 + pre.length) wd [n] W.heap.size 0 1 (by simpa using hlen) hwd (by simp) ?_ ?_ ?_ ?_ ?_ ?_).mono ?_
  · intro j hj
    obtain rfl : j = 0 := by simpa using hj
    rw [hp_alloc, if_pos rfl]; rfl
  · intro m hm; obtain rfl : m = n := by simpa using hm
    exact hn
  · exact Ne.symm (Nat.ne_of_lt hbl)
  · simp
  · rw [wrAt_length _ _ _ (by rw [zeros_length]; omega)]; exact zeros_length
  · rw [hp_alloc, if_neg (Nat.ne_of_lt hbl)]; exact h.blk
  · rintro e w1 ⟨he, hb1, hf1⟩
    rw [show [n].flatMap (leN wd) = leN wd n by simp] at hb1
    exact ⟨he, h.step ((Fr.refl _ _).alloc _) hf1 hb1 (by omega)⟩

theorem put_at2 {b rb : Nat} {rc : Array Value} {w W : World} {pre : List UInt8} (h : BInv b rb rc w W pre) (wd n m : Nat) {wi : Int} {q : Nat} (hwi : wi = wd) (hq : q = W.heap.size) (hwd : 1 ≤ wd ∧ wd ≤ 8) (hn : n < 2 ^ 63) (hm : m < 2 ^ 63) (hlen : 4 + pre.length + 2 * wd ≤ 128) :
    Calls Tryz.prog 117 #[.pointer (some ⟨b, 0, none⟩), .int .i64 wi, .slice (some ⟨q, 0, none⟩) 2 2] (W.alloc (.cells #[.int .i64 n, .int .i64 m] 3)) fun e w1 => e = .returned (.tuple #[]) ∧ BInv b rb rc w w1 (pre ++ (leN wd n ++ leN wd m)) := by
  subst hwi hq
  have hbl := lt_of_hp h.blk
  refine (put_calls b _ (wrAt zeros 4 pre) (4 + pre.length) wd [n, m] W.heap.size 0 2 (by simp; omega) hwd (by simp) ?_ ?_ ?_ ?_ ?_ ?_).mono ?_
  · intro j hj
    rw [hp_alloc, if_pos rfl]
    match j, hj with
    | 0, _ => rfl
    | 1, _ => rfl
  · intro k hk
    have : k = n ∨ k = m := by simpa using hk
    rcases this with rfl | rfl <;> assumption
  · exact Ne.symm (Nat.ne_of_lt hbl)
  · simp
  · rw [wrAt_length _ _ _ (by rw [zeros_length]; omega)]; exact zeros_length
  · rw [hp_alloc, if_neg (Nat.ne_of_lt hbl)]; exact h.blk
  · rintro e w1 ⟨he, hb1, hf1⟩
    rw [show [n, m].flatMap (leN wd) = leN wd n ++ leN wd m by simp] at hb1
    exact ⟨he, h.step ((Fr.refl _ _).alloc _) hf1 hb1 (by omega)⟩

theorem text_at {b rb : Nat} {rc : Array Value} {w W : World} {pre : List UInt8} (h : BInv b rb rc w W pre) (s : ByteArray) (hs : s.size ≤ 8) (hlen : 4 + pre.length + 1 + s.size < 128) :
    Calls Tryz.prog 118 #[.pointer (some ⟨b, 0, none⟩), .string s] W fun e w1 => e = .returned (.tuple #[]) ∧ BInv b rb rc w w1 (pre ++ textB s) ∧ Fr (· = b) W w1 := by
  refine (text_calls b W (wrAt zeros 4 pre) (4 + pre.length) s hlen hs ?_ h.blk).mono ?_
  · rw [wrAt_length _ _ _ (by rw [zeros_length]; omega)]; exact zeros_length
  · rintro e w1 ⟨he, hb1, hf1⟩
    exact ⟨he, h.step (Fr.refl _ _) hf1 hb1 (by omega), hf1⟩

/-- What bytes hands back: a slice over a new block, which holds the record. -/
def BytesPost (w : World) (r : RecM) (e : Ending) (w' : World) : Prop :=
  ∃ nb, e = .returned (.slice (some ⟨nb, 0, none⟩) (endOf r) (endOf r)) ∧ w.heap.size ≤ nb ∧ w'.heap[nb]? = some (.cells (wayCells (recB r) 4) 201 (0, 0)) ∧ New w w'

/-- crc over a part of a block on its way. -/
theorem crc_way {w : World} {b : Nat} {bs : List UInt8} {P : Nat} {t : TypeId} (hb : w.heap[b]? = some (.cells (wayCells bs P) t (0, 0))) (hbs : bs.length = 128) (off n cap : Nat) (h : off + n ≤ 128) :
    Calls Tryz.prog 119 #[.slice (some ⟨b, off, none⟩) n cap] w fun e w' => e = .returned (.int .u32 (crcM ((bs.drop off).take n))) ∧ w = w' := by
  have hl : ((bs.drop off).take n).length = n := by simp; omega
  have := crc_calls w ((bs.drop off).take n) b off cap (by omega) (by
    intro j hj
    rw [hb, cellOf_cells, way_byte _ _ _ (by omega)]
    rw [List.getD_eq_getElem?_getD, List.getD_eq_getElem?_getD, List.getElem?_take_of_lt (by omega), List.getElem?_drop])
  rwa [hl] at this

/-- Behind the last put: what the record's block is. -/
theorem BInv.done {b rb : Nat} {rc : Array Value} {w W W' : World} {pre : List UInt8} {sum : Nat} (h : BInv b rb rc w W pre) (hlen : 4 + pre.length ≤ 128)
    (hW : W' = W.setCell ⟨b, 128, none⟩ (.int .i64 0)) (hn : sum < 2 ^ 32) {wi : Int} {q : Nat} (hwi : wi = 4) (hq : q = W'.heap.size) {R : Ending → World → Prop}
    (hR : ∀ e w1, e = .returned (.tuple #[]) → w1.heap[b]? = some (.cells (wayCells (wrAt (wrAt zeros 4 pre) 0 (leN 4 sum)) 4) 201 (0, 0)) → New w w1 → R e w1) :
    Calls Tryz.prog 117 #[.pointer (some ⟨b, 0, none⟩), .int .i64 wi, .slice (some ⟨q, 0, none⟩) 1 1] (W'.alloc (.cells #[.int .i64 sum] 3)) R := by
  subst hwi hq hW
  have hbl := lt_of_hp h.blk
  have hl : (wrAt zeros 4 pre).length = 128 := by rw [wrAt_length _ _ _ (by rw [zeros_length]; omega)]; exact zeros_length
  refine (put_calls b _ (wrAt zeros 4 pre) 0 4 [sum] (W.setCell ⟨b, 128, none⟩ (.int .i64 0)).heap.size 0 1 (by simp) (by omega) (by simp) ?_ ?_ ?_ ?_ hl ?_).mono ?_
  · intro j hj
    obtain rfl : j = 0 := by simpa using hj
    rw [hp_alloc, if_pos rfl]; rfl
  · intro m hm; obtain rfl : m = sum := by simpa using hm
    omega
  · simp; omega
  · simp
  · rw [hp_alloc, if_neg (by simp; omega), hp_setCell, if_pos rfl, h.blk, objSet_cells]
    exact congrArg (fun c => some (Obj.cells c 201 (0, 0))) (way_setAt _ _ 0 hl)
  · rintro e w1 ⟨he, hb1, hf1⟩
    rw [show [sum].flatMap (leN 4) = leN 4 sum by simp, leN_length] at hb1
    refine hR e w1 he hb1 ?_
    exact ((h.new.setCell (fun hi => absurd h.ge (by omega)) _ _).alloc _).trans' hf1 (fun i hi e => absurd (e ▸ h.ge : w.heap.size ≤ i) (by omega))

set_option maxRecDepth 100000 in
set_option maxHeartbeats 1000000 in
theorem bytes_head (w : World) (k ep ix sg rp : Nat) (hk : k < 256) (hep : ep < 2 ^ 32) (hix : ix < 65536) (hsg : sg < 65536) (hrp : rp < 256) (sv : Value) (h2 : (k == 2) = false) :
    Calls Tryz.prog 96 #[.agg #[.int .u8 k, .int .u32 ep, .int .i64 ix, .int .i64 sg, .int .i64 rp, sv]] w (BytesPost w ⟨k, ep, ix, sg, rp, []⟩) := by
  go_enter Tryz.func96, Tryz.ntmps96
  go_wp2_with fail
  rw [zero201]
  generalize hrc : (#[.int .u8 k, .int .u32 ep, .int .i64 ix, .int .i64 sg, .int .i64 rp, sv] : Array Value) = rc
  have r1 : rc[1]? = some (.int .u32 ep) := by rw [← hrc]; rfl
  have r2 : rc[2]? = some (.int .i64 ix) := by rw [← hrc]; rfl
  have r3 : rc[3]? = some (.int .i64 sg) := by rw [← hrc]; rfl
  have r4 : rc[4]? = some (.int .i64 rp) := by rw [← hrc]; rfl
  have r0 : rc[0]? = some (.int .u8 k) := by rw [← hrc]; rfl
  have r5 : rc[5]? = some sv := by rw [← hrc]; rfl
  have I0 : BInv (w.heap.size + 1) w.heap.size rc w ((w.alloc (.cells rc 91)).alloc (.cells (wayCells zeros 4) 201)) [] := {
    recd := by rw [hp_alloc, if_neg (by simp), hp_alloc, if_pos rfl]
    blk := by rw [hp_alloc, if_pos (by simp), wrAt_nil]; rfl
    new := ((Fr.refl _ _).alloc _).alloc _
    ne := by omega
    ge := by omega }
  clear hrc
  with_reducible refine Calls.mono (put_at1 I0 1 k rfl (by simp) (by omega) (by omega) (by simp)) ?_
  rintro e w1 ⟨rfl, I1⟩
  have g1 := I1.recd
  have hcv := cellv w1
  go_wp2_with fail
  with_reducible refine Calls.mono (put_at1 I1 4 ep rfl rfl (by omega) (by omega) (by simp [leN_length])) ?_
  clear g1 hcv I1 I0
  rintro e w2 ⟨rfl, I2⟩
  have g2 := I2.recd
  have hcv := cellv w2
  go_wp2_with fail
  with_reducible refine Calls.mono (put_at2 I2 2 ix sg rfl rfl (by omega) (by omega) (by omega) (by simp [leN_length])) ?_
  clear g2 hcv I2
  rintro e w3 ⟨rfl, I3⟩
  have g3 := I3.recd
  have hcv := cellv w3
  go_wp2_with fail
  with_reducible refine Calls.mono (put_at1 I3 1 rp rfl rfl (by omega) (by omega) (by simp [leN_length])) ?_
  clear g3 hcv I3
  rintro e w4 ⟨rfl, I4⟩
  have g4 := I4.recd
  have hcv := cellv w4
  go_wp2_with fail
  have hl4 : ([] ++ leN 1 k ++ leN 4 ep ++ (leN 2 ix ++ leN 2 sg) ++ leN 1 rp).length = 10 := by simp [leN_length]
  have hbs4 : (wrAt zeros 4 ([] ++ leN 1 k ++ leN 4 ep ++ (leN 2 ix ++ leN 2 sg) ++ leN 1 rp)).length = 128 := by rw [wrAt_length _ _ _ (by rw [zeros_length, hl4]; omega)]; exact zeros_length
  with_reducible refine Calls.mono (crc_way I4.blk hbs4 4 28 124 (by omega)) ?_
  rintro e w5 ⟨rfl, rfl⟩
  have hcr := crcM_u32 (((wrAt zeros 4 ([] ++ leN 1 k ++ leN 4 ep ++ (leN 2 ix ++ leN 2 sg) ++ leN 1 rp)).drop 4).take 28)
  generalize hsum : crcM (((wrAt zeros 4 ([] ++ leN 1 k ++ leN 4 ep ++ (leN 2 ix ++ leN 2 sg) ++ leN 1 rp)).drop 4).take 28) = sm at hcr
  obtain ⟨sm, rfl⟩ := Int.eq_ofNat_of_zero_le hcr.1
  have hsm : sm < 2 ^ 32 := by omega
  have hsm' : (sm : Int) < 4294967296 := by omega
  have g5 := I4.blk
  have g6 : (wayCells (wrAt zeros 4 ([] ++ leN 1 k ++ leN 4 ep ++ (leN 2 ix ++ leN 2 sg) ++ leN 1 rp)) (4 + ([] ++ leN 1 k ++ leN 4 ep ++ (leN 2 ix ++ leN 2 sg) ++ leN 1 rp).length))[128]? = some _ := way_at _ _ hbs4
  generalize hX : wayCells (wrAt zeros 4 ([] ++ leN 1 k ++ leN 4 ep ++ (leN 2 ix ++ leN 2 sg) ++ leN 1 rp)) (4 + ([] ++ leN 1 k ++ leN 4 ep ++ (leN 2 ix ++ leN 2 sg) ++ leN 1 rp).length) = X at g5 g6
  have Hsum := Lib.hid hsum
  have hfv := frozv w4
  have hle : 4 + ([] ++ leN 1 k ++ leN 4 ep ++ (leN 2 ix ++ leN 2 sg) ++ leN 1 rp).length ≤ 128 := by rw [hl4]; omega
  have Hle := Lib.hid hle
  clear hcr hX hsum hl4 hle
  go_wp2_with fail
  refine I4.done Hle.out rfl hsm rfl (by simp) ?_
  rintro e w5 rfl hb5 hn5
  have Hb5 := Lib.hid hb5
  clear hb5 g5 g6 hcv hfv g4
  go_wp2
  go_ret
  have hne : ¬ k = 2 := by rintro rfl; simp at h2
  refine ⟨w.heap.size + 1, by simp [endOf, hne], by omega, ?_, hn5⟩
  rw [Hb5.out]
  have e1 : baseB ⟨k, ep, ix, sg, rp, []⟩ = wrAt zeros 4 ([] ++ leN 1 k ++ leN 4 ep ++ (leN 2 ix ++ leN 2 sg) ++ leN 1 rp) := by
    simp [baseB, bodyB, headB, hne]
  have e2 : sumB ⟨k, ep, ix, sg, rp, []⟩ = sm := by
    unfold sumB
    rw [e1]
    simp only [endOf, if_neg hne]
    rw [Hsum.out]; rfl
  rw [recB, e2, e1]

set_option maxRecDepth 100000 in
set_option maxHeartbeats 2000000 in
theorem bytes_body (w : World) (ep ix sg rp : Nat) (hep : ep < 2 ^ 32) (hix : ix < 65536) (hsg : sg < 65536) (hrp : rp < 256) (sv : Value) (l : List (ByteArray × ByteArray)) (hsv : StepsAt w sv l) (hl : smallSteps l) :
    Calls Tryz.prog 96 #[.agg #[.int .u8 2, .int .u32 ep, .int .i64 ix, .int .i64 sg, .int .i64 rp, sv]] w (BytesPost w ⟨2, ep, ix, sg, rp, l⟩) := by
  obtain ⟨tb, toff, cap, tc, rfl, htb, hst⟩ := hsv
  obtain ⟨hl1, hl2, hl3⟩ := hl
  go_enter Tryz.func96, Tryz.ntmps96
  go_wp2_with fail
  rw [zero201]
  generalize hrc : (#[.int .u8 2, .int .u32 ep, .int .i64 ix, .int .i64 sg, .int .i64 rp, .slice (some ⟨tb, toff, none⟩) l.length cap] : Array Value) = rc
  have r1 : rc[1]? = some (.int .u32 ep) := by rw [← hrc]; rfl
  have r2 : rc[2]? = some (.int .i64 ix) := by rw [← hrc]; rfl
  have r3 : rc[3]? = some (.int .i64 sg) := by rw [← hrc]; rfl
  have r4 : rc[4]? = some (.int .i64 rp) := by rw [← hrc]; rfl
  have r0 : rc[0]? = some (.int .u8 2) := by rw [← hrc]; rfl
  have r5 : rc[5]? = some (.slice (some ⟨tb, toff, none⟩) l.length cap) := by rw [← hrc]; rfl
  have I0 : BInv (w.heap.size + 1) w.heap.size rc w ((w.alloc (.cells rc 91)).alloc (.cells (wayCells zeros 4) 201)) [] := {
    recd := by rw [hp_alloc, if_neg (by simp), hp_alloc, if_pos rfl]
    blk := by rw [hp_alloc, if_pos (by simp), wrAt_nil]; rfl
    new := ((Fr.refl _ _).alloc _).alloc _
    ne := by omega
    ge := by omega }
  clear hrc
  with_reducible refine Calls.mono (put_at1 I0 1 2 rfl (by simp) (by omega) (by omega) (by simp)) ?_
  rintro e w1 ⟨rfl, I1⟩
  have g1 := I1.recd
  have hcv := cellv w1
  go_wp2_with fail
  with_reducible refine Calls.mono (put_at1 I1 4 ep rfl rfl (by omega) (by omega) (by simp [leN_length])) ?_
  clear g1 hcv I1 I0
  rintro e w2 ⟨rfl, I2⟩
  have g2 := I2.recd
  have hcv := cellv w2
  go_wp2_with fail
  with_reducible refine Calls.mono (put_at2 I2 2 ix sg rfl rfl (by omega) (by omega) (by omega) (by simp [leN_length])) ?_
  clear g2 hcv I2
  rintro e w3 ⟨rfl, I3⟩
  have g3 := I3.recd
  have hcv := cellv w3
  go_wp2_with fail
  with_reducible refine Calls.mono (put_at1 I3 1 rp rfl rfl (by omega) (by omega) (by simp [leN_length])) ?_
  clear g3 hcv I3
  rintro e w4 ⟨rfl, I4⟩
  have g4 := I4.recd
  have hcv := cellv w4
  go_wp2_with fail
  with_reducible refine Calls.mono (put_at1 I4 1 l.length rfl rfl (by omega) (by omega) (by simp [leN_length])) ?_
  clear g4 hcv I4
  rintro e w5 ⟨rfl, I5⟩
  have hpl : ([] ++ leN 1 2 ++ leN 4 ep ++ (leN 2 ix ++ leN 2 sg) ++ leN 1 rp ++ leN 1 l.length).length = 11 := by simp [leN_length]
  have hpre : Hid (headB ⟨2, ep, ix, sg, rp, l⟩ ++ leN 1 l.length = [] ++ leN 1 2 ++ leN 4 ep ++ (leN 2 ix ++ leN 2 sg) ++ leN 1 rp ++ leN 1 l.length) := by
    show _ = _
    simp [headB]
  generalize [] ++ leN 1 2 ++ leN 4 ep ++ (leN 2 ix ++ leN 2 sg) ++ leN 1 rp ++ leN 1 l.length = pre at I5 hpl hpre
  have Hpl := Lib.hid hpl
  clear hpl
  have g5 := I5.recd
  have hcv := cellv w5
  go_wp2_with fail
  go_loopw [46] (fun i wr => ∃ m : Nat, m ≤ l.length ∧ i = .int .i64 m ∧ BInv (w.heap.size + 1) w.heap.size rc w wr (pre ++ stepsB (l.take m))) (fun i _ => l.length - (intOf i).toNat)
  case atStart => exact ⟨0, by omega, rfl, by simpa [stepsB] using I5⟩
  case round =>
    clear g5 hcv I5
    obtain ⟨m, hm, rfl, I⟩ := hrel
    by_cases hlt : m < l.length
    · have gt := I.new.get htb (fun f => f)
      have g5 := I.recd
      obtain ⟨hc1, hc2⟩ := stepCells_get l m hlt
      have hs1 := (hst (m * 2) (by omega)).trans hc1
      have hs2 := (hst (m * 2 + 1) (by omega)).trans hc2
      rw [← Nat.add_assoc] at hs2
      have hsz := hl3 _ (List.getElem_mem hlt)
      have htk := stepsB_take l m hlt
      have hle := stepsB_le (l.take m) (fun s hs => hl3 s (List.mem_of_mem_take hs))
      rw [List.length_take, Nat.min_eq_left hm] at hle
      generalize l[m].1 = s1 at hs1 hs2 hsz htk
      generalize l[m].2 = s2 at hs1 hs2 hsz htk
      have Htk := Lib.hid htk
      clear htk hc1 hc2
      have hp11 : pre.length = 11 := Hpl.out
      have hlen : (pre ++ stepsB (l.take m)).length ≤ 11 + 18 * m := by rw [List.length_append]; omega
      generalize hpp : pre ++ stepsB (l.take m) = pp at I hlen
      have Hpp := Lib.hid hpp
      have hbl := lt_of_hp I.blk
      clear hpp hp11
      have hcv := cellv wr
      go_wp2_with fail
      with_reducible refine Calls.mono (text_at (I.alloc _) s1 hsz.1 (by omega)) ?_
      rintro e w6 ⟨rfl, I6, hf6⟩
      have g6 : w6.heap[wr.heap.size]? = some (.cells #[.string s1, .string s2] 54 (0, 0)) := hf6.get (by rw [hp_alloc, if_pos rfl]) (by omega)
      clear hcv g5 gt
      have hcv := cellv w6
      go_wp2_with fail
      with_reducible refine Calls.mono (text_at I6 s2 hsz.2 (by simp [textB_length]; omega)) ?_
      rintro e w7 ⟨rfl, I7, _⟩
      clear hcv g6
      go_wp2
      go_roundw
      case rel => exact ⟨m + 1, by omega, by go_num, by rw [Htk.out, ← List.append_assoc, ← List.append_assoc, Hpp.out]; exact I7⟩
      case measure => simp [intOf]; omega
    · obtain rfl : m = l.length := by omega
      rw [List.take_length] at I
      have hle := stepsB_le l hl3
      have hlen : 4 + (pre ++ stepsB l).length ≤ 128 := by rw [List.length_append, Hpl.out]; omega
      have hpre2 : Hid (bodyB ⟨2, ep, ix, sg, rp, l⟩ = pre ++ stepsB l) := by
        show _ = _
        rw [← hpre.out]
        simp [bodyB]
      generalize pre ++ stepsB l = pp at I hlen hpre2
      have hbs : (wrAt zeros 4 pp).length = 128 := by rw [wrAt_length _ _ _ (by rw [zeros_length]; omega)]; exact zeros_length
      have g5 := I.blk
      have hcr := crcM_u32 (((wrAt zeros 4 pp).drop 4).take 124)
      have g6 : (wayCells (wrAt zeros 4 pp) (4 + pp.length))[128]? = some _ := way_at _ _ hbs
      generalize hX : wayCells (wrAt zeros 4 pp) (4 + pp.length) = X at g5 g6
      have Hlen := Lib.hid hlen
      clear hlen hX
      have hcv := cellv wr
      have hfv := frozv wr
      go_wp2_with fail
      with_reducible refine Calls.mono (crc_way I.blk hbs 4 124 124 (by omega)) ?_
      rintro e w6 ⟨rfl, rfl⟩
      generalize hsum : crcM (((wrAt zeros 4 pp).drop 4).take 124) = sm at hcr
      obtain ⟨sm, rfl⟩ := Int.eq_ofNat_of_zero_le hcr.1
      have hsm : sm < 2 ^ 32 := by omega
      have hsm' : (sm : Int) < 4294967296 := by omega
      have Hsum := Lib.hid hsum
      clear hcr hsum
      go_wp2_with fail
      refine I.done Hlen.out rfl hsm rfl (by simp) ?_
      rintro e w5 rfl hb5 hn5
      have Hb5 := Lib.hid hb5
      clear hb5 g5 g6 hcv hfv
      go_wp2
      go_ret
      refine ⟨w.heap.size + 1, by simp [endOf], by omega, ?_, hn5⟩
      rw [Hb5.out]
      have e1 : baseB ⟨2, ep, ix, sg, rp, l⟩ = wrAt zeros 4 pp := by rw [baseB, hpre2.out]
      have e2 : sumB ⟨2, ep, ix, sg, rp, l⟩ = sm := by
        unfold sumB
        rw [e1]
        simp only [endOf, if_true]
        rw [Hsum.out]; rfl
      rw [recB, e2, e1]
end Go.Proofs.YtkafmfdipmhleaaGreatDoor
