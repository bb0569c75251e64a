/-
  What is proved: how the statement Ends begins and ends. (No program in sight.) how the blocks of the two sagas of Taken read, whole or torn. (No program in sight.) a short record, written and read again; torn; a block's first two sectors. (No program in sight.) what stands behind a journal's end; a journal on blocks; one record more. (No program in sight.) one saga's turn in a Tick, on whatever disk. the contract of a Tick, on whatever disk.
-/
import Derived.Test.YtkafmfdipmhleaaGreatDoorSz3
import Derived.Deep.CutBlock

namespace Go.Proofs.YtkafmfdipmhleaaGreatDoor
open Go.RowKit Go.Maps

theorem StM.fine.mono {s : StM} {m k : Nat} (h : s.fine m) (hk : k ≤ m) : s.fine k := by
  obtain ⟨h1, h2, h3, h4, h5, h6⟩ := h
  exact ⟨by omega, by omega, h3, h4, by omega, h6⟩
def rest200 (r : List Int) : List Int := r ++ List.replicate 200 0
def ends1 (r : List Int) (n : Nat) (pause : Int) (lo : Nat) : StM := (StM.fresh 60 pause ⟨[], [], rest200 r, 0, lo⟩).submit 9 (kSteps 9 n)
theorem ends1_room (r : List Int) (n : Nat) (pause : Int) (lo : Nat) (hn : 1 ≤ n ∧ n ≤ 6) :
    ((StM.fresh 60 pause ⟨[], [], rest200 r, 0, lo⟩).j.en : Int) + (2 + (2 * (kSteps 9 n).length - 1) + leftSum (StM.fresh 60 pause ⟨[], [], rest200 r, 0, lo⟩).sagas) ≤ (StM.fresh 60 pause ⟨[], [], rest200 r, 0, lo⟩).d.blocks.length := by
  have : (StM.fresh 60 pause ⟨[], [], rest200 r, 0, lo⟩).d.blocks.length = 60 := fresh_len 60
  rw [this, kSteps_len]
  simp [StM.fresh, leftSum]
  omega
theorem ends1_inv (r : List Int) (n : Nat) (pause : Int) (lo : Nat) (hr : r.length ≤ 20) (hn : 1 ≤ n ∧ n ≤ 6) (hp : 1 ≤ pause ∧ pause ≤ 8) : (ends1 r n pause lo).inv ∧ (ends1 r n pause lo).fine 100000 := by
  have h0 := fresh_inv 60 pause ⟨[], [], rest200 r, 0, lo⟩ (by omega) (by omega)
  have hf : (StM.fresh 60 pause ⟨[], [], rest200 r, 0, lo⟩).fine 100000 := ⟨by simp [StM.fresh], by simp [StM.fresh], by show (rest200 r).length < 2 ^ 30; rw [rest200, List.length_append, List.length_replicate]; omega, by simp [StM.fresh], by simp [StM.fresh], fun g hg => by simp [StM.fresh] at hg⟩
  exact submit_inv (id := 9) (l := kSteps 9 n) h0 hf (kSteps_whole 9 n (by omega) hn) (fun x hx => by simp [StM.fresh] at hx) (ends1_room r n pause lo hn)
theorem ends1_ei (r : List Int) (n : Nat) (pause : Int) (lo : Nat) (hn : 1 ≤ n ∧ n ≤ 6) (hp : 1 ≤ pause ∧ pause ≤ 8) : EI (rest200 r) n (ends1 r n pause lo) (SagaM.new 9 (kSteps 9 n)) where
  sg := rfl
  st := kSteps_len 9 n
  ag := .inl ⟨rfl, 0, rfl, by omega, .inl rfl⟩
  nv1 := fun _ x hx => by simp [ends1, StM.fresh, StM.submit] at hx
  nv2 := fun h => by simp [SagaM.new] at h
  pl := rfl
  at_ := rfl
  sum := by
    have : (ends1 r n pause lo).p.log = [] := rfl
    rw [this, new_left, kSteps_len]; simp; omega
  due := by show (0 : Int) ≤ 0 + pause; omega
  ok := new_ok (kSteps_whole 9 n (by omega) hn)
  clk := by show (0 : Int) ≤ 0 ∧ (0 : Int) < 2 ^ 40; omega
  tries := by show (0 : Int) < 2 ^ 40; omega
/-- Behind so many ticks. -/
theorem ends1_end (r : List Int) (n : Nat) (pause : Int) (lo t : Nat) (hr : r.length ≤ 20) (hn : 1 ≤ n ∧ n ≤ 6) (hp : 1 ≤ pause ∧ pause ≤ 8) (ht : (t : Int) = (20 + 2 * n + 2) * (pause + 1)) :
    ∃ g, ((ends1 r n pause lo).ticks t).sagas = [g] ∧ g.id = 9 ∧ g.steps.length = n ∧ Agree n g.st g.step (mineOf ((ends1 r n pause lo).ticks t).p.effs 9) ∧
      (g.st = 3 ∧ (((ends1 r n pause lo).ticks t).p.log.any fun x => x.2 == 2) = false ∨ g.st = 4 ∧ (((ends1 r n pause lo).ticks t).p.log.any fun x => x.2 == 2) = true) := by
  have hleft : (SagaM.new 9 (kSteps 9 n)).left ≤ 2 * n := by rw [new_left, kSteps_len]; omega
  have htb : (t : Int) ≤ 34 * 9 := by rw [ht]; exact Int.mul_le_mul (by omega) (by omega) (by omega) (by omega)
  obtain ⟨hi, hf⟩ := ends1_inv r n pause lo hr hn hp
  obtain ⟨g, h1, h2, h3, h4⟩ := ei_ends (r := r) rfl hr (ends1_ei r n pause lo hn hp) hn.2 hi rfl rfl rfl rfl hleft t ht (hf.mono (by omega))
  have hid : g.id = 9 := h3
  refine ⟨g, h1.sg, hid, h1.st, by have := h1.ag; rw [hid] at this; exact this, ?_⟩
  rcases h4 with h4 | h4
  · left
    refine ⟨h4, ?_⟩
    rw [List.any_eq_false]
    intro x hx
    have := h1.nv1 (.inr h4) x hx
    simpa using this
  · right
    refine ⟨h4, ?_⟩
    rw [List.any_eq_true]
    obtain ⟨x, hx, h2⟩ := h1.nv2 (.inr h4)
    exact ⟨x, hx, by simpa using h2⟩
/-- How a partner's log reads. -/
theorem logCells_get (l : List (CallM × Int)) (k : Nat) (h : k < l.length) : (logCells l)[k * 5 + 4]? = some (.int .i64 l[k].2) := by
  induction l generalizing k with
  | nil => simp at h
  | cons a l ih =>
    have ha : (a.1.cells ++ [Value.int .i64 a.2]).length = 5 := rfl
    simp only [logCells, List.flatMap_cons]
    cases k with
    | zero =>
      rw [Nat.zero_mul, Nat.zero_add, List.getElem?_append_left (by omega)]
      rfl
    | succ k =>
      rw [List.getElem?_append_right (by omega), ha, show (k + 1) * 5 + 4 - 5 = k * 5 + 4 by omega]
      have := ih k (by simpa using h)
      simpa [logCells] using this
theorem log_read {w : World} {pb : Nat} {p : PartM} (h : PAt w pb p) : ∃ va vc ev iv, w.heap[pb]? = some (.cells #[.slice va p.log.length vc, ev, iv, .int .i64 p.at_] 44 (0, 0)) ∧
    ∀ k (hk : k < p.log.length), ∃ g, va = some ⟨g, 0, none⟩ ∧ (∃ o, w.heap[g]? = some o) ∧ ∀ w' : World, w'.heap[g]? = w.heap[g]? → cellOf w'.heap[g]? (k * 5 + 4) = some (.int .i64 p.log[k].2) := by
  obtain ⟨⟨lv, ev, iv, B, h1, ho, _, _⟩⟩ := h
  rcases ho with ⟨o1, ⟨rfl, h0⟩ | ⟨g, cap, cur, rfl, hg, hh, _, _, _, htk⟩⟩
  · refine ⟨none, 0, ev, iv, by rw [h1, h0], fun k hk => by omega⟩
  · refine ⟨_, cap, ev, iv, h1, fun k hk => ⟨g, rfl, ⟨_, hh⟩, fun w' hf => ?_⟩⟩
    have := logCells_get p.log k hk
    rw [hf, hh, cellOf_cells]
    rw [← htk, List.getElem?_take_of_lt (by omega)] at this
    simpa using this
end Go.Proofs.YtkafmfdipmhleaaGreatDoor

namespace Go.Proofs.YtkafmfdipmhleaaGreatDoor
open Go.RowKit Go.Maps

def bod (id : Int) (n ix : Nat) : List UInt8 := padB (recBytes (placed (bodyRec id (kSteps id n)) 1 ix))
def tak (id : Int) (ix : Nat) : List UInt8 := padB (recBytes (placed (takenRec id) 1 ix))
theorem parse_bod1_1 : parseM (bod 1 1 1) = some (⟨2, 1, 1, 1, 0, kSteps 1 1⟩, true) := by kernel_rfl
theorem parse_bod1_2 : parseM (bod 1 2 1) = some (⟨2, 1, 1, 1, 0, kSteps 1 2⟩, true) := by kernel_rfl
theorem parse_bod1_3 : parseM (bod 1 3 1) = some (⟨2, 1, 1, 1, 0, kSteps 1 3⟩, true) := by kernel_rfl
theorem parse_bod1_4 : parseM (bod 1 4 1) = some (⟨2, 1, 1, 1, 0, kSteps 1 4⟩, true) := by kernel_rfl
theorem parse_bod1_5 : parseM (bod 1 5 1) = some (⟨2, 1, 1, 1, 0, kSteps 1 5⟩, true) := by kernel_rfl
theorem parse_bod1_6 : parseM (bod 1 6 1) = some (⟨2, 1, 1, 1, 0, kSteps 1 6⟩, true) := by kernel_rfl
theorem parse_bod1 (n : Nat) (hn : 1 ≤ n ∧ n ≤ 6) : parseM (bod 1 n 1) = some (⟨2, 1, 1, 1, 0, kSteps 1 n⟩, true) := by
  have h : n = 1 ∨ n = 2 ∨ n = 3 ∨ n = 4 ∨ n = 5 ∨ n = 6 := by omega
  rcases h with rfl | rfl | rfl | rfl | rfl | rfl
  · exact parse_bod1_1
  · exact parse_bod1_2
  · exact parse_bod1_3
  · exact parse_bod1_4
  · exact parse_bod1_5
  · exact parse_bod1_6
theorem parse_bod2_1 : parseM (bod 2 1 3) = some (⟨2, 1, 3, 2, 0, kSteps 2 1⟩, true) := by kernel_rfl
theorem parse_bod2_2 : parseM (bod 2 2 3) = some (⟨2, 1, 3, 2, 0, kSteps 2 2⟩, true) := by kernel_rfl
theorem parse_bod2_3 : parseM (bod 2 3 3) = some (⟨2, 1, 3, 2, 0, kSteps 2 3⟩, true) := by kernel_rfl
theorem parse_bod2_4 : parseM (bod 2 4 3) = some (⟨2, 1, 3, 2, 0, kSteps 2 4⟩, true) := by kernel_rfl
theorem parse_bod2_5 : parseM (bod 2 5 3) = some (⟨2, 1, 3, 2, 0, kSteps 2 5⟩, true) := by kernel_rfl
theorem parse_bod2_6 : parseM (bod 2 6 3) = some (⟨2, 1, 3, 2, 0, kSteps 2 6⟩, true) := by kernel_rfl
theorem parse_bod2 (n : Nat) (hn : 1 ≤ n ∧ n ≤ 6) : parseM (bod 2 n 3) = some (⟨2, 1, 3, 2, 0, kSteps 2 n⟩, true) := by
  have h : n = 1 ∨ n = 2 ∨ n = 3 ∨ n = 4 ∨ n = 5 ∨ n = 6 := by omega
  rcases h with rfl | rfl | rfl | rfl | rfl | rfl
  · exact parse_bod2_1
  · exact parse_bod2_2
  · exact parse_bod2_3
  · exact parse_bod2_4
  · exact parse_bod2_5
  · exact parse_bod2_6
theorem parse_tak1 : parseM (tak 1 2) = some (⟨3, 1, 2, 1, 0, []⟩, true) := by kernel_rfl
theorem parse_tak2 : parseM (tak 2 4) = some (⟨3, 1, 4, 2, 0, []⟩, true) := by kernel_rfl
def tear4 (old new : List UInt8) (b0 b1 b2 b3 : Bool) : List UInt8 :=
  let o0 := if b0 then secB old new 0 else old
  let o1 := if b1 then secB o0 new 1 else o0
  let o2 := if b2 then secB o1 new 2 else o1
  if b3 then secB o2 new 3 else o2
theorem tear_four (old new : List UInt8) (k : Int) : tearB old new k 4 = tear4 old new (bitK k 0) (bitK k 1) (bitK k 2) (bitK k 3) := rfl
theorem torn_bod_all : ([1, 2, 3, 4, 5, 6].all fun n => [true, false].all fun b0 => [true, false].all fun b1 => [true, false].all fun b2 => [true, false].all fun b3 =>
    match parseM (tear4 zer (bod 2 n 3) b0 b1 b2 b3) with | some (r, _) => decide (r.kind ≠ 4) | none => false) = true := by kernel_rfl
theorem torn_bod (n : Nat) (hn : 1 ≤ n ∧ n ≤ 6) (k : Int) : ∃ r ok, parseM (tearB zer (bod 2 n 3) k 4) = some (r, ok) ∧ r.kind ≠ 4 := by
  have h := torn_bod_all
  simp only [List.all_eq_true] at h
  have hb : ∀ b : Bool, b ∈ [true, false] := by intro b; cases b <;> simp
  have h1 := h n (by simp; omega) _ (hb (bitK k 0)) _ (hb (bitK k 1)) _ (hb (bitK k 2)) _ (hb (bitK k 3))
  rw [tear_four]
  split at h1
  · rename_i r ok hp
    exact ⟨r, ok, hp, by simpa using h1⟩
  · cases h1
theorem torn_tak_all : ([true, false].all fun b0 => [true, false].all fun b1 => [true, false].all fun b2 => [true, false].all fun b3 =>
    decide (tear4 zer (tak 2 4) b0 b1 b2 b3 = if b0 then tak 2 4 else zer)) = true := by kernel_rfl
theorem torn_tak (k : Int) : tearB zer (tak 2 4) k 4 = tak 2 4 ∨ tearB zer (tak 2 4) k 4 = zer := by
  have h := torn_tak_all
  simp only [List.all_eq_true] at h
  have hb : ∀ b : Bool, b ∈ [true, false] := by intro b; cases b <;> simp
  have h1 := h _ (hb (bitK k 0)) _ (hb (bitK k 1)) _ (hb (bitK k 2)) _ (hb (bitK k 3))
  rw [tear_four]
  have h2 := of_decide_eq_true h1
  rw [h2]
  cases bitK k 0 <;> simp
end Go.Proofs.YtkafmfdipmhleaaGreatDoor

namespace Go.Proofs.YtkafmfdipmhleaaGreatDoor
open Go.RowKit Go.Maps

theorem leB_toNat (n k : Nat) : (leB n k).toNat = n / 2 ^ (8 * k) % 256 := by
  unfold leB
  rw [UInt8.toNat_ofNat']
theorem leN1 (n : Nat) : leN 1 n = [leB n 0] := rfl
theorem leN2 (n : Nat) : leN 2 n = [leB n 0, leB n 1] := rfl
theorem leN4 (n : Nat) : leN 4 n = [leB n 0, leB n 1, leB n 2, leB n 3] := rfl
theorem leVal1 (n : Nat) (h : n < 256) : leVal [leB n 0] = n := by
  simp only [leVal, leB_toNat]; omega
theorem leVal2 (n : Nat) (h : n < 65536) : leVal [leB n 0, leB n 1] = n := by
  simp only [leVal, leB_toNat]; omega
theorem leVal4 (n : Nat) (h : n < 4294967296) : leVal [leB n 0, leB n 1, leB n 2, leB n 3] = n := by
  simp only [leVal, leB_toNat]; omega
/-- What a short record's first sector holds behind its sum. -/
def shortB (r : RecM) : List UInt8 := [leB r.kind 0, leB r.epoch 0, leB r.epoch 1, leB r.epoch 2, leB r.epoch 3, leB r.index 0, leB r.index 1, leB r.saga 0, leB r.saga 1, leB r.reply 0] ++ List.replicate 18 0
theorem head_short (r : RecM) : headB r = [leB r.kind 0, leB r.epoch 0, leB r.epoch 1, leB r.epoch 2, leB r.epoch 3, leB r.index 0, leB r.index 1, leB r.saga 0, leB r.saga 1, leB r.reply 0] := rfl
def sumS (r : RecM) : Nat := (crcM (shortB r)).toNat
theorem sumS_lt (r : RecM) : sumS r < 4294967296 := by
  have := crcM_u32 (shortB r)
  unfold sumS; omega
theorem sumS_int (r : RecM) : (sumS r : Int) = crcM (shortB r) := by
  have := crcM_u32 (shortB r)
  unfold sumS; omega
def secS (r : RecM) : List UInt8 := [leB (sumS r) 0, leB (sumS r) 1, leB (sumS r) 2, leB (sumS r) 3] ++ shortB r
theorem secS_len (r : RecM) : (secS r).length = 32 := rfl
theorem base_short (r : RecM) (hk : r.kind ≠ 2) : (baseB r).drop 4 = shortB r ++ List.replicate 96 0 := by
  unfold baseB bodyB
  rw [if_neg hk, head_short]
  rfl
theorem bytes_short (r : RecM) (hk : r.kind ≠ 2) : recBytes r = secS r := by
  have h1 := base_short r hk
  have h2 : sumB r = sumS r := by
    unfold sumB sumS
    rw [h1, show endOf r = 32 from by unfold endOf; rw [if_neg hk]]
    rfl
  unfold recBytes recB wrAt
  rw [h2, show endOf r = 32 from by unfold endOf; rw [if_neg hk], leN4]
  show ((baseB r).take 0 ++ _ ++ (baseB r).drop 4).take 32 = _
  rw [h1]
  rfl
theorem pad_short (r : RecM) (hk : r.kind ≠ 2) : padB (recBytes r) = secS r ++ List.replicate 96 0 := by
  rw [bytes_short r hk]
  unfold padB
  rw [secS_len]
/-- A short record is read whatever stands in the sectors behind its own. -/
theorem parse_short (r : RecM) (C : List UInt8) (h : r.ok) (hk : r.kind ≠ 2) (hk4 : 1 ≤ r.kind ∧ r.kind ≤ 4) : parseM (secS r ++ C) = some (r, true) := by
  obtain ⟨h1, h2, h3, h4, h5, h6, _⟩ := h
  have hkb : kindB (secS r ++ C) = r.kind := by
    show (leB r.kind 0).toNat = r.kind
    rw [leB_toNat]; omega
  have hsum : sumOk (secS r ++ C) := by
    unfold sumOk
    rw [hkb, if_neg hk]
    have e1 : (secS r ++ C).take 4 = [leB (sumS r) 0, leB (sumS r) 1, leB (sumS r) 2, leB (sumS r) 3] := rfl
    have e2 : ((secS r ++ C).drop 4).take (32 - 4) = shortB r := rfl
    rw [e1, e2, leVal4 _ (sumS_lt r), sumS_int]
  have hrec : recOf (secS r ++ C) [] = r := by
    obtain ⟨kind, epoch, index, saga, reply, steps⟩ := r
    have e3 : epochB (secS ⟨kind, epoch, index, saga, reply, steps⟩ ++ C) = epoch := leVal4 epoch h2
    have e4 : indexB (secS ⟨kind, epoch, index, saga, reply, steps⟩ ++ C) = index := leVal2 index h3
    have e5 : sagaB (secS ⟨kind, epoch, index, saga, reply, steps⟩ ++ C) = saga := leVal2 saga h4
    have e6 : replyB (secS ⟨kind, epoch, index, saga, reply, steps⟩ ++ C) = reply := leVal1 reply h5
    simp only [recOf, hkb, e3, e4, e5, e6]
    have h7 := h6 hk
    simp only at h7
    rw [h7]
  unfold parseM
  rw [if_pos hsum, hkb, if_neg hk, hrec]
  simp [hk4.1, hk4.2]
/-- A block of two sectors and noughts. -/
def two (a b : List UInt8) : List UInt8 := a ++ b ++ List.replicate 64 0
def z32 : List UInt8 := List.replicate 32 0
theorem zer_two : zer = two z32 z32 := by kernel_rfl
theorem pad_two (r : RecM) (hk : r.kind ≠ 2) : padB (recBytes r) = two (secS r) z32 := by
  rw [pad_short r hk]; rfl
theorem sec_first (a b a' b' : List UInt8) (h1 : a.length = 32) (h2 : a'.length = 32) : secB (two a b) (two a' b') 0 = two a' b := by
  unfold secB two
  simp only [Nat.zero_mul, List.take_zero, List.nil_append, List.drop_zero, Nat.zero_add, List.append_assoc]
  rw [List.take_append_of_le_length (by omega), List.take_of_length_le (by omega), List.drop_append_of_le_length (by omega), List.drop_of_length_le (by omega), List.nil_append]
theorem sec_second (a b a' b' : List UInt8) (h1 : a.length = 32) (h2 : a'.length = 32) (h3 : b.length = 32) (h4 : b'.length = 32) : secB (two a b) (two a' b') 1 = two a b' := by
  unfold secB two
  simp only [Nat.one_mul, List.append_assoc]
  rw [List.take_append_of_le_length (by omega), List.take_of_length_le (by omega)]
  have e1 : (a' ++ (b' ++ List.replicate 64 0)).drop 32 = b' ++ List.replicate 64 0 := by
    rw [List.drop_append_of_le_length (by omega), List.drop_of_length_le (by omega), List.nil_append]
  have e2 : (a ++ (b ++ List.replicate 64 0)).drop (32 + 32) = List.replicate 64 0 := by
    rw [← List.append_assoc, List.drop_append_of_le_length (by simp; omega), List.drop_of_length_le (by simp; omega), List.nil_append]
  rw [e1, e2, List.take_append_of_le_length (by omega), List.take_of_length_le (by omega)]
theorem sec_rest (a b a' b' : List UInt8) (s : Nat) (h1 : a.length = 32) (h2 : a'.length = 32) (h3 : b.length = 32) (h4 : b'.length = 32) (hs : s = 2 ∨ s = 3) : secB (two a b) (two a' b') s = two a b := by
  have hd : ∀ (x y : List UInt8), x.length = 32 → y.length = 32 → ∀ n, (two x y).drop (64 + n) = List.replicate (64 - n) 0 := by
    intro x y hx hy n
    unfold two
    have hl : (x ++ y).length = 64 := by rw [List.length_append]; omega
    rw [List.drop_append, List.drop_of_length_le (by omega), List.nil_append, List.drop_replicate, hl]
    congr 1
    omega
  have ht : ∀ (x y : List UInt8), x.length = 32 → y.length = 32 → ∀ n, n ≤ 64 → (two x y).take (64 + n) = x ++ y ++ List.replicate n 0 := by
    intro x y hx hy n hn
    unfold two
    have hl : (x ++ y).length = 64 := by rw [List.length_append]; omega
    rw [List.take_append, List.take_of_length_le (by omega), List.take_replicate, hl]
    congr 2
    omega
  rcases hs with rfl | rfl
  · unfold secB
    rw [show 2 * 32 = 64 + 0 by rfl, ht a b h1 h3 0 (by omega), hd a' b' h2 h4 0, show 64 + 0 + 32 = 64 + 32 by rfl, hd a b h1 h3 32]
    unfold two
    simp
  · unfold secB
    rw [show 3 * 32 = 64 + 32 by rfl, ht a b h1 h3 32 (by omega), hd a' b' h2 h4 32, show 64 + 32 + 32 = 64 + 64 by rfl, hd a b h1 h3 64]
    unfold two
    simp
/-- A torn block of two sectors: of each sector the old one or the new one. -/
theorem tear_two (a b a' b' : List UInt8) (k : Int) (h1 : a.length = 32) (h2 : a'.length = 32) (h3 : b.length = 32) (h4 : b'.length = 32) :
    tearB (two a b) (two a' b') k 4 = two (if bitK k 0 then a' else a) (if bitK k 1 then b' else b) := by
  show (if bitK k 3 then secB (tearB (two a b) (two a' b') k 3) (two a' b') 3 else tearB (two a b) (two a' b') k 3) = _
  have e1 : tearB (two a b) (two a' b') k 1 = two (if bitK k 0 then a' else a) b := by
    show (if bitK k 0 then secB (two a b) (two a' b') 0 else two a b) = _
    split
    · rw [sec_first a b a' b' h1 h2]
    · rfl
  have hl : (if bitK k 0 then a' else a).length = 32 := by split <;> assumption
  have e2 : tearB (two a b) (two a' b') k 2 = two (if bitK k 0 then a' else a) (if bitK k 1 then b' else b) := by
    show (if bitK k 1 then secB (tearB (two a b) (two a' b') k 1) (two a' b') 1 else tearB (two a b) (two a' b') k 1) = _
    rw [e1]
    split
    · rw [sec_second _ b a' b' hl h2 h3 h4]
    · rfl
  have hl2 : (if bitK k 1 then b' else b).length = 32 := by split <;> assumption
  have e3 : tearB (two a b) (two a' b') k 3 = two (if bitK k 0 then a' else a) (if bitK k 1 then b' else b) := by
    show (if bitK k 2 then secB (tearB (two a b) (two a' b') k 2) (two a' b') 2 else tearB (two a b) (two a' b') k 2) = _
    rw [e2]
    split
    · exact sec_rest _ _ a' b' 2 hl h2 hl2 h4 (.inl rfl)
    · rfl
  rw [e3]
  split
  · exact sec_rest _ _ a' b' 3 hl h2 hl2 h4 (.inr rfl)
  · rfl
end Go.Proofs.YtkafmfdipmhleaaGreatDoor

namespace Go.Proofs.YtkafmfdipmhleaaGreatDoor
open Go.RowKit Go.Maps

/-- A body's block behind its head. -/
def tailB (id : Int) (n : Nat) : List UInt8 := (leN 1 n ++ stepsB (kSteps id n) ++ zeros).take 114
def bRec (id : Int) (n ix : Nat) : RecM := ⟨2, 1, ix, id.toNat, 0, kSteps id n⟩
theorem bRec_placed (id : Int) (n ix : Nat) : placed (bodyRec id (kSteps id n)) 1 ix = bRec id n ix := rfl
theorem head_len (r : RecM) : (headB r).length = 10 := rfl
theorem bod_eq (id : Int) (n ix : Nat) (hn : n ≤ 6) : ∃ s, s = sumB (bRec id n ix) ∧ bod id n ix = leN 4 s ++ headB (bRec id n ix) ++ tailB id n ∧ (baseB (bRec id n ix)).drop 4 = headB (bRec id n ix) ++ tailB id n := by
  refine ⟨_, rfl, ?_⟩
  have hT : (leN 1 n ++ stepsB (kSteps id n)).length ≤ 109 := by
    have := stepsB_le (kSteps id n) (fun s hs => by
      simp only [kSteps, List.mem_map] at hs
      obtain ⟨i, _, rfl⟩ := hs
      exact ⟨by show 3 ≤ 8; omega, by show 3 ≤ 8; omega⟩)
    rw [kSteps_len] at this
    rw [List.length_append, leN_length]; omega
  have hb : (baseB (bRec id n ix)).drop 4 = headB (bRec id n ix) ++ tailB id n := by
    unfold baseB bodyB tailB
    rw [if_pos (show (bRec id n ix).kind = 2 from rfl)]
    show (wrAt zeros 4 (headB (bRec id n ix) ++ (leN 1 (kSteps id n).length ++ stepsB (kSteps id n)))).drop 4 = _
    rw [kSteps_len]
    generalize leN 1 n ++ stepsB (kSteps id n) = T at hT
    generalize hH : headB (bRec id n ix) = H
    have hH : H.length = 10 := by rw [← hH]; rfl
    unfold wrAt
    have e0 : zeros.take 4 = [0, 0, 0, 0] := rfl
    rw [e0, List.append_assoc, List.append_assoc]
    show (0 :: 0 :: 0 :: 0 :: (H ++ (T ++ zeros.drop (4 + (H ++ T).length)))).drop 4 = _
    show H ++ (T ++ zeros.drop (4 + (H ++ T).length)) = _
    congr 1
    rw [List.length_append, hH]
    unfold zeros
    rw [List.drop_replicate, List.take_append, List.take_of_length_le (by omega), List.take_replicate]
    congr 2
    omega
  have hl : (tailB id n).length = 114 := by unfold tailB; rw [List.length_take, List.length_append, show zeros.length = 128 from zeros_length]; omega
  refine ⟨?_, hb⟩
  unfold bod
  rw [bRec_placed]
  have hr : recB (bRec id n ix) = leN 4 (sumB (bRec id n ix)) ++ headB (bRec id n ix) ++ tailB id n := by
    unfold recB wrAt
    rw [leN_length]
    show [] ++ leN 4 (sumB (bRec id n ix)) ++ (baseB (bRec id n ix)).drop 4 = _
    rw [hb, List.nil_append, List.append_assoc]
  have hrl : (recB (bRec id n ix)).length = 128 := by rw [hr]; simp [leN_length, head_len, hl]
  unfold recBytes padB
  rw [show endOf (bRec id n ix) = 128 from rfl, List.take_of_length_le (by omega), hrl, hr]
  simp
def tA (id : Int) (n : Nat) : List UInt8 := (tailB id n).take 18
def tB (id : Int) (n : Nat) : List UInt8 := ((tailB id n).drop 18).take 32
theorem tail_all : ([1, 2, 3].all fun id => [1, 2, 3, 4, 5, 6].all fun n => decide (tailB id n = tA id n ++ tB id n ++ List.replicate 64 0) && decide ((tB id n).length = 32) && decide ((tA id n).length = 18)) = true := by kernel_rfl
theorem tail_two (id : Int) (n : Nat) (hi : 1 ≤ id ∧ id ≤ 3) (hn : 1 ≤ n ∧ n ≤ 6) : tailB id n = tA id n ++ tB id n ++ List.replicate 64 0 ∧ (tB id n).length = 32 ∧ (tA id n).length = 18 := by
  have h := tail_all
  simp only [List.all_eq_true] at h
  have h1 := h id (by have : id = 1 ∨ id = 2 ∨ id = 3 := by omega
                      rcases this with rfl | rfl | rfl <;> simp) n (by simp; omega)
  simp only [Bool.and_eq_true, decide_eq_true_eq] at h1
  exact ⟨h1.1.1, h1.1.2, h1.2⟩
/-- First sectors that stand behind a journal's end; second ones. -/
def JA (a : List UInt8) : Prop := a.length = 32 ∧ (a = z32 ∨ a[4]? = some 2 ∧ ∃ (id : Int) (n : Nat), (1 ≤ id ∧ id ≤ 3) ∧ (1 ≤ n ∧ n ≤ 6) ∧ a.drop 14 = tA id n)
def JB (b : List UInt8) : Prop := b.length = 32 ∧ (b = z32 ∨ ∃ (id : Int) (n : Nat), (1 ≤ id ∧ id ≤ 3) ∧ (1 ≤ n ∧ n ≤ 6) ∧ b = tB id n)
def Junk (X : List UInt8) : Prop := ∃ a b, X = two a b ∧ JA a ∧ JB b
theorem junk_zer : Junk zer := ⟨z32, z32, zer_two, ⟨rfl, .inl rfl⟩, ⟨rfl, .inl rfl⟩⟩
theorem bod_two (id : Int) (n ix : Nat) (hi : 1 ≤ id ∧ id ≤ 3) (hn : 1 ≤ n ∧ n ≤ 6) : ∃ a, bod id n ix = two a (tB id n) ∧ JA a := by
  obtain ⟨s, _, h, _⟩ := bod_eq id n ix hn.2
  obtain ⟨t1, t2, t3⟩ := tail_two id n hi hn
  refine ⟨leN 4 s ++ headB (bRec id n ix) ++ tA id n, ?_, ?_, .inr ⟨?_, id, n, hi, hn, ?_⟩⟩
  · rw [h, t1]
    unfold two
    simp only [List.append_assoc]
  · simp [leN_length, head_len, t3]
  · rw [leN4, head_short]
    show some (leB 2 0) = some 2
    exact congrArg some (by decide)
  · rw [leN4, head_short]
    rfl
theorem junk_bod (id : Int) (n ix : Nat) (hi : 1 ≤ id ∧ id ≤ 3) (hn : 1 ≤ n ∧ n ≤ 6) : Junk (bod id n ix) := by
  obtain ⟨a, h, ha⟩ := bod_two id n ix hi hn
  exact ⟨a, tB id n, h, ha, (tail_two id n hi hn).2.1, .inr ⟨id, n, hi, hn, rfl⟩⟩
theorem junk_body {X : List UInt8} (h : Junk X) (id : Int) (n ix : Nat) (hi : 1 ≤ id ∧ id ≤ 3) (hn : 1 ≤ n ∧ n ≤ 6) (k : Int) : Junk (tearB X (bod id n ix) k 4) := by
  obtain ⟨a, b, rfl, ha, hb⟩ := h
  obtain ⟨a', h', ha'⟩ := bod_two id n ix hi hn
  have hb' : JB (tB id n) := ⟨(tail_two id n hi hn).2.1, .inr ⟨id, n, hi, hn, rfl⟩⟩
  rw [h', tear_two _ _ _ _ _ ha.1 ha'.1 hb.1 hb'.1]
  refine ⟨_, _, rfl, ?_, ?_⟩
  · split <;> assumption
  · split <;> assumption
theorem junk_short {X : List UInt8} (h : Junk X) (r : RecM) (hr : r.ok) (hk : r.kind = 1 ∨ r.kind = 3 ∨ r.kind = 4) (k : Int) :
    parseM (tearB X (padB (recBytes r)) k 4) = some (r, true) ∨ Junk (tearB X (padB (recBytes r)) k 4) := by
  obtain ⟨a, b, rfl, ha, hb⟩ := h
  rw [pad_two r (by omega), tear_two _ _ _ _ _ ha.1 (secS_len r) hb.1 rfl]
  by_cases h0 : bitK k 0 = true
  · rw [if_pos h0]
    refine .inl ?_
    unfold two
    rw [List.append_assoc]
    exact parse_short r _ hr (by omega) (by omega)
  · rw [if_neg h0]
    refine .inr ⟨_, _, rfl, ha, ?_⟩
    split
    · exact ⟨rfl, .inl rfl⟩
    · exact hb
theorem takes_all : ([1, 2, 3].all fun id => [1, 2, 3, 4, 5, 6].all fun n => (takeSteps ((tA id n ++ z32 ++ List.replicate 64 0)[0]?.getD 0).toNat ((tA id n ++ z32 ++ List.replicate 64 0).drop 1)).isSome &&
    [1, 2, 3].all fun id' => [1, 2, 3, 4, 5, 6].all fun n' => (takeSteps ((tA id n ++ tB id' n' ++ List.replicate 64 0)[0]?.getD 0).toNat ((tA id n ++ tB id' n' ++ List.replicate 64 0).drop 1)).isSome) = true := by kernel_rfl
theorem takes_some (id : Int) (n : Nat) (hi : 1 ≤ id ∧ id ≤ 3) (hn : 1 ≤ n ∧ n ≤ 6) {b : List UInt8} (hb : JB b) : ∃ l, takeSteps ((tA id n ++ b ++ List.replicate 64 0)[0]?.getD 0).toNat ((tA id n ++ b ++ List.replicate 64 0).drop 1) = some l := by
  have hm : ∀ id : Int, 1 ≤ id ∧ id ≤ 3 → id ∈ ([1, 2, 3] : List Int) := by
    intro id hi
    have : id = 1 ∨ id = 2 ∨ id = 3 := by omega
    rcases this with rfl | rfl | rfl <;> simp
  have hm' : ∀ n : Nat, 1 ≤ n ∧ n ≤ 6 → n ∈ [1, 2, 3, 4, 5, 6] := by intro n hn; simp; omega
  have h := takes_all
  simp only [List.all_eq_true, Bool.and_eq_true] at h
  obtain ⟨h1, h2⟩ := h id (hm id hi) n (hm' n hn)
  rcases hb.2 with rfl | ⟨id', n', hi', hn', rfl⟩
  · exact Option.isSome_iff_exists.1 h1
  · exact Option.isSome_iff_exists.1 (h2 id' (hm id' hi') n' (hm' n' hn'))
theorem junk_parse {X : List UInt8} (h : Junk X) : ∃ r ok, parseM X = some (r, ok) ∧ r.kind ≠ 4 := by
  obtain ⟨a, b, rfl, ⟨hal, ha⟩, hb⟩ := h
  rcases ha with rfl | ⟨h4, id, n, hi, hn, hd⟩
  · have hk : kindB (two z32 b) = 0 := rfl
    unfold parseM
    split
    · rw [if_neg (by rw [hk]; decide)]
      exact ⟨_, _, rfl, by show kindB _ ≠ 4; rw [hk]; decide⟩
    · exact ⟨_, _, rfl, by show kindB _ ≠ 4; rw [hk]; decide⟩
  · have hk : kindB (two a b) = 2 := by
      unfold kindB two
      rw [List.append_assoc, List.getElem?_append_left (by omega), h4]; rfl
    have hdr : (two a b).drop 14 = tA id n ++ b ++ List.replicate 64 0 := by
      unfold two
      rw [List.append_assoc, List.drop_append_of_le_length (by omega), hd, List.append_assoc]
    have e14 : (two a b)[14]? = (tA id n ++ b ++ List.replicate 64 0)[0]? := by rw [← hdr, List.getElem?_drop]
    have e15 : (two a b).drop 15 = (tA id n ++ b ++ List.replicate 64 0).drop 1 := by rw [← hdr, List.drop_drop]
    obtain ⟨l, hl⟩ := takes_some id n hi hn hb
    unfold parseM
    split
    · rw [e14, e15, hl]
      exact ⟨_, _, rfl, by show kindB _ ≠ 4; rw [hk]; decide⟩
    · exact ⟨_, _, rfl, by show kindB _ ≠ 4; rw [hk]; decide⟩
theorem takes_bod_all : ([1, 2, 3].all fun id => [1, 2, 3, 4, 5, 6].all fun n => decide (takeSteps ((tailB id n)[0]?.getD 0).toNat ((tailB id n).drop 1) = some (kSteps id n))) = true := by kernel_rfl
/-- A body is read as it was written. -/
theorem parse_bod (id : Int) (n ix : Nat) (hi : 1 ≤ id ∧ id ≤ 3) (hn : 1 ≤ n ∧ n ≤ 6) (hx : ix < 65536) : parseM (bod id n ix) = some (bRec id n ix, true) := by
  have ht : takeSteps ((tailB id n)[0]?.getD 0).toNat ((tailB id n).drop 1) = some (kSteps id n) := by
    have h := takes_bod_all
    simp only [List.all_eq_true] at h
    have h1 := h id (by have : id = 1 ∨ id = 2 ∨ id = 3 := by omega
                        rcases this with rfl | rfl | rfl <;> simp) n (by simp; omega)
    simpa using h1
  obtain ⟨s, hs, h, hb⟩ := bod_eq id n ix hn.2
  have hc := crcM_u32 ((headB (bRec id n ix) ++ tailB id n).take 124)
  have hsv : (s : Int) = crcM ((headB (bRec id n ix) ++ tailB id n).take 124) := by
    rw [hs]; unfold sumB
    rw [hb, show endOf (bRec id n ix) - 4 = 124 from rfl]
    omega
  rw [h, leN4, head_short]
  have hk : kindB ([leB s 0, leB s 1, leB s 2, leB s 3] ++ [leB 2 0, leB 1 0, leB 1 1, leB 1 2, leB 1 3, leB ix 0, leB ix 1, leB id.toNat 0, leB id.toNat 1, leB 0 0] ++ tailB id n) = 2 := rfl
  show parseM ([leB s 0, leB s 1, leB s 2, leB s 3] ++ [leB 2 0, leB 1 0, leB 1 1, leB 1 2, leB 1 3, leB ix 0, leB ix 1, leB id.toNat 0, leB id.toNat 1, leB 0 0] ++ tailB id n) = _
  have hsum : sumOk ([leB s 0, leB s 1, leB s 2, leB s 3] ++ [leB 2 0, leB 1 0, leB 1 1, leB 1 2, leB 1 3, leB ix 0, leB ix 1, leB id.toNat 0, leB id.toNat 1, leB 0 0] ++ tailB id n) := by
    unfold sumOk
    rw [hk, if_pos rfl]
    show (leVal [leB s 0, leB s 1, leB s 2, leB s 3] : Int) = crcM ((headB (bRec id n ix) ++ tailB id n).take 124)
    rw [leVal4 s (by omega), hsv]
  have e4 : indexB ([leB s 0, leB s 1, leB s 2, leB s 3] ++ [leB 2 0, leB 1 0, leB 1 1, leB 1 2, leB 1 3, leB ix 0, leB ix 1, leB id.toNat 0, leB id.toNat 1, leB 0 0] ++ tailB id n) = ix := leVal2 ix hx
  have e5 : sagaB ([leB s 0, leB s 1, leB s 2, leB s 3] ++ [leB 2 0, leB 1 0, leB 1 1, leB 1 2, leB 1 3, leB ix 0, leB ix 1, leB id.toNat 0, leB id.toNat 1, leB 0 0] ++ tailB id n) = id.toNat := leVal2 id.toNat (by omega)
  unfold parseM
  rw [if_pos hsum, if_pos hk]
  show (takeSteps ((tailB id n)[0]?.getD 0).toNat ((tailB id n).drop 1)).map _ = _
  rw [ht]
  simp only [Option.map_some, recOf, hk, e4, e5]
  rfl
end Go.Proofs.YtkafmfdipmhleaaGreatDoor

namespace Go.Proofs.YtkafmfdipmhleaaGreatDoor
open Go.RowKit Go.Maps

theorem Settle_fine {w : World} {jb db bb : Nat} {j : JnM} {d : DiskM} (hj : JnAt w jb db j) (h : DiskAt w db bb d) (hg : Handle w) (h0 : db ≠ 0 ∧ bb ≠ 0 ∧ jb ≠ 0) (hset : j.fresh = false ∨ d.bad = false) :
    Calls Tryz.prog 50 #[.pointer (some ⟨jb, 0, none⟩)] w (SettlePost w jb db bb j d) := by
  refine Calls.mono (Settle_gen hj h hg h0) ?_
  rintro e w' ⟨hf, ⟨_, rfl, h1, h2⟩ | ⟨h1, h2, _⟩⟩
  · exact ⟨rfl, hf, h1, h2⟩
  · rcases hset with h | h
    · rw [h] at h1; cases h1
    · rw [h] at h2; cases h2
theorem StAt.ne0 {w : World} {q : Pl} {bl : List Nat} {s : StM} (h : StAt w q bl s) (hlo : 0 < s.p.lo) : q.db ≠ 0 ∧ q.bb ≠ 0 ∧ q.jb ≠ 0 := by
  have := h.lo
  omega
theorem handle_low {w w' : World} {B : Nat} (h : Handle w) (hf : Low B w w') (h0 : 0 < B) : Handle w' := by
  unfold Handle at h ⊢
  rw [← h]; exact World.cell?_of_block (hf.block 0 h0)
def movRec (g : SagaM) (rp : Int) : RecM := ⟨4, 0, 0, g.id.toNat, rp.toNat, []⟩
/-- A saga is moved, if the disk lets it. -/
def StM.movedG (s : StM) (k : Nat) (g : SagaM) (rp : Int) : StM × Bool :=
  if ((settleD s.j s.d).appendA ⟨s.j.epoch, s.j.en, false⟩ [⟨4, 0, 0, g.id.toNat, rp.toNat, []⟩]).2 then
    ({ s with sagas := s.sagas.set k (g.moved rp), j := ⟨s.j.epoch, s.j.en + 1, false⟩, d := ((settleD s.j s.d).appendA ⟨s.j.epoch, s.j.en, false⟩ [⟨4, 0, 0, g.id.toNat, rp.toNat, []⟩]).1, p := s.p.ask g.call }, true)
  else ({ s with d := ((settleD s.j s.d).appendA ⟨s.j.epoch, s.j.en, false⟩ [⟨4, 0, 0, g.id.toNat, rp.toNat, []⟩]).1, p := s.p.ask g.call }, false)
/-- One saga's turn; was no error told? -/
def StM.stepG (s : StM) (k : Nat) : StM × Bool :=
  match s.sagas[k]? with
  | none => (s, true)
  | some g =>
    if g.waits s.clock = false then (s, true)
    else if s.j.fresh = true ∧ s.d.bad = true then ({ s with d := s.d.count }, false)
    else if g.moves (g.reply s.p) = false then ({ s with sagas := s.sagas.set k (g.paused s.clock s.pause), j := { s.j with fresh := false }, d := settleD s.j s.d, p := s.p.ask g.call }, true)
    else s.movedG k g (g.reply s.p)
theorem movedG_ok {s : StM} {k : Nat} {g : SagaM} {rp : Int} (h : ((settleD s.j s.d).appendA ⟨s.j.epoch, s.j.en, false⟩ [⟨4, 0, 0, g.id.toNat, rp.toNat, []⟩]).2 = true) :
    s.movedG k g rp = ({ s with sagas := s.sagas.set k (g.moved rp), j := ⟨s.j.epoch, s.j.en + 1, false⟩, d := ((settleD s.j s.d).appendA ⟨s.j.epoch, s.j.en, false⟩ [⟨4, 0, 0, g.id.toNat, rp.toNat, []⟩]).1, p := s.p.ask g.call }, true) := by
  unfold StM.movedG; rw [if_pos h]
theorem movedG_bad {s : StM} {k : Nat} {g : SagaM} {rp : Int} (h : ((settleD s.j s.d).appendA ⟨s.j.epoch, s.j.en, false⟩ [⟨4, 0, 0, g.id.toNat, rp.toNat, []⟩]).2 = false) :
    s.movedG k g rp = ({ s with d := ((settleD s.j s.d).appendA ⟨s.j.epoch, s.j.en, false⟩ [⟨4, 0, 0, g.id.toNat, rp.toNat, []⟩]).1, p := s.p.ask g.call }, false) := by
  unfold StM.movedG; rw [if_neg (by rw [h]; decide)]
theorem nset {s : StM} (h : s.j.fresh = false ∨ s.d.bad = false) : ¬ (s.j.fresh = true ∧ s.d.bad = true) := by
  rintro ⟨a, b⟩; rcases h with h | h
  · rw [h] at a; cases a
  · rw [h] at b; cases b
theorem stepG_vain {s : StM} {k : Nat} {g : SagaM} (hg : s.sagas[k]? = some g) (hw : g.waits s.clock = true) (hset : s.j.fresh = false ∨ s.d.bad = false) (hm : g.moves (g.reply s.p) = false) :
    s.stepG k = ({ s with sagas := s.sagas.set k (g.paused s.clock s.pause), j := { s.j with fresh := false }, d := settleD s.j s.d, p := s.p.ask g.call }, true) := by
  simp only [StM.stepG, hg, hw, hm, if_neg (nset hset), Bool.true_eq_false, if_false, if_true]
theorem stepG_moved {s : StM} {k : Nat} {g : SagaM} (hg : s.sagas[k]? = some g) (hw : g.waits s.clock = true) (hset : s.j.fresh = false ∨ s.d.bad = false) (hm : g.moves (g.reply s.p) = true) :
    s.stepG k = s.movedG k g (g.reply s.p) := by
  simp only [StM.stepG, hg, hw, hm, if_neg (nset hset), Bool.true_eq_false, if_false]
theorem stepG_unset {s : StM} {k : Nat} {g : SagaM} (hg : s.sagas[k]? = some g) (hw : g.waits s.clock = true) (h : s.j.fresh = true ∧ s.d.bad = true) : s.stepG k = ({ s with d := s.d.count }, false) := by
  simp only [StM.stepG, hg, hw, if_pos h, Bool.true_eq_false, if_false]
set_option maxRecDepth 100000 in
set_option maxHeartbeats 4000000 in
/-- It is asked in vain. -/
theorem tick_vain_g (q : Pl) (bl : List Nat) (s : StM) (k : Nat) (g : SagaM) (b ib len cap : Nat) (W : World) (hs : StAt W q bl s) (hi : s.inv0) (hgl : Handle W) (hlo : 0 < s.p.lo) (hset : s.j.fresh = false ∨ s.d.bad = false) (hg : s.sagas[k]? = some g) (hb : bl[k]? = some b) (hbo : blkOfId (ilOf s.sagas bl) g.id = some b) (hgi : 1 ≤ g.id ∧ g.id ≤ 1000)
    (hid : W.cell? ⟨ib, k, none⟩ = some (.int .i64 g.id)) (hk : k < len) (hw : g.waits s.clock = true) (hgo : g.ok) (hst : g.st = 1 ∨ g.st = 2) (hsm : s.p.small) (hm : g.moves (g.reply s.p) = false)
    {ds : List Deferred} {x1 x2 x3 x4 x5 x6 x7 x8 x9 x10 x11 x12 x13 x14 x15 x16 x17 x18 x19 x20 x21 x22 x23 x24 x25 x27 x29 x30 x31 x32 x33 x34 x35 x36 x37 x38 x39 x40 x41 x42 x43 x44 x45 x46 x47 x48 x49 x50 x51 x52 x53 x54 x55 x56 x57 x58 x59 x60 x61 x62 x63 x64 x65 x66 x67 x68 x69 x70 x71 x72 x73 x74 x75 x76 x77 x78 x79 x80 x81 x82 x83 x84 x85 x86 : Value} {Q : Exit → Act → World → Prop}
    (hQ : ∀ (y4 y5 y6 y7 y8 y30 y31 y32 y33 y34 y35 y36 y37 y38 y39 y40 y41 y42 y43 y44 y45 y46 y47 y48 y49 y50 y51 y52 y53 y54 y55 y56 y57 y58 y59 y60 y61 y62 y63 y64 y65 y66 y67 y68 y69 y70 y71 y72 y73 y74 y75 y76 y77 y78 y79 y80 y81 y82 y83 y84 y85 : Value) (w' : World), StAt w' q bl (s.stepG k).1 → FrK KT W w' → Low s.p.lo W w' → Q .normal ⟨#[.pointer (some ⟨q.xb, 0, none⟩), x1, x2, x3, y4, y5, y6, y7, y8, x9, x10, x11, x12, x13, x14, x15, x16, x17, x18, x19, x20, x21, x22, x23, x24, x25, .slice (some ⟨ib, 0, none⟩) len cap, x27, .int .i64 k, x29, y30, y31, y32, y33, y34, y35, y36, y37, y38, y39, y40, y41, y42, y43, y44, y45, y46, y47, y48, y49, y50, y51, y52, y53, y54, y55, y56, y57, y58, y59, y60, y61, y62, y63, y64, y65, y66, y67, y68, y69, y70, y71, y72, y73, y74, y75, y76, y77, y78, y79, y80, y81, y82, y83, y84, y85, x86], ds⟩ w') :
    Code.wp Tryz.prog tickB1 Q ⟨#[.pointer (some ⟨q.xb, 0, none⟩), x1, x2, x3, x4, x5, x6, x7, x8, x9, x10, x11, x12, x13, x14, x15, x16, x17, x18, x19, x20, x21, x22, x23, x24, x25, .slice (some ⟨ib, 0, none⟩) len cap, x27, .int .i64 k, x29, x30, x31, x32, x33, x34, x35, x36, x37, x38, x39, x40, x41, x42, x43, x44, x45, x46, x47, x48, x49, x50, x51, x52, x53, x54, x55, x56, x57, x58, x59, x60, x61, x62, x63, x64, x65, x66, x67, x68, x69, x70, x71, x72, x73, x74, x75, x76, x77, x78, x79, x80, x81, x82, x83, x84, x85, x86], ds⟩ W := by
  have hlk := look_some hs.mp g.id (by omega) hbo
  have hx := hs.eng
  have HW := Lib.hid (Waits_calls (hs.sg k g b hg hb) s.clock)
  rw [hw] at HW
  have HS := Lib.hid (Settle_fine hs.jn hs.dk hgl (StAt.ne0 hs hlo) hset)
  have hstep : Hid ((s.stepG k).1 = { s with sagas := s.sagas.set k (g.paused s.clock s.pause), j := { s.j with fresh := false }, d := settleD s.j s.d, p := s.p.ask g.call }) := by
    show _ = _
    rw [stepG_vain hg hw hset hm]
  have hkI : (k : Int) < len := by omega
  have hk0 : (0 : Int) ≤ k := by omega
  have HQ := Lib.hid hQ
  have Hs := Lib.hid hs
  have Hg := Lib.hid hg
  have Hb := Lib.hid hb
  have Hgo := Lib.hid hgo
  have Hst := Lib.hid hst
  have Hsm := Lib.hid hsm
  have Hm := Lib.hid hm
  have Hx := Lib.hid hx
  simp only [egCells] at hx
  clear hs hg hb hbo hgi hk hw hQ hgo hst hsm hm hi hgl hlo hset
  have hcv := cellv W
  conv => arg 2; whnf
  go_upto_region 13 with (first
    | (go_at_call 49; refine Calls.mono HW.out ?_; rintro e w2 ⟨rfl, rfl⟩)
    | (go_at_call 50; refine Calls.mono HS.out ?_; rintro e w2 ⟨rfl, hf2, hd2, hj2⟩)
    | fail)
  have hfk2 : FrK [103, 104, 133] W w2 := hf2.toK (by
    obtain ⟨_, _, _, _, e1, e2, _⟩ := Hs.out.dk
    have e3 := Hs.out.jn
    rintro x o (rfl | rfl | rfl) ho
    · rw [e1] at ho; cases ho; simp [kindOf]
    · rw [e2] at ho; cases ho; simp [kindOf]
    · rw [e3] at ho; cases ho; simp [kindOf])
  have Hfk2 := Lib.hid hfk2
  have HL2 : Hid (Low s.p.lo W w2 ∧ s.p.lo ≤ w2.heap.size) := ⟨hf2.low Hs.out.size (by
    have h0 := Hs.out.lo
    rintro k (rfl | rfl | rfl)
    · exact h0.2.2.2.1
    · exact h0.2.2.2.2.1
    · exact h0.2.1), Nat.le_trans Hs.out.size hf2.size⟩
  have Hg2 := Lib.hid ((Hs.out.sg k g b Hg.out Hb.out).keepK hfk2 (by decide) (by decide))
  have Hx2 := Lib.hid (hfk2.block _ _ Hx.out (by simp [kindOf]))
  have Hp2 := Lib.hid (Hs.out.pt.keepK hfk2 (by decide) (by decide) (by decide) (by decide))
  have Hd2 := Lib.hid hd2
  have Hj2 := Lib.hid hj2
  have hkk : ∃ kk : Nat, g.step = (kk : Int) + 1 ∧ kk < g.steps.length := by
    obtain ⟨_, _, _, _, h | h⟩ := Hgo.out
    · exact ⟨(g.step - 1).toNat, by omega, by omega⟩
    · rcases h.1 with e | e <;> rcases Hst.out with e' | e' <;> omega
  obtain ⟨kk, hk1, hk2⟩ := hkk
  have hl6 : g.steps.length ≤ 100 := by have := Hgo.out.2.2.1.2.1; omega
  have HC := Lib.hid (Call_calls Hg2.out Hst.out kk hk1 hk2 hl6)
  clear hf2 hfk2 hd2 hj2 hx hcv hk1 hk2 hl6 hlk hid
  go_upto_region 14 with (first
    | (go_at_call 52; refine Calls.mono HC.out ?_; rintro e w3 ⟨rfl, hf3⟩)
    | (go_at_call 51; refine Calls.mono (ask_calls g.call s.p (hf3.get Hx2.out (fun f => f)) (Hp2.out.keep hf3.size (fun k o ho _ => hf3.get ho (fun f => f))) Hsm.out) ?_; rintro e w4 ⟨rfl, hp4, hf4, ho4⟩)
    | fail)
  have hO4 : Low s.p.lo W w4 := HL2.out.1.trans ((hf3.low HL2.out.2 (fun _ f => f.elim)).trans ho4)
  have HO4 := Lib.hid hO4
  have hf3s : Hid (w2.heap.size ≤ w3.heap.size) := hf3.size
  have hf4s : Hid (w3.heap.size ≤ w4.heap.size) := hf4.size
  clear hO4 ho4
  have hfk4 : FrK [45, 47, 49] w2 w4 := (hf3.toK (fun _ _ f _ => f.elim)).trans hf4
  have Hfk4 := Lib.hid hfk4
  have Hp4 := Lib.hid hp4
  have Hg4 := Lib.hid (Hg2.out.keepK hfk4 (by decide) (by decide))
  have Hx4 := Lib.hid (hfk4.block _ _ Hx2.out (by simp [kindOf]))
  have Hj4 := Lib.hid (Hj2.out.keepK hfk4 (by decide))
  have Hd4 := Lib.hid (Hd2.out.keepK hfk4 (by decide) (by decide) (by decide))
  have Hrp : Hid (replyM (s.p.knows g.call) g.call.back s.p.k = g.reply s.p) := rfl
  rw [Hrp.out]
  have HM := Lib.hid (Moves_calls Hg4.out (g.reply s.p))
  rw [Hm.out] at HM
  clear hf3 hp4 hf4 hfk4
  go_upto_region 15 with (first
    | (go_at_call 53; refine Calls.mono HM.out ?_; rintro e w5 ⟨rfl, rfl⟩)
    | fail)
  refine tick_r15 q.xb b q.jb q.mb s.pause s.clock (askFn q.pb) g w4 Hx4.out Hg4.out Hgo.out.2.2.2.1 ?_
  intro y64 y65 y66 y67 y68 y69 y70 y71 y72 y73 w6 hf6 hs6
  have hfk6 : FrK [89] w4 w6 := hf6.toK (by
    obtain ⟨_, e1, _⟩ := Hg4.out
    rintro x o rfl ho
    rw [e1] at ho; cases ho; simp [kindOf])
  have hall : FrK KT W w6 := ((Hfk2.out.mono (by decide)).trans (Hfk4.out.mono (by decide))).trans (hfk6.mono (by decide))
  have Hall := Lib.hid hall
  have HO6 := Lib.hid (HO4.out.trans (hf6.low (Nat.le_trans HL2.out.2 (Nat.le_trans hf3s.out hf4s.out)) (by
    rintro k rfl
    exact Hs.out.lo.2.2.2.2.2 _ (List.mem_of_getElem? Hb.out))))
  have Hfk6 := Lib.hid hfk6
  have Hf6 := Lib.hid hf6
  have Hs6 := Lib.hid hs6
  clear hfk6 hall hf6 hs6
  go_wp2_with fail
  refine HQ.out  _ _ _ _ _ _ _ _ _ _ _ _ _ _ _ _ _ _ _ _ _ _ _ _ _ _ _ _ _ _ _ _ _ _ _ _ _ _ _ _ _ _ _ _ _ _ _ _ _ _ _ _ _ _ _ _ _ _ _ _ _ w6 ?_ Hall.out HO6.out
  rw [hstep.out]
  have hlen := (List.getElem?_eq_some_iff.1 Hg.out).1
  have hsg4 := sgs_keepK (sgs_keepK Hs.out.sg Hfk2.out (by decide) (by decide)) Hfk4.out (by decide) (by decide)
  refine ⟨Hfk6.out.block _ _ Hx4.out (by simp [kindOf]), Hj4.out.keepK Hfk6.out (by decide), Hd4.out.keepK Hfk6.out (by decide) (by decide) (by decide), Hp4.out.keepK Hfk6.out (by decide) (by decide) (by decide) (by decide), ?_, ?_, ?_, Hs.out.nd, Hs.out.lo⟩
  · simp only
    rw [il_set s.sagas bl k g (g.paused s.clock s.pause) Hg.out rfl, List.length_set]
    exact map_keepK (map_keepK (map_keepK Hs.out.mp Hfk2.out (by decide)) Hfk4.out (by decide)) Hfk6.out (by decide)
  · simp only
    rw [List.length_set]; exact Hs.out.len
  · exact sgs_set hsg4 Hs.out.nd Hb.out hlen Hf6.out Hs6.out
set_option maxRecDepth 100000 in
set_option maxHeartbeats 4000000 in
/-- It is asked, and moved. -/
theorem tick_moved_g (q : Pl) (bl : List Nat) (s : StM) (k : Nat) (g : SagaM) (b ib len cap : Nat) (W : World) (hs : StAt W q bl s) (hi : s.inv0) (hgl : Handle W) (hlo : 0 < s.p.lo) (hset : s.j.fresh = false ∨ s.d.bad = false) (hg : s.sagas[k]? = some g) (hb : bl[k]? = some b) (hbo : blkOfId (ilOf s.sagas bl) g.id = some b) (hgi : 1 ≤ g.id ∧ g.id ≤ 1000)
    (hid : W.cell? ⟨ib, k, none⟩ = some (.int .i64 g.id)) (hk : k < len) (hw : g.waits s.clock = true) (hgo : g.ok) (hst : g.st = 1 ∨ g.st = 2) (hsm : s.p.small) (hroom : s.j.en + 1 ≤ s.d.blocks.length) (hm : g.moves (g.reply s.p) = true)
    {ds : List Deferred} {x1 x2 x3 x4 x5 x6 x7 x8 x9 x10 x11 x12 x13 x14 x15 x16 x17 x18 x19 x20 x21 x22 x23 x24 x25 x27 x29 x30 x31 x32 x33 x34 x35 x36 x37 x38 x39 x40 x41 x42 x43 x44 x45 x46 x47 x48 x49 x50 x51 x52 x53 x54 x55 x56 x57 x58 x59 x60 x61 x62 x63 x64 x65 x66 x67 x68 x69 x70 x71 x72 x73 x74 x75 x76 x77 x78 x79 x80 x81 x82 x83 x84 x85 x86 : Value} {Q : Exit → Act → World → Prop}
    (hQ : ∀ (y4 y5 y6 y7 y8 y30 y31 y32 y33 y34 y35 y36 y37 y38 y39 y40 y41 y42 y43 y44 y45 y46 y47 y48 y49 y50 y51 y52 y53 y54 y55 y56 y57 y58 y59 y60 y61 y62 y63 y64 y65 y66 y67 y68 y69 y70 y71 y72 y73 y74 y75 y76 y77 y78 y79 y80 y81 y82 y83 y84 y85 : Value) (w' : World), (s.stepG k).2 = true → StAt w' q bl (s.stepG k).1 → FrK KT W w' → Low s.p.lo W w' → Q .normal ⟨#[.pointer (some ⟨q.xb, 0, none⟩), x1, x2, x3, y4, y5, y6, y7, y8, x9, x10, x11, x12, x13, x14, x15, x16, x17, x18, x19, x20, x21, x22, x23, x24, x25, .slice (some ⟨ib, 0, none⟩) len cap, x27, .int .i64 k, x29, y30, y31, y32, y33, y34, y35, y36, y37, y38, y39, y40, y41, y42, y43, y44, y45, y46, y47, y48, y49, y50, y51, y52, y53, y54, y55, y56, y57, y58, y59, y60, y61, y62, y63, y64, y65, y66, y67, y68, y69, y70, y71, y72, y73, y74, y75, y76, y77, y78, y79, y80, y81, y82, y83, y84, y85, x86], ds⟩ w')
    (hQr : ∀ (y2 y4 y5 y6 y7 y8 y30 y31 y32 y33 y34 y35 y36 y37 y38 y39 y40 y41 y42 y43 y44 y45 y46 y47 y48 y49 y50 y51 y52 y53 y54 y55 y56 y57 y58 y59 y60 y61 y62 y63 y64 y65 y66 y67 y68 y69 y70 y71 y72 y73 y74 y75 y76 y77 y78 y79 y80 y81 y82 y83 y84 y85 : Value) (w' : World), (s.stepG k).2 = false → (∃ nb, y2 = .iface 121 (.pointer (some ⟨nb, 0, none⟩))) → FailAt w' q (s.stepG k).1 (s.stepG k).1.d → FrK KT W w' → Low s.p.lo W w' → Q .ret ⟨#[.pointer (some ⟨q.xb, 0, none⟩), x1, y2, x3, y4, y5, y6, y7, y8, x9, x10, x11, x12, x13, x14, x15, x16, x17, x18, x19, x20, x21, x22, x23, x24, x25, .slice (some ⟨ib, 0, none⟩) len cap, x27, .int .i64 k, x29, y30, y31, y32, y33, y34, y35, y36, y37, y38, y39, y40, y41, y42, y43, y44, y45, y46, y47, y48, y49, y50, y51, y52, y53, y54, y55, y56, y57, y58, y59, y60, y61, y62, y63, y64, y65, y66, y67, y68, y69, y70, y71, y72, y73, y74, y75, y76, y77, y78, y79, y80, y81, y82, y83, y84, y85, x86], ds⟩ w') :
    Code.wp Tryz.prog tickB1 Q ⟨#[.pointer (some ⟨q.xb, 0, none⟩), x1, x2, x3, x4, x5, x6, x7, x8, x9, x10, x11, x12, x13, x14, x15, x16, x17, x18, x19, x20, x21, x22, x23, x24, x25, .slice (some ⟨ib, 0, none⟩) len cap, x27, .int .i64 k, x29, x30, x31, x32, x33, x34, x35, x36, x37, x38, x39, x40, x41, x42, x43, x44, x45, x46, x47, x48, x49, x50, x51, x52, x53, x54, x55, x56, x57, x58, x59, x60, x61, x62, x63, x64, x65, x66, x67, x68, x69, x70, x71, x72, x73, x74, x75, x76, x77, x78, x79, x80, x81, x82, x83, x84, x85, x86], ds⟩ W := by
  have hlk := look_some hs.mp g.id (by omega) hbo
  have hx := hs.eng
  have HW := Lib.hid (Waits_calls (hs.sg k g b hg hb) s.clock)
  rw [hw] at HW
  have HS := Lib.hid (Settle_fine hs.jn hs.dk hgl (StAt.ne0 hs hlo) hset)
  have hstep : Hid (s.stepG k = s.movedG k g (g.reply s.p)) := by
    show _ = _
    exact stepG_moved hg hw hset hm
  have hkI : (k : Int) < len := by omega
  have hk0 : (0 : Int) ≤ k := by omega
  have HQ := Lib.hid hQ
  have Hs := Lib.hid hs
  have Hg := Lib.hid hg
  have Hb := Lib.hid hb
  have Hgo := Lib.hid hgo
  have Hst := Lib.hid hst
  have Hsm := Lib.hid hsm
  have Hm := Lib.hid hm
  have Hroom := Lib.hid hroom
  have Hi := Lib.hid hi
  have Hgi := Lib.hid hgi
  have Hx := Lib.hid hx
  simp only [egCells] at hx
  have HQr := Lib.hid hQr
  have Hgl := Lib.hid hgl
  have Hlo := Lib.hid hlo
  clear hs hg hb hbo hgi hk hw hQ hQr hgo hst hsm hm hi hroom hgl hlo hset
  have hcv := cellv W
  conv => arg 2; whnf
  go_upto_region 13 with (first
    | (go_at_call 49; refine Calls.mono HW.out ?_; rintro e w2 ⟨rfl, rfl⟩)
    | (go_at_call 50; refine Calls.mono HS.out ?_; rintro e w2 ⟨rfl, hf2, hd2, hj2⟩)
    | fail)
  have hfk2 : FrK [103, 104, 133] W w2 := hf2.toK (by
    obtain ⟨_, _, _, _, e1, e2, _⟩ := Hs.out.dk
    have e3 := Hs.out.jn
    rintro x o (rfl | rfl | rfl) ho
    · rw [e1] at ho; cases ho; simp [kindOf]
    · rw [e2] at ho; cases ho; simp [kindOf]
    · rw [e3] at ho; cases ho; simp [kindOf])
  have Hfk2 := Lib.hid hfk2
  have HL2 : Hid (Low s.p.lo W w2 ∧ s.p.lo ≤ w2.heap.size) := ⟨hf2.low Hs.out.size (by
    have h0 := Hs.out.lo
    rintro k (rfl | rfl | rfl)
    · exact h0.2.2.2.1
    · exact h0.2.2.2.2.1
    · exact h0.2.1), Nat.le_trans Hs.out.size hf2.size⟩
  have Hg2 := Lib.hid ((Hs.out.sg k g b Hg.out Hb.out).keepK hfk2 (by decide) (by decide))
  have Hx2 := Lib.hid (hfk2.block _ _ Hx.out (by simp [kindOf]))
  have Hp2 := Lib.hid (Hs.out.pt.keepK hfk2 (by decide) (by decide) (by decide) (by decide))
  have Hd2 := Lib.hid hd2
  have Hj2 := Lib.hid hj2
  have hkk : ∃ kk : Nat, g.step = (kk : Int) + 1 ∧ kk < g.steps.length := by
    obtain ⟨_, _, _, _, h | h⟩ := Hgo.out
    · exact ⟨(g.step - 1).toNat, by omega, by omega⟩
    · rcases h.1 with e | e <;> rcases Hst.out with e' | e' <;> omega
  obtain ⟨kk, hk1, hk2⟩ := hkk
  have hl6 : g.steps.length ≤ 100 := by have := Hgo.out.2.2.1.2.1; omega
  have HC := Lib.hid (Call_calls Hg2.out Hst.out kk hk1 hk2 hl6)
  clear hf2 hfk2 hd2 hj2 hx hcv hk1 hk2 hl6 hlk hid
  go_upto_region 14 with (first
    | (go_at_call 52; refine Calls.mono HC.out ?_; rintro e w3 ⟨rfl, hf3⟩)
    | (go_at_call 51; refine Calls.mono (ask_calls g.call s.p (hf3.get Hx2.out (fun f => f)) (Hp2.out.keep hf3.size (fun k o ho _ => hf3.get ho (fun f => f))) Hsm.out) ?_; rintro e w4 ⟨rfl, hp4, hf4, ho4⟩)
    | fail)
  have hO4 : Low s.p.lo W w4 := HL2.out.1.trans ((hf3.low HL2.out.2 (fun _ f => f.elim)).trans ho4)
  have HO4 := Lib.hid hO4
  have hf3s : Hid (w2.heap.size ≤ w3.heap.size) := hf3.size
  have hf4s : Hid (w3.heap.size ≤ w4.heap.size) := hf4.size
  clear hO4 ho4
  have hfk4 : FrK [45, 47, 49] w2 w4 := (hf3.toK (fun _ _ f _ => f.elim)).trans hf4
  have Hfk4 := Lib.hid hfk4
  have Hp4 := Lib.hid hp4
  have Hg4 := Lib.hid (Hg2.out.keepK hfk4 (by decide) (by decide))
  have Hx4 := Lib.hid (hfk4.block _ _ Hx2.out (by simp [kindOf]))
  have Hj4 := Lib.hid (Hj2.out.keepK hfk4 (by decide))
  have Hd4 := Lib.hid (Hd2.out.keepK hfk4 (by decide) (by decide) (by decide))
  have Hrp : Hid (replyM (s.p.knows g.call) g.call.back s.p.k = g.reply s.p) := rfl
  rw [Hrp.out]
  have HM := Lib.hid (Moves_calls Hg4.out (g.reply s.p))
  rw [Hm.out] at HM
  clear hf3 hp4 hf4 hfk4
  have Hrp2 : Hid (g.reply s.p = 0 ∨ g.reply s.p = 2) := by
    have := Hm.out
    simp [SagaM.moves] at this
    exact this.imp id (fun h => h.1)
  generalize g.reply s.p = rp at Hm HM Hrp2 hstep HQ HQr ⊢
  go_upto_region 16 with (first
    | (go_at_call 53; refine Calls.mono HM.out ?_; rintro e w5 ⟨rfl, rfl⟩)
    | fail)
  have hN4 : New w4 (w4.alloc (.cells #[.int .u8 4, .int .u32 0, .int .i64 0, .int .i64 g.id, .int .i64 rp, .slice none 0 0] 91)) := (Fr.refl _ _).alloc _
  have hlb := heap_alloc_new w4 (.cells #[.int .u8 4, .int .u32 0, .int .i64 0, .int .i64 g.id, .int .i64 rp, .slice none 0 0] 91)
  have hrec : RecsAt (w4.alloc (.cells #[.int .u8 4, .int .u32 0, .int .i64 0, .int .i64 g.id, .int .i64 rp, .slice none 0 0] 91)) w4.heap.size [⟨4, 0, 0, g.id.toNat, rp.toNat, []⟩] := by
    have h1 := Hgi.out
    have h2 := Hrp2.out
    refine ⟨?_, _, hlb, ?_⟩
    · intro r hr ep ix hep hix
      simp at hr
      subst hr
      exact ⟨by show 4 < 256; omega, hep, hix, by show g.id.toNat < 65536; omega, by show rp.toNat < 256; omega, fun _ => rfl, fun h => by simp [placed] at h⟩
    · intro k r hr
      cases k with
      | succ k => simp at hr
      | zero =>
        simp at hr
        subst hr
        refine ⟨.slice none 0 0, ⟨none, 0, 0, rfl⟩, fun h => by simp at h, fun i hi => ?_⟩
        have e1 : ((g.id.toNat : Nat) : Int) = g.id := by omega
        have e2 : ((rp.toNat : Nat) : Int) = rp := by omega
        simp only [rcells, Nat.zero_mul, Nat.zero_add, e1, e2]
        rfl
  have hpend : (settleD s.j s.d).pend = none := settle_pend' _ _ Hi.out.pend
  have hlen1 : (settleD s.j s.d).blocks.length = s.d.blocks.length := settle_len' _ _
  have hg4 : Handle (w4.alloc (.cells #[.int .u8 4, .int .u32 0, .int .i64 0, .int .i64 g.id, .int .i64 rp, .slice none 0 0] 91)) := (handle_low Hgl.out HO4.out Hlo.out).new hN4
  have HWr := Lib.hid (write_gen (cap := 1) (hN4.get Hx4.out (fun f => f)) (hN4.get Hj4.out (fun f => f)) (Hd4.out.new hN4) hg4 (StAt.ne0 Hs.out Hlo.out) (fun _ => hpend) hrec rfl Hi.out.epoch (by rw [hlen1]; exact Hroom.out) (by rw [hlen1]; exact Hi.out.size))
  have HN4 := Lib.hid hN4
  clear hN4 hlb hrec hpend hlen1 hg4
  go_upto_region 19 with (first
    | (go_at_call 46; refine Calls.mono HWr.out ?_; rintro e w6 ⟨hf6, ⟨hok6, rfl, hd6, hj6, hx6⟩ | ⟨hok6, ⟨op, nb, hnb, rfl, hnbw⟩, hd6, hx6⟩⟩)
    | fail)
  rotate_left 1
  focus
    have hfk6 : FrK [103, 104, 133, 80] w4 w6 := (HN4.out.toK (fun _ _ f _ => f.elim)).trans (hf6.toK (by
      obtain ⟨_, _, _, _, e1, e2, _⟩ := Hd4.out
      have e3 := Hj4.out
      have e4 := Hx4.out
      have n1 := HN4.out.get e1 (fun f => f)
      have n2 := HN4.out.get e2 (fun f => f)
      have n3 := HN4.out.get e3 (fun f => f)
      have n4 := HN4.out.get e4 (fun f => f)
      rintro x o (rfl | rfl | rfl | rfl) ho
      · rw [n1] at ho; cases ho; simp [kindOf]
      · rw [n2] at ho; cases ho; simp [kindOf]
      · rw [n3] at ho; cases ho; simp [kindOf]
      · rw [n4] at ho; cases ho; simp [kindOf]))
    have HL6 : Hid (Low s.p.lo w4 w6) := by
      have hz : s.p.lo ≤ w4.heap.size := Nat.le_trans HL2.out.2 (Nat.le_trans hf3s.out hf4s.out)
      refine (HN4.out.low hz (fun _ f => f.elim)).trans (hf6.low (Nat.le_trans hz HN4.out.size) ?_)
      have h0 := Hs.out.lo
      rintro k (rfl | rfl | rfl | rfl)
      · exact h0.2.2.2.1
      · exact h0.2.2.2.2.1
      · exact h0.2.1
      · exact h0.1
    have Hfk6 := Lib.hid hfk6
    have hall : FrK KT W w6 := (((Hfk2.out.mono (by decide)).trans (Hfk4.out.mono (by decide))).trans (Hfk6.out.mono (by decide)))
    have Hall := Lib.hid hall
    have hp6 := Hp4.out.keepK hfk6 (by decide) (by decide) (by decide) (by decide)
    have Hp6 := Lib.hid hp6
    have Hd6 := Lib.hid hd6
    have Hx6 := Lib.hid hx6
    have Hok6 := Lib.hid hok6
    clear hf6 hd6 hx6 hfk6 hall hp6 hok6 hnb hnbw
    go_wp2_with fail
    refine HQr.out _ _ _ _ _ _ _ _ _ _ _ _ _ _ _ _ _ _ _ _ _ _ _ _ _ _ _ _ _ _ _ _ _ _ _ _ _ _ _ _ _ _ _ _ _ _ _ _ _ _ _ _ _ _ _ _ _ _ _ _ _ _ w6 ?_ ⟨nb, rfl⟩ ?_ Hall.out (HO4.out.trans HL6.out)
    · rw [hstep.out, movedG_bad Hok6.out]
    · rw [hstep.out, movedG_bad Hok6.out]; exact ⟨Hx6.out, Hd6.out, Hp6.out⟩
  have hfk6 : FrK [103, 104, 133, 80] w4 w6 := (HN4.out.toK (fun _ _ f _ => f.elim)).trans (hf6.toK (by
    obtain ⟨_, _, _, _, e1, e2, _⟩ := Hd4.out
    have e3 := Hj4.out
    have e4 := Hx4.out
    have n1 := HN4.out.get e1 (fun f => f)
    have n2 := HN4.out.get e2 (fun f => f)
    have n3 := HN4.out.get e3 (fun f => f)
    have n4 := HN4.out.get e4 (fun f => f)
    rintro x o (rfl | rfl | rfl | rfl) ho
    · rw [n1] at ho; cases ho; simp [kindOf]
    · rw [n2] at ho; cases ho; simp [kindOf]
    · rw [n3] at ho; cases ho; simp [kindOf]
    · rw [n4] at ho; cases ho; simp [kindOf]))
  have Hfk6 := Lib.hid hfk6
  have Hg6 := Lib.hid (Hg4.out.keepK hfk6 (by decide) (by decide))
  have HL6 : Hid (Low s.p.lo w4 w6) := by
    have hz : s.p.lo ≤ w4.heap.size := Nat.le_trans HL2.out.2 (Nat.le_trans hf3s.out hf4s.out)
    refine (HN4.out.low hz (fun _ f => f.elim)).trans (hf6.low (Nat.le_trans hz HN4.out.size) ?_)
    have h0 := Hs.out.lo
    rintro k (rfl | rfl | rfl | rfl)
    · exact h0.2.2.2.1
    · exact h0.2.2.2.2.1
    · exact h0.2.1
    · exact h0.1
  have Hd6 := Lib.hid hd6
  have Hok6 := Lib.hid hok6
  have Hj6 := Lib.hid hj6
  have Hx6 := Lib.hid hx6
  have hst1 : 1 ≤ g.step ∧ g.step ≤ 100 := by
    obtain ⟨_, _, hsm, _, h | h⟩ := Hgo.out
    · have := hsm.2.1; omega
    · rcases h.1 with e | e <;> rcases Hst.out with e' | e' <;> omega
  have HMv := Lib.hid (Move_calls Hg6.out Hst.out hst1 rp)
  clear hf6 hd6 hj6 hx6 hfk6 hst1 hok6
  go_wp2_with (first
    | (go_at_call 55; refine Calls.mono HMv.out ?_; rintro e w7 ⟨rfl, hf7, hs7⟩)
    | fail)
  have hfk7 : FrK [89] w6 w7 := hf7.toK (by
    obtain ⟨_, e1, _⟩ := Hg6.out
    rintro x o rfl ho
    rw [e1] at ho; cases ho; simp [kindOf])
  have hall : FrK KT W w7 := (((Hfk2.out.mono (by decide)).trans (Hfk4.out.mono (by decide))).trans (Hfk6.out.mono (by decide))).trans (hfk7.mono (by decide))
  refine HQ.out  _ _ _ _ _ _ _ _ _ _ _ _ _ _ _ _ _ _ _ _ _ _ _ _ _ _ _ _ _ _ _ _ _ _ _ _ _ _ _ _ _ _ _ _ _ _ _ _ _ _ _ _ _ _ _ _ _ _ _ _ _ w7 ?_ ?_ hall ((HO4.out.trans HL6.out).trans (hf7.low (Nat.le_trans (Nat.le_trans HL2.out.2 (Nat.le_trans hf3s.out hf4s.out)) Hfk6.out.size) (by
    rintro k rfl
    exact Hs.out.lo.2.2.2.2.2 _ (List.mem_of_getElem? Hb.out))))
  · rw [hstep.out, movedG_ok Hok6.out]
  rw [hstep.out, movedG_ok Hok6.out]
  have hlen := (List.getElem?_eq_some_iff.1 Hg.out).1
  have hsg6 := sgs_keepK (sgs_keepK (sgs_keepK Hs.out.sg Hfk2.out (by decide) (by decide)) Hfk4.out (by decide) (by decide)) Hfk6.out (by decide) (by decide)
  have hidm := moved_id g rp
  refine ⟨hfk7.block _ _ Hx6.out (by simp [kindOf]), Hj6.out.keepK hfk7 (by decide), Hd6.out.keepK hfk7 (by decide) (by decide) (by decide), ?_, ?_, ?_, ?_, Hs.out.nd, Hs.out.lo⟩
  · exact (Hp4.out.keepK Hfk6.out (by decide) (by decide) (by decide) (by decide)).keepK hfk7 (by decide) (by decide) (by decide) (by decide)
  · simp only
    rw [il_set s.sagas bl k g (g.moved rp) Hg.out hidm, List.length_set]
    exact map_keepK (map_keepK (map_keepK (map_keepK Hs.out.mp Hfk2.out (by decide)) Hfk4.out (by decide)) Hfk6.out (by decide)) hfk7 (by decide)
  · simp only
    rw [List.length_set]; exact Hs.out.len
  · exact sgs_set hsg6 Hs.out.nd Hb.out hlen hf7 hs7
set_option maxRecDepth 100000 in
set_option maxHeartbeats 4000000 in
/-- What was read cannot be made sure of. -/
theorem tick_unset (q : Pl) (bl : List Nat) (s : StM) (k : Nat) (g : SagaM) (b ib len cap : Nat) (W : World) (hs : StAt W q bl s) (hi : s.inv0) (hgl : Handle W) (hlo : 0 < s.p.lo) (hset : s.j.fresh = true ∧ s.d.bad = true) (hg : s.sagas[k]? = some g) (hb : bl[k]? = some b) (hbo : blkOfId (ilOf s.sagas bl) g.id = some b) (hgi : 1 ≤ g.id ∧ g.id ≤ 1000)
    (hid : W.cell? ⟨ib, k, none⟩ = some (.int .i64 g.id)) (hk : k < len) (hw : g.waits s.clock = true)
    {ds : List Deferred} {x1 x2 x3 x4 x5 x6 x7 x8 x9 x10 x11 x12 x13 x14 x15 x16 x17 x18 x19 x20 x21 x22 x23 x24 x25 x27 x29 x30 x31 x32 x33 x34 x35 x36 x37 x38 x39 x40 x41 x42 x43 x44 x45 x46 x47 x48 x49 x50 x51 x52 x53 x54 x55 x56 x57 x58 x59 x60 x61 x62 x63 x64 x65 x66 x67 x68 x69 x70 x71 x72 x73 x74 x75 x76 x77 x78 x79 x80 x81 x82 x83 x84 x85 x86 : Value} {Q : Exit → Act → World → Prop}
    (hQr : ∀ (y2 y4 y5 y6 y7 y8 y30 y31 y32 y33 y34 y35 y36 y37 y38 y39 y40 y41 y42 y43 y44 y45 y46 y47 y48 y49 y50 y51 y52 y53 y54 y55 y56 y57 y58 y59 y60 y61 y62 y63 y64 y65 y66 y67 y68 y69 y70 y71 y72 y73 y74 y75 y76 y77 y78 y79 y80 y81 y82 y83 y84 y85 : Value) (w' : World), (∃ nb, y2 = .iface 121 (.pointer (some ⟨nb, 0, none⟩))) → FailAt w' q s s.d.count → FrK KT W w' → Low s.p.lo W w' → Q .ret ⟨#[.pointer (some ⟨q.xb, 0, none⟩), x1, y2, x3, y4, y5, y6, y7, y8, x9, x10, x11, x12, x13, x14, x15, x16, x17, x18, x19, x20, x21, x22, x23, x24, x25, .slice (some ⟨ib, 0, none⟩) len cap, x27, .int .i64 k, x29, y30, y31, y32, y33, y34, y35, y36, y37, y38, y39, y40, y41, y42, y43, y44, y45, y46, y47, y48, y49, y50, y51, y52, y53, y54, y55, y56, y57, y58, y59, y60, y61, y62, y63, y64, y65, y66, y67, y68, y69, y70, y71, y72, y73, y74, y75, y76, y77, y78, y79, y80, y81, y82, y83, y84, y85, x86], ds⟩ w') :
    Code.wp Tryz.prog tickB1 Q ⟨#[.pointer (some ⟨q.xb, 0, none⟩), x1, x2, x3, x4, x5, x6, x7, x8, x9, x10, x11, x12, x13, x14, x15, x16, x17, x18, x19, x20, x21, x22, x23, x24, x25, .slice (some ⟨ib, 0, none⟩) len cap, x27, .int .i64 k, x29, x30, x31, x32, x33, x34, x35, x36, x37, x38, x39, x40, x41, x42, x43, x44, x45, x46, x47, x48, x49, x50, x51, x52, x53, x54, x55, x56, x57, x58, x59, x60, x61, x62, x63, x64, x65, x66, x67, x68, x69, x70, x71, x72, x73, x74, x75, x76, x77, x78, x79, x80, x81, x82, x83, x84, x85, x86], ds⟩ W := by
  have hlk := look_some hs.mp g.id (by omega) hbo
  have hx := hs.eng
  have HW := Lib.hid (Waits_calls (hs.sg k g b hg hb) s.clock)
  rw [hw] at HW
  have HS := Lib.hid (Settle_gen hs.jn hs.dk hgl (StAt.ne0 hs hlo))
  have hkI : (k : Int) < len := by omega
  have hk0 : (0 : Int) ≤ k := by omega
  have HQr := Lib.hid hQr
  have Hs := Lib.hid hs
  have Hset := Lib.hid hset
  have Hx := Lib.hid hx
  simp only [egCells] at hx
  clear hs hg hb hbo hgi hk hw hQr hi hgl hlo hset
  have hcv := cellv W
  conv => arg 2; whnf
  go_upto_region 11 with (first
    | (go_at_call 49; refine Calls.mono HW.out ?_; rintro e w2 ⟨rfl, rfl⟩)
    | (go_at_call 50; refine Calls.mono HS.out ?_; rintro e w2 ⟨hf2, ⟨hcond, rfl, hd2, hj2⟩ | ⟨hfr, hbad, ⟨nb, hnb, rfl, hnbw⟩, hd2, hj2⟩⟩)
    | fail)
  · exfalso
    have h := Hset.out
    rcases hcond with hc | hc
    · rw [hc] at h; exact absurd h.1 (by decide)
    · rw [hc] at h; exact absurd h.2 (by decide)
  have hfk2 : FrK [103, 104, 133] W w2 := hf2.toK (by
    obtain ⟨_, _, _, _, e1, e2, _⟩ := Hs.out.dk
    have e3 := Hs.out.jn
    rintro x o (rfl | rfl | rfl) ho
    · rw [e1] at ho; cases ho; simp [kindOf]
    · rw [e2] at ho; cases ho; simp [kindOf]
    · rw [e3] at ho; cases ho; simp [kindOf])
  have HL2 : Hid (Low s.p.lo W w2 ∧ s.p.lo ≤ w2.heap.size) := ⟨hf2.low Hs.out.size (by
    have h0 := Hs.out.lo
    rintro k (rfl | rfl | rfl)
    · exact h0.2.2.2.1
    · exact h0.2.2.2.2.1
    · exact h0.2.1), Nat.le_trans Hs.out.size hf2.size⟩
  have hx2 := hfk2.block _ _ Hx.out (by simp [kindOf])
  have Hx2 := Lib.hid hx2
  have Hp2 := Lib.hid (Hs.out.pt.keepK hfk2 (by decide) (by decide) (by decide) (by decide))
  have Hfk2 := Lib.hid hfk2
  have Hd2 := Lib.hid hd2
  simp only [egCells] at hx2
  clear hf2 hfk2 hd2 hj2 hx hcv hlk hid hnb hnbw hfr hbad
  have hcv := cellv w2
  have hfv := frozv w2
  go_wp2_with fail
  have hk3 : FrK [80] w2 (w2.setCell ⟨q.xb, 5, none⟩ (.bool true)) := (Fr.one q.xb w2 5 (.bool true)).toK (by
    rintro k o rfl ho
    rw [Hx2.out] at ho; cases ho; simp [kindOf])
  refine HQr.out _ _ _ _ _ _ _ _ _ _ _ _ _ _ _ _ _ _ _ _ _ _ _ _ _ _ _ _ _ _ _ _ _ _ _ _ _ _ _ _ _ _ _ _ _ _ _ _ _ _ _ _ _ _ _ _ _ _ _ _ _ _ _ ⟨nb, rfl⟩ ⟨?_, Hd2.out.keepK hk3 (by decide) (by decide) (by decide), Hp2.out.keepK hk3 (by decide) (by decide) (by decide) (by decide)⟩ ((Hfk2.out.mono (by decide)).trans (hk3.mono (by decide))) (HL2.out.1.trans ((Fr.one q.xb w2 5 (.bool true)).low HL2.out.2 (by
    rintro k rfl
    exact Hs.out.lo.1)))
  rw [hp_setCell, if_pos rfl, Hx2.out]; simp [egCells]
end Go.Proofs.YtkafmfdipmhleaaGreatDoor

namespace Go.Proofs.YtkafmfdipmhleaaGreatDoor
open Go.RowKit Go.Maps

def StM.roomy (s : StM) : Prop := (s.j.en : Int) + leftSum s.sagas ≤ s.d.blocks.length
theorem appendA_len (d : DiskM) (j : JnM) (rs : List RecM) : (d.appendA j rs).1.blocks.length = d.blocks.length := by
  unfold DiskM.appendA
  split
  · rfl
  · rw [appendG_len, settle_len']
theorem appendA_pend (d : DiskM) (j : JnM) (rs : List RecM) (h : j.fresh = false → d.pend = none) (hok : (d.appendA j rs).2 = true) : (d.appendA j rs).1.pend = none := by
  unfold DiskM.appendA at hok ⊢
  split at hok
  · cases hok
  · rename_i h1
    rw [if_neg h1]
    exact appendG_pend _ _ _ _ (settle_pend' _ _ h) hok
theorem moved_tries (g : SagaM) (rp : Int) : (g.moved rp).tries = 0 := by
  by_cases h1 : g.st = 1 <;> by_cases h2 : rp = 0 <;> by_cases h3 : (g.steps.length : Int) < g.step + 1 <;> simp [SagaM.moved, SagaM.forward, SagaM.backward, h1, h2, h3]
theorem waits_st {g : SagaM} {clock : Int} (hok : g.ok) (hw : g.waits clock = true) : g.st = 1 ∨ g.st = 2 := by
  simp [SagaM.waits] at hw
  obtain ⟨_, _, _, _, h | h⟩ := hok
  · exact h.1
  · omega
theorem fine_less {s : StM} {m : Nat} (hf : s.fine (m + 1)) : s.fine m := by
  obtain ⟨h1, h2, h3, h4, h5, h6⟩ := hf
  exact ⟨by omega, by omega, h3, h4, by omega, h6⟩
/-- A turn in which no error is told keeps the engine's state in order. -/
theorem stepG_inv {s : StM} {k m : Nat} (h : s.inv0) (hr : s.roomy) (hf : s.fine (m + 1)) (hok : (s.stepG k).2 = true) :
    (s.stepG k).1.inv0 ∧ (s.stepG k).1.roomy ∧ (s.stepG k).1.fine m ∧ (s.stepG k).1.clock = s.clock ∧ (s.stepG k).1.sagas.length = s.sagas.length := by
  have hf0 := fine_less hf
  cases hg : s.sagas[k]? with
  | none => simp only [StM.stepG, hg]; exact ⟨h, hr, hf0, trivial, trivial⟩
  | some g =>
    by_cases hw : g.waits s.clock = false
    · simp only [StM.stepG, hg, hw, if_true]; exact ⟨h, hr, hf0, trivial, trivial⟩
    · have hw : g.waits s.clock = true := by simpa using hw
      by_cases hset : s.j.fresh = true ∧ s.d.bad = true
      · rw [stepG_unset hg hw hset] at hok; cases hok
      have hset : s.j.fresh = false ∨ s.d.bad = false := by
        cases h1 : s.j.fresh
        · exact .inl rfl
        · cases h2 : s.d.bad
          · exact .inr rfl
          · exact absurd ⟨h1, h2⟩ hset
      have hmem : g ∈ s.sagas := List.mem_of_getElem? hg
      have hgo := h.ok g hmem
      have hst := waits_st hgo hw
      obtain ⟨f1, f2, f3, f4, f5, f6⟩ := hf
      obtain ⟨a1, a2, a3, a4, a5, a6⟩ := ask_fine (c := g.call) f1 f2 f4 f5
      have hlen : (settleD s.j s.d).blocks.length = s.d.blocks.length := settle_len' _ _
      have hpend : (settleD s.j s.d).pend = none := settle_pend' _ _ h.pend
      by_cases hm : g.moves (g.reply s.p) = false
      · have ht := f6 g hmem
        have htr : (g.paused s.clock s.pause).tries = g.tries + 1 := by
          show wrap64 (g.tries + 1) = _
          have := hgo.2.2.2.1
          exact wrap_in _ (by omega)
        have hpok : (g.paused s.clock s.pause).ok := by
          obtain ⟨b1, b2, b3, b4, b5⟩ := hgo
          exact ⟨b1, b2, b3, by rw [htr]; omega, b5⟩
        rw [stepG_vain hg hw hset hm]
        refine ⟨⟨fun _ => hpend, h.epoch, ?_, ord_set h.ord hg rfl, by simp only; rw [hlen]; exact h.size⟩, ?_, ⟨a1, a2, by simp only; rw [a3]; exact f3, a4, a5, ?_⟩, rfl, by simp⟩
        · intro x hx
          rcases mem_set_cases hx with rfl | hx
          · exact hpok
          · exact h.ok x hx
        · simp only [StM.roomy]
          rw [leftSum_set _ _ g _ hg, hlen]
          have e2 : (g.paused s.clock s.pause).left = g.left := rfl
          rw [e2]
          have : (s.j.en : Int) + leftSum s.sagas ≤ s.d.blocks.length := hr
          omega
        · intro x hx
          simp only
          rw [a6]
          rcases mem_set_cases hx with rfl | hx
          · rw [htr]; omega
          · have := f6 x hx; omega
      · have hm : g.moves (g.reply s.p) = true := by simpa using hm
        rw [stepG_moved hg hw hset hm] at hok ⊢
        by_cases hA : ((settleD s.j s.d).appendA ⟨s.j.epoch, s.j.en, false⟩ [⟨4, 0, 0, g.id.toNat, (g.reply s.p).toNat, []⟩]).2 = true
        · obtain ⟨hmo, hml⟩ := hgo.moved hst (g.reply s.p)
          have hpa := appendA_pend _ _ _ (fun _ => hpend) hA
          rw [movedG_ok hA]
          refine ⟨⟨fun _ => hpa, h.epoch, ?_, ord_set h.ord hg (moved_id g _), by simp only; rw [appendA_len, hlen]; exact h.size⟩, ?_, ⟨a1, a2, by simp only; rw [a3]; exact f3, a4, a5, ?_⟩, rfl, by simp⟩
          · intro x hx
            rcases mem_set_cases hx with rfl | hx
            · exact hmo
            · exact h.ok x hx
          · simp only [StM.roomy]
            rw [leftSum_set _ _ g _ hg, appendA_len, hlen]
            have : (s.j.en : Int) + leftSum s.sagas ≤ s.d.blocks.length := hr
            omega
          · intro x hx
            simp only
            rw [a6]
            rcases mem_set_cases hx with rfl | hx
            · rw [moved_tries]; omega
            · have := f6 x hx; omega
        · rw [movedG_bad (by simpa using hA)] at hok; cases hok
theorem stepG_ids (s : StM) (k : Nat) : (s.stepG k).1.sagas.map (·.id) = s.sagas.map (·.id) := by
  have key : ∀ (g g' : SagaM), s.sagas[k]? = some g → g'.id = g.id → (s.sagas.set k g').map (·.id) = s.sagas.map (·.id) := by
    intro g g' hg hid
    apply List.ext_getElem?
    intro i
    by_cases e : i = k
    · subst e
      have hl := (List.getElem?_eq_some_iff.1 hg).1
      rw [List.getElem?_map, List.getElem?_map, List.getElem?_set_self hl, hg]
      simp [hid]
    · rw [List.getElem?_map, List.getElem?_map, List.getElem?_set_ne (fun h => e h.symm)]
  unfold StM.stepG StM.movedG
  cases hg : s.sagas[k]? with
  | none => rfl
  | some g =>
    simp only
    split
    · rfl
    · split
      · rfl
      · split
        · exact key g _ hg rfl
        · split
          · exact key g _ hg (moved_id g _)
          · rfl
theorem stepG_lo (s : StM) (k : Nat) : (s.stepG k).1.p.lo = s.p.lo := by
  unfold StM.stepG StM.movedG
  cases s.sagas[k]? with
  | none => rfl
  | some g =>
    simp only
    split
    · rfl
    · split
      · rfl
      · split
        · rfl
        · split <;> rfl
/-- Turns, one behind the other, till an error is told. -/
def StM.runG (s : StM) (l : List Nat) : StM × Bool := l.foldl (fun a k => if a.2 then a.1.stepG k else a) (s, true)
theorem runG_false (l : List Nat) (a : StM × Bool) (h : a.2 = false) : l.foldl (fun a k => if a.2 then a.1.stepG k else a) a = a := by
  induction l with
  | nil => rfl
  | cons x l ih => rw [List.foldl_cons, if_neg (by rw [h]; decide), ih]
theorem runG_succ (s : StM) (k : Nat) (h : (s.runG (List.range k)).2 = true) : s.runG (List.range (k + 1)) = (s.runG (List.range k)).1.stepG k := by
  show (List.range (k + 1)).foldl _ _ = _
  rw [List.range_succ, List.foldl_append]
  show (if (s.runG (List.range k)).2 then (s.runG (List.range k)).1.stepG k else s.runG (List.range k)) = _
  rw [if_pos h]
theorem runG_stop (s : StM) (k n : Nat) (hn : k ≤ n) (h : (s.runG (List.range k)).2 = false) : s.runG (List.range n) = s.runG (List.range k) := by
  induction n with
  | zero => rw [show k = 0 by omega]
  | succ n ih =>
    by_cases e : k = n + 1
    · rw [e]
    · have := ih (by omega)
      show (List.range (n + 1)).foldl _ _ = _
      rw [List.range_succ, List.foldl_append]
      show (if (s.runG (List.range n)).2 then (s.runG (List.range n)).1.stepG n else s.runG (List.range n)) = _
      rw [this, if_neg (by rw [h]; decide)]
theorem runG_inv {s : StM} {m : Nat} (h : s.inv0) (hr : s.roomy) (k : Nat) (hf : s.fine (m + k)) (hok : (s.runG (List.range k)).2 = true) :
    (s.runG (List.range k)).1.inv0 ∧ (s.runG (List.range k)).1.roomy ∧ (s.runG (List.range k)).1.fine m ∧ (s.runG (List.range k)).1.clock = s.clock ∧ (s.runG (List.range k)).1.sagas.length = s.sagas.length ∧ (s.runG (List.range k)).1.sagas.map (·.id) = s.sagas.map (·.id) ∧ (s.runG (List.range k)).1.p.lo = s.p.lo := by
  induction k generalizing m with
  | zero => exact ⟨h, hr, hf, rfl, rfl, rfl, rfl⟩
  | succ k ih =>
    have h0 : (s.runG (List.range k)).2 = true := by
      cases e : (s.runG (List.range k)).2
      · rw [runG_stop s k (k + 1) (by omega) e, e] at hok; cases hok
      · rfl
    obtain ⟨i1, i2, i3, i4, i5, i6, i7⟩ := ih (m := m + 1) (by rw [show m + 1 + k = m + (k + 1) by omega]; exact hf) h0
    rw [runG_succ s k h0] at hok ⊢
    obtain ⟨j1, j2, j3, j4, j5⟩ := stepG_inv i1 i2 i3 hok
    exact ⟨j1, j2, j3, j4.trans i4, j5.trans i5, (stepG_ids _ _).trans i6, (stepG_lo _ _).trans i7⟩
/-- What a Tick makes of an engine; was no error told? -/
def StM.tickG (s : StM) : StM × Bool := StM.runG { s with clock := s.clock + 1 } (List.range s.sagas.length)
def TickG (w : World) (q : Pl) (bl : List Nat) (s : StM) (e : Ending) (w' : World) : Prop :=
  FrK KT w w' ∧ Low s.p.lo w w' ∧
    (s.tickG.2 = true ∧ e = .returned .nilIface ∧ StAt w' q bl s.tickG.1 ∨
     s.tickG.2 = false ∧ (∃ nb, e = .returned (.iface 121 (.pointer (some ⟨nb, 0, none⟩)))) ∧ FailAt w' q s.tickG.1 s.tickG.1.d)
theorem TickG.bad {w : World} {q : Pl} {bl : List Nat} {s : StM} {k nb : Nat} {w' : World} (hk : k < s.sagas.length) (h0 : (StM.runG { s with clock := s.clock + 1 } (List.range k)).2 = true) (h : ((StM.runG { s with clock := s.clock + 1 } (List.range k)).1.stepG k).2 = false)
    (hf : FailAt w' q ((StM.runG { s with clock := s.clock + 1 } (List.range k)).1.stepG k).1 ((StM.runG { s with clock := s.clock + 1 } (List.range k)).1.stepG k).1.d) (h1 : FrK KT w w') (h2 : Low s.p.lo w w') :
    TickG w q bl s (.returned (.iface 121 (.pointer (some ⟨nb, 0, none⟩)))) w' := by
  have e : s.tickG = (StM.runG { s with clock := s.clock + 1 } (List.range k)).1.stepG k := by
    have e1 := runG_succ { s with clock := s.clock + 1 } k h0
    have e2 := runG_stop { s with clock := s.clock + 1 } (k + 1) s.sagas.length (by omega) (by rw [e1]; exact h)
    exact e2.trans e1
  refine ⟨h1, h2, .inr ⟨by rw [e]; exact h, ⟨nb, rfl⟩, by rw [e]; exact hf⟩⟩
set_option maxRecDepth 100000 in
set_option maxHeartbeats 4000000 in
theorem Tick_gen {w : World} {q : Pl} {bl : List Nat} {s : StM} {m : Nat} (hs : StAt w q bl s) (hi : s.inv0) (hrm : s.roomy) (hf : s.fine (m + s.sagas.length)) (hck : -9223372036854775808 ≤ s.clock + 1 ∧ s.clock + 1 ≤ 9223372036854775807) (hgl : Handle w) (hlo : 0 < s.p.lo) :
    Calls Tryz.prog 20 #[.pointer (some ⟨q.xb, 0, none⟩)] w (TickG w q bl s) := by
  have hx := hs.eng
  have Hs := Lib.hid hs
  have Hi := Lib.hid hi
  have Hf := Lib.hid hf
  have Hrm := Lib.hid hrm
  have Hgl := Lib.hid hgl
  have Hlo := Lib.hid hlo
  have Hck := Lib.hid hck
  have hwr : wrap64 (s.clock + 1) = s.clock + 1 := wrap_in _ (by omega)
  have Hx := Lib.hid hx
  simp only [egCells] at hx
  clear hs hi hf hck hrm hgl hlo
  have hcv := cellv w
  have hfv := frozv w
  go_enter Tryz.func20, Tryz.ntmps20
  go_upto_region 4 with fail
  have hF0 : FrK KT w (w.setCell ⟨q.xb, 4, none⟩ (.int .i64 (s.clock + 1))) := (Fr.one q.xb w 4 (.int .i64 (s.clock + 1))).toK (by
    rintro k o rfl ho
    rw [Hx.out] at ho; cases ho; simp [kindOf])
  have hs1 : StAt (w.setCell ⟨q.xb, 4, none⟩ (.int .i64 (s.clock + 1))) q bl { s with clock := s.clock + 1 } := by
    have hk : FrK [80] w (w.setCell ⟨q.xb, 4, none⟩ (.int .i64 (s.clock + 1))) := (Fr.one q.xb w 4 (.int .i64 (s.clock + 1))).toK (by
      rintro k o rfl ho
      rw [Hx.out] at ho; cases ho; simp [kindOf])
    have h0 := Hs.out
    refine ⟨?_, h0.jn.keepK hk (by decide), h0.dk.keepK hk (by decide) (by decide) (by decide), h0.pt.keepK hk (by decide) (by decide) (by decide) (by decide), map_keepK h0.mp hk (by decide), h0.len, sgs_keepK h0.sg hk (by decide) (by decide), h0.nd, h0.lo⟩
    rw [hp_setCell, if_pos rfl, Hx.out]; simp [egCells]
  have HO0 : Hid (Low s.p.lo w (w.setCell ⟨q.xb, 4, none⟩ (.int .i64 (s.clock + 1)))) := (Fr.one q.xb w 4 (.int .i64 (s.clock + 1))).low Hs.out.size (by
    rintro k rfl
    exact Hs.out.lo.1)
  have HF0 := Lib.hid hF0
  have Hs1 := Lib.hid hs1
  clear hcv hfv hF0 hs1
  generalize w.setCell ⟨q.xb, 4, none⟩ (.int .i64 (s.clock + 1)) = w1 at HF0 HO0 Hs1 ⊢
  have hx := Hs1.out.eng
  simp only [egCells] at hx
  have hcv := cellv w1
  have hlen30 : s.sagas.length ≤ 1000 := inv0_len Hi.out
  have hz : Maps.size (dataOf (ilOf s.sagas bl)) = s.sagas.length := by
    rw [size_dataOf, ilOf, List.length_zip, List.length_map, Hs.out.len]; omega
  have HS := Lib.hid (Sorted_calls q.mb s.sagas.length (dataOf (ilOf s.sagas bl)) ptrR w1 Hs1.out.mp (by rw [hz]; unfold maxLen; omega) (by rw [hz]; omega))
  clear hlen30 hz
  go_upto_region 5 with (first
    | (go_at_call 48; refine Calls.mono (Keys_calls (some q.mb) w1) ?_; rintro e w2 ⟨rfl, rfl⟩)
    | (go_at_call 47; refine Calls.mono HS.out ?_; rintro e w3 ⟨v, ss, rfl, hperm, hown, hnil, hbel⟩; obtain ⟨va, vc, rfl, hva⟩ := ids_shape hown)
    | fail)
  have hk3 : FrK [] w1 w3 := ((Fr.refl (fun _ => False) w1).alloc (.cells #[.map (some q.mb)] 76)).toK (fun _ _ f _ => f.elim) |>.trans (below_toK hbel (Nat.le_refl _) [])
  have hs3 := Hs1.out.keepK hk3 (by simp)
  have hids := keys_sorted Hs.out.len (Hi.out).ord hperm
  rw [hids] at hown
  have hlen : ss.length = s.sagas.length := by
    have := congrArg List.length hids
    simpa using this
  rw [hlen] at hown
  have HF3 := Lib.hid (HF0.out.trans (hk3.mono (by simp)))
  have HO3 := Lib.hid (HO0.out.trans ((((Fr.refl (fun _ => False) w1).alloc (.cells #[.map (some q.mb)] 76)).low Hs1.out.size (fun _ f => f.elim)).trans
    (show Low s.p.lo _ w3 from ⟨hbel.os, hbel.tape, hbel.output, hbel.size, fun k hk => hbel.block k (by have := Hs1.out.size; have hz : s.p.lo ≤ w1.heap.size := Hs1.out.size; simp; omega)⟩)))
  have Hs3 := Lib.hid hs3
  rw [hlen] at hva
  have Hva := Lib.hid hva
  have Hlen := Lib.hid hlen
  clear hcv hx hnil hbel hk3 hs3 hids hperm hva
  have Hown := Lib.hid hown
  clear hown
  rw [hlen]
  clear hlen
  go_wp2_with fail
  go_loopw [28] (fun i wr => ∃ k : Nat, k ≤ s.sagas.length ∧ i = .int .i64 (k : Nat) ∧ (StM.runG { s with clock := s.clock + 1 } (List.range k)).2 = true ∧ StAt wr q bl ((StM.runG { s with clock := s.clock + 1 } (List.range k)).1) ∧ FrK KT w3 wr ∧ Low s.p.lo w3 wr) (fun i _ => s.sagas.length - (intOf i).toNat)
  case atStart => exact ⟨0, Nat.zero_le _, rfl, rfl, Hs3.out, FrK.refl _ _, Low.refl _ _⟩
  case round =>
    obtain ⟨k, hk, rfl, hok0, hsk, hfk, hok45⟩ := hrel
    have Hok0 := Lib.hid hok0
    clear hok0
    have Hok45 := Lib.hid hok45
    clear hok45
    by_cases hkn : k < s.sagas.length
    · have hstep : StM.runG { s with clock := s.clock + 1 } (List.range (k + 1)) = (StM.runG { s with clock := s.clock + 1 } (List.range k)).1.stepG k := runG_succ _ k Hok0.out
      obtain ⟨t1, t0, t2, t3, t4, t5, t6⟩ := runG_inv (m := m + (s.sagas.length - k)) (s := { s with clock := s.clock + 1 }) ⟨Hi.out.pend, Hi.out.epoch, Hi.out.ok, Hi.out.ord, Hi.out.size⟩ Hrm.out k (by
        rw [show m + (s.sagas.length - k) + k = m + s.sagas.length by omega]; exact Hf.out) Hok0.out
      have Hstep := Lib.hid hstep
      have HBad := Lib.hid (fun (nb : Nat) (w' : World) => TickG.bad (w := w) (q := q) (bl := bl) (s := s) (k := k) (nb := nb) (w' := w') hkn Hok0.out)
      clear hstep
      generalize (StM.runG { s with clock := s.clock + 1 } (List.range k)).1 = t at Hstep HBad hsk t0 t1 t2 t3 t4 t5 t6
      have Ht0 := Lib.hid t0
      clear t0
      have htl : t.sagas.length = s.sagas.length := t4
      clear t4
      have t4 := htl
      clear htl
      have Ht6 := Lib.hid t6
      clear t6
      obtain ⟨g, hg⟩ : ∃ g, t.sagas[k]? = some g := ⟨t.sagas[k], List.getElem?_eq_getElem (by rw [t4]; exact hkn)⟩
      obtain ⟨b, hb, hbo⟩ := blk_of t.sagas bl hsk.len t1.ord k g hg
      have hok := t1.ok g (List.mem_of_getElem? hg)
      have hgid : (s.sagas.map (·.id))[k]? = some g.id := by
        have : (t.sagas.map (·.id))[k]? = some g.id := by rw [List.getElem?_map, hg]; rfl
        rw [t5] at this; exact this
      obtain ⟨ib, rfl⟩ : ∃ ib, va = some ⟨ib, 0, none⟩ := by
        rcases Hva.out with h | h
        · omega
        · exact h
      have hcell := ints_at (own_keepK Hown.out hfk (by decide)) k g.id hgid
      have Hfk := Lib.hid hfk
      have Ht1 := Lib.hid t1
      have Ht2 := Lib.hid t2
      have Ht3 := Lib.hid t3
      clear t1 t2 t3 t4 t5 hfk hgid
      have hkI : (k : Int) < s.sagas.length := by omega
      have hl30 := inv0_len Hi.out
      go_upto_block 1 with fail
      by_cases hw : g.waits t.clock = false
      · refine tick_idle q bl t k g b ib s.sagas.length vc wr hsk hg hb hbo ⟨hok.1, hok.2.1⟩ hcell hkn hw ?_
        intros
        have e : t.stepG k = (t, true) := by simp only [StM.stepG, hg, hw, if_true]
        clear hcell hb hbo hok hg hw
        go_wp2_with fail
        go_roundw
        case rel => exact ⟨k + 1, hkn, by go_num, by rw [Hstep.out, e], by rw [Hstep.out, e]; exact hsk, Hfk.out, Hok45.out⟩
        case measure => simp [intOf]; omega
      · have hw : g.waits t.clock = true := by simpa using hw
        obtain ⟨hst, hroom⟩ : (g.st = 1 ∨ g.st = 2) ∧ t.j.en + 1 ≤ t.d.blocks.length := by
          have hst := waits_st hok hw
          have h1 := hok.left_pos hst
          have h2 := leftSum_mem t.sagas Ht1.out.ok g (List.mem_of_getElem? hg)
          have : (t.j.en : Int) + leftSum t.sagas ≤ t.d.blocks.length := Ht0.out
          exact ⟨hst, by omega⟩
        have hsm := Ht2.out.small
        have hglr : Handle wr := handle_low Hgl.out (HO3.out.trans Hok45.out) Hlo.out
        have hlor : 0 < t.p.lo := by rw [Ht6.out]; exact Hlo.out
        by_cases hset : t.j.fresh = true ∧ t.d.bad = true
        · refine tick_unset q bl t k g b ib s.sagas.length vc wr hsk Ht1.out hglr hlor hset hg hb hbo ⟨hok.1, hok.2.1⟩ hcell hkn hw ?_
          intros
          rename_i w' hy hfa hf' ho'
          obtain ⟨nb, rfl⟩ := hy
          have e := stepG_unset hg hw hset
          have HX : Hid ((t.stepG k).2 = false) := by show _ = _; rw [e]
          have HFa : Hid (FailAt w' q (t.stepG k).1 (t.stepG k).1.d) := by show FailAt _ _ _ _; rw [e]; exact hfa
          clear hcell hb hbo hok hg hw hroom hst hsm hset hsk hglr hlor hfa e
          have Hf' := Lib.hid hf'
          have Ho' := Lib.hid ho'
          rw [Ht6.out] at Ho'
          clear hf' ho'
          go_wp2_with fail
          go_ret
          exact HBad.out nb w' HX.out HFa.out ((HF3.out.trans Hfk.out).trans Hf'.out) ((HO3.out.trans Hok45.out).trans Ho'.out)
        have hset : t.j.fresh = false ∨ t.d.bad = false := by
          cases h1 : t.j.fresh
          · exact .inl rfl
          · cases h2 : t.d.bad
            · exact .inr rfl
            · exact absurd ⟨h1, h2⟩ hset
        by_cases hm : g.moves (g.reply t.p) = false
        · refine tick_vain_g q bl t k g b ib s.sagas.length vc wr hsk Ht1.out hglr hlor hset hg hb hbo ⟨hok.1, hok.2.1⟩ hcell hkn hw hok hst hsm hm ?_
          intros
          rename_i w' hs' hf' ho'
          have Hok' : Hid ((t.stepG k).2 = true) := by show _ = _; rw [stepG_vain hg hw hset hm]
          clear hcell hb hbo hok hg hw hroom hst hsm hm hsk hset hglr hlor
          have Hs' := Lib.hid hs'
          have Hf' := Lib.hid hf'
          have Ho' := Lib.hid ho'
          rw [Ht6.out] at Ho'
          clear hs' hf' ho'
          go_wp2_with fail
          go_roundw
          case rel => exact ⟨k + 1, hkn, by go_num, by rw [Hstep.out]; exact Hok'.out, by rw [Hstep.out]; exact Hs'.out, Hfk.out.trans Hf'.out, Hok45.out.trans Ho'.out⟩
          case measure => simp [intOf]; omega
        · have hm : g.moves (g.reply t.p) = true := by simpa using hm
          refine tick_moved_g q bl t k g b ib s.sagas.length vc wr hsk Ht1.out hglr hlor hset hg hb hbo ⟨hok.1, hok.2.1⟩ hcell hkn hw hok hst hsm hroom hm ?_ ?_
          · intros
            rename_i w' hok' hs' hf' ho'
            have Hok' := Lib.hid hok'
            clear hcell hb hbo hok hg hw hroom hst hsm hm hsk hset hglr hlor hok'
            have Hs' := Lib.hid hs'
            have Hf' := Lib.hid hf'
            have Ho' := Lib.hid ho'
            rw [Ht6.out] at Ho'
            clear hs' hf' ho'
            go_wp2_with fail
            go_roundw
            case rel => exact ⟨k + 1, hkn, by go_num, by rw [Hstep.out]; exact Hok'.out, by rw [Hstep.out]; exact Hs'.out, Hfk.out.trans Hf'.out, Hok45.out.trans Ho'.out⟩
            case measure => simp [intOf]; omega
          · intros
            rename_i w' hx' hy hfa hf' ho'
            obtain ⟨nb, rfl⟩ := hy
            have HX := Lib.hid hx'
            have HFa := Lib.hid hfa
            clear hcell hb hbo hok hg hw hroom hst hsm hm hsk hset hglr hlor hx' hfa
            have Hf' := Lib.hid hf'
            have Ho' := Lib.hid ho'
            rw [Ht6.out] at Ho'
            clear hf' ho'
            go_wp2_with fail
            go_ret
            exact HBad.out nb w' HX.out HFa.out ((HF3.out.trans Hfk.out).trans Hf'.out) ((HO3.out.trans Hok45.out).trans Ho'.out)
    · obtain rfl : k = s.sagas.length := by omega
      have Hsk := Lib.hid hsk
      have Hfk := Lib.hid hfk
      have hnk : ¬ ((s.sagas.length : Int) < s.sagas.length) := by omega
      clear hsk hfk
      go_wp2_with fail
      go_ret
      exact ⟨HF3.out.trans Hfk.out, HO3.out.trans Hok45.out, .inl ⟨Hok0.out, rfl, Hsk.out⟩⟩
end Go.Proofs.YtkafmfdipmhleaaGreatDoor
