/-
  What is proved: the contracts of journal's crc, get and (*block).text.
-/
import Derived.Test.YtkafmfdipmhleaaGreatDoorPut
import Derived.OpenShut
namespace Go.Proofs.YtkafmfdipmhleaaGreatDoor
open Go.RowKit

/-- The check sum, as the program reckons it. -/
def crcBit (c : Int) : Int := bits BinOp.xor IntKind.u32 (c / 2) (bits BinOp.and IntKind.u32 (-bits BinOp.and IntKind.u32 c 1 % 4294967296) 2197175160)
def crcBits : Nat → Int → Int
  | 0, c => c
  | n + 1, c => crcBit (crcBits n c)
def crcByte (c : Int) (x : UInt8) : Int := crcBits 8 (bits BinOp.xor IntKind.u32 c ((x.toNat : Int) % 4294967296))
def crcRun (l : List UInt8) : Int := l.foldl crcByte 4294967295
def crcM (l : List UInt8) : Int := bits BinOp.xor IntKind.u32 IntKind.u32.max (crcRun l)
theorem bits_u32 (op : BinOp) (x y : Int) : 0 ≤ bits op IntKind.u32 x y ∧ bits op IntKind.u32 x y < 4294967296 := by
  have h := wf_bits op IntKind.u32 x y
  have hmin : IntKind.u32.min = 0 := rfl
  have hmax : IntKind.u32.max = 4294967295 := rfl
  simp only [Lit.wf, Bool.and_eq_true, decide_eq_true_eq] at h
  omega
theorem crcBits_u32 (n : Nat) (c : Int) (h : 0 ≤ c ∧ c < 4294967296) : 0 ≤ crcBits n c ∧ crcBits n c < 4294967296 := by
  cases n with
  | zero => exact h
  | succ n => rw [crcBits]; unfold crcBit; exact bits_u32 _ _ _
theorem crcRun_snoc (l : List UInt8) (x : UInt8) : crcRun (l ++ [x]) = crcByte (crcRun l) x := by simp [crcRun]
theorem crcRun_u32 (l : List UInt8) : 0 ≤ crcRun l ∧ crcRun l < 4294967296 := by
  rcases List.eq_nil_or_concat l with rfl | ⟨m, x, rfl⟩
  · exact ⟨by decide, by decide⟩
  · rw [List.concat_eq_append, crcRun_snoc]; exact crcBits_u32 8 _ (bits_u32 _ _ _)
theorem crcM_u32 (l : List UInt8) : 0 ≤ crcM l ∧ crcM l < 4294967296 := bits_u32 _ _ _

set_option maxHeartbeats 1000000 in
theorem crc_calls (w : World) (l : List UInt8) (b off cap : Nat) (hlen : l.length ≤ 128)
    (hl : ∀ j, j < l.length → cellOf w.heap[b]? (off + j) = some (bv (l.getD j 0))) :
    Calls Tryz.prog 119 #[.slice (some ⟨b, off, none⟩) l.length cap] w fun e w' => e = .returned (.int .u32 (crcM l)) ∧ w = w' := by
  have hcv := cellv w
  go_enter Tryz.func119, Tryz.ntmps119
  go_wp2
  go_loop [3, 8] (fun c i => ∃ m : Nat, m ≤ l.length ∧ i = .int .i64 m ∧ c = .int .u32 (crcRun (l.take m))) (fun _ i => l.length - (intOf i).toNat)
  case atStart => exact ⟨0, by omega, rfl, rfl⟩
  case round =>
    obtain ⟨m, hm, rfl, rfl⟩ := hrel
    have hcr := crcRun_u32 (l.take m)
    by_cases hlt : m < l.length
    · have hc := hl m hlt
      have htk : crcRun (l.take (m + 1)) = crcByte (crcRun (l.take m)) (l.getD m 0) := by
        rw [List.take_succ_eq_append_getElem hlt, crcRun_snoc, List.getD_eq_getElem?_getD]; simp [hlt]
      generalize l.getD m 0 = x at hc htk
      generalize crcRun (l.take m) = cc at htk hcr
      obtain ⟨hc0, hc1⟩ := hcr
      unfold bv at hc
      have Htk := Lib.hid htk
      clear hl htk
      go_wp2
      go_loop [3, 16] (fun c i => ∃ q : Nat, q ≤ 8 ∧ i = .int .i64 q ∧ c = .int .u32 (crcBits q (bits BinOp.xor IntKind.u32 cc ((x.toNat : Int) % 4294967296)))) (fun _ i => 8 - (intOf i).toNat)
      case atStart => exact ⟨0, by omega, rfl, rfl⟩
      case round =>
        obtain ⟨q, hq, rfl, rfl⟩ := hrel
        have hcr := crcBits_u32 q _ (bits_u32 BinOp.xor cc ((x.toNat : Int) % 4294967296))
        by_cases hlt2 : q < 8
        · have hs : crcBits (q + 1) (bits BinOp.xor IntKind.u32 cc ((x.toNat : Int) % 4294967296)) = crcBit (crcBits q (bits BinOp.xor IntKind.u32 cc ((x.toNat : Int) % 4294967296))) := rfl
          have Hs := Lib.hid hs
          clear hs
          generalize crcBits q (bits BinOp.xor IntKind.u32 cc ((x.toNat : Int) % 4294967296)) = c2 at hcr Hs
          obtain ⟨hd0, hd1⟩ := hcr
          go_wp2
          go_round
          case rel => exact ⟨q + 1, by omega, by go_num, by rw [Hs.out]; rfl⟩
          case measure => simp [intOf]; omega
        · obtain rfl : q = 8 := by omega
          have Hs : Hid (crcBits 8 (bits BinOp.xor IntKind.u32 cc ((x.toNat : Int) % 4294967296)) = crcByte cc x) := rfl
          generalize crcBits 8 (bits BinOp.xor IntKind.u32 cc ((x.toNat : Int) % 4294967296)) = c2 at hcr Hs
          obtain ⟨hd0, hd1⟩ := hcr
          go_wp2
          go_round
          case rel => exact ⟨m + 1, by omega, by go_num, by rw [Htk.out, Hs.out]⟩
          case measure => simp [intOf]; omega
    · obtain rfl : m = l.length := by omega
      rw [List.take_length] at hcr
      rw [List.take_length]
      have Hs : Hid (crcM l = bits BinOp.xor IntKind.u32 IntKind.u32.max (crcRun l)) := rfl
      generalize crcRun l = cc at hcr Hs
      obtain ⟨hc0, hc1⟩ := hcr
      go_wp2
      go_ret
      exact ⟨by rw [Hs.out]; rfl, rfl⟩
/-- The number that bytes mean, the least first. -/
def leVal : List UInt8 → Nat
  | [] => 0
  | x :: l => x.toNat + 256 * leVal l
theorem leVal_snoc (l : List UInt8) (x : UInt8) : leVal (l ++ [x]) = leVal l + x.toNat * 2 ^ (8 * l.length) := by
  induction l with
  | nil => simp [leVal]
  | cons a l ih =>
    simp only [List.cons_append, leVal, ih, List.length_cons]
    have : 2 ^ (8 * (l.length + 1)) = 256 * 2 ^ (8 * l.length) := by rw [Nat.mul_add, Nat.pow_add, Nat.mul_comm]
    rw [this, Nat.mul_add, ← Nat.add_assoc, Nat.mul_left_comm]
theorem leVal_lt (l : List UInt8) : leVal l < 2 ^ (8 * l.length) := by
  induction l with
  | nil => simp [leVal]
  | cons a l ih =>
    have h1 : 2 ^ (8 * (l.length + 1)) = 256 * 2 ^ (8 * l.length) := by rw [Nat.mul_add, Nat.pow_add, Nat.mul_comm]
    have := a.toNat_lt
    simp only [leVal, List.length_cons, h1]; omega
theorem or_i64 (a x i : Nat) (hi : i ≤ 3) (ha : a < 2 ^ (8 * i)) (hx : x < 256) : bits BinOp.or IntKind.i64 (a : Int) (wrap64 ((x : Int) * 2 ^ (8 * i))) = ((a + x * 2 ^ (8 * i) : Nat) : Int) := by
  have h4 : x * 2 ^ (8 * i) < 2 ^ 32 := by
    calc x * 2 ^ (8 * i) < 256 * 2 ^ (8 * i) := by apply Nat.mul_lt_mul_of_pos_right hx (Nat.two_pow_pos _)
      _ = 2 ^ (8 * i + 8) := by rw [Nat.pow_add]; omega
      _ ≤ 2 ^ 32 := Nat.pow_le_pow_right (by omega) (by omega)
  have h5 : a < 2 ^ 24 := Nat.lt_of_lt_of_le ha (Nat.pow_le_pow_right (by omega) (by omega))
  have hor : a ||| x * 2 ^ (8 * i) = a + x * 2 ^ (8 * i) := by
    rw [Nat.or_comm, Nat.mul_comm, ← Nat.two_pow_add_eq_or_of_lt ha, Nat.add_comm]
  have e0 : wrap64 ((x : Int) * 2 ^ (8 * i)) = ((x * 2 ^ (8 * i) : Nat) : Int) := by
    rw [show ((x : Int) * 2 ^ (8 * i)) = ((x * 2 ^ (8 * i) : Nat) : Int) from by push_cast; rfl]
    generalize x * 2 ^ (8 * i) = y at h4
    exact IntWalk.wrap64_in _ (by omega)
  rw [e0]
  unfold bits
  have e1 : (BitVec.ofInt 64 (a : Int) ||| BitVec.ofInt 64 ((x * 2 ^ (8 * i) : Nat) : Int)).toNat = a + x * 2 ^ (8 * i) := by
    rw [BitVec.toNat_or, BitVec.ofInt_natCast, BitVec.ofInt_natCast, BitVec.toNat_ofNat, BitVec.toNat_ofNat, Nat.mod_eq_of_lt (by omega), Nat.mod_eq_of_lt (by omega), hor]
  change IntKind.i64.wrap ((BitVec.ofInt 64 (a : Int) ||| BitVec.ofInt 64 ((x * 2 ^ (8 * i) : Nat) : Int)).toNat : Int) = _
  rw [e1]
  generalize x * 2 ^ (8 * i) = y at h4 ⊢
  exact IntWalk.i64_in _ (by omega)

set_option maxHeartbeats 1000000 in
theorem get_calls (w : World) (l : List UInt8) (b off cap : Nat) (hlen : l.length ≤ 4)
    (hl : ∀ j, j < l.length → cellOf w.heap[b]? (off + j) = some (bv (l.getD j 0))) :
    Calls Tryz.prog 131 #[.slice (some ⟨b, off, none⟩) l.length cap] w fun e w' => e = .returned (.int .i64 (leVal l)) ∧ w = w' := by
  have hcv := cellv w
  go_enter Tryz.func131, Tryz.ntmps131
  go_wp2
  go_loop [2, 7] (fun c i => ∃ m : Nat, m ≤ l.length ∧ i = .int .i64 m ∧ c = .int .i64 (leVal (l.take m))) (fun _ i => l.length - (intOf i).toNat)
  case atStart => exact ⟨0, by omega, rfl, rfl⟩
  case round =>
    obtain ⟨m, hm, rfl, rfl⟩ := hrel
    have hcr := leVal_lt (l.take m)
    rw [List.length_take, Nat.min_eq_left hm] at hcr
    by_cases hlt : m < l.length
    · have hc := hl m hlt
      have htk : leVal (l.take (m + 1)) = leVal (l.take m) + (l.getD m 0).toNat * 2 ^ (8 * m) := by
        rw [List.take_succ_eq_append_getElem hlt, leVal_snoc, List.getD_eq_getElem?_getD, List.length_take, Nat.min_eq_left hm]; simp [hlt]
      generalize l.getD m 0 = x at hc htk
      generalize leVal (l.take m) = cc at htk hcr
      unfold bv at hc
      have Htk := Lib.hid htk
      have Hcr := Lib.hid hcr
      have hx := x.toNat_lt
      clear hl htk hcr
      go_wp2
      go_round
      case rel => exact ⟨m + 1, by omega, by go_num, by rw [or_i64 _ _ _ (by omega) Hcr.out hx, Htk.out]⟩
      case measure => simp [intOf]; omega
    · obtain rfl : m = l.length := by omega
      rw [List.take_length] at hcr
      rw [List.take_length]
      generalize hL : leVal l = cc at hcr ⊢
      have HL := Lib.hid hL
      have Hcr := Lib.hid hcr
      clear hL hcr
      go_wp2
      go_ret
      exact ⟨by rw [HL.out]; rfl, rfl⟩
end Go.Proofs.YtkafmfdipmhleaaGreatDoor
