/-
  What is proved: the contract of the statements' helper steps.
-/
import Derived.Test.YtkafmfdipmhleaaGreatDoorKp
namespace Go.Proofs.YtkafmfdipmhleaaGreatDoor
open Go.RowKit Go.Maps

def by8 (n : Int) : UInt8 := UInt8.ofNat (n % 256).toNat
def kStep (id i : Int) : ByteArray × ByteArray := (⟨#[100, by8 (97 + id), by8 (49 + i)]⟩, ⟨#[117, by8 (97 + id), by8 (49 + i)]⟩)
def kSteps (id : Int) (n : Nat) : List (ByteArray × ByteArray) := (List.range n).map fun (i : Nat) => kStep id i
theorem kSteps_succ (id : Int) (n : Nat) : kSteps id (n + 1) = kSteps id n ++ [kStep id n] := by simp [kSteps, List.range_succ]
theorem kSteps_len (id : Int) (n : Nat) : (kSteps id n).length = n := by simp [kSteps]
theorem conv3 (w : World) (x0 x1 x2 : Int) : (convert 92 9 (.slice (some ⟨w.heap.size, 0, none⟩) 3 3)).run Tryz.prog (w.alloc (.cells #[.int .u8 x0, .int .u8 x1, .int .u8 x2] 5)) =
    .ok (.string ⟨#[UInt8.ofNat x0.toNat, UInt8.ofNat x1.toNat, UInt8.ofNat x2.toNat]⟩) (w.alloc (.cells #[.int .u8 x0, .int .u8 x1, .int .u8 x2] 5)) := by
  have hc : ∀ t, t < 3 → (w.alloc (.cells #[.int .u8 x0, .int .u8 x1, .int .u8 x2] 5)).cell? ⟨w.heap.size, 0 + t, none⟩ = some (.int .u8 ([x0, x1, x2].getD t 0)) := by
    intro t ht
    rw [cellv, heap_alloc_new]
    match t, ht with
    | 0, _ | 1, _ | 2, _ => rfl
  rw [run_convert_bytes_arg (P := Tryz.prog) _ 92 5 Tryz.underlying92 Tryz.underlying5 w.heap.size 0 3 3 [x0, x1, x2] rfl hc 9 Tryz.underlying9]
  rfl
set_option maxRecDepth 100000 in
set_option maxHeartbeats 2000000 in
theorem steps_calls (w : World) (id : Int) (n : Nat) (hid : 0 ≤ id ∧ id ≤ 1000) (hn : n ≤ 1000) :
    Calls Tryz.prog 19 #[.int .i64 id, .int .i64 n] w fun e w' => ∃ v, e = .returned v ∧ StepsVal w' w.heap.size v (kSteps id n) ∧ New w w' := by
  obtain ⟨i0, hi, hz0, hz1, hz2⟩ := info_parts Tryz.info54
  have ha : wrap64 (97 + id) = 97 + id := wrap_in _ (by omega)
  have Hid0 := Lib.hid hid
  clear hid
  go_enter Tryz.func19, Tryz.ntmps19
  go_wp2_with fail
  go_loopw [5, 6] (fun sv i wr => ∃ k : Nat, k ≤ n ∧ i = .int .i64 (k : Nat) ∧ StepsVal wr w.heap.size sv (kSteps id k) ∧ New w wr) (fun _ i _ => n - (intOf i).toNat)
  case atStart => exact ⟨0, Nat.zero_le _, rfl, World.ownsRow_nil w w.heap.size 54 2, Fr.refl _ _⟩
  case round =>
    obtain ⟨k, hk, rfl, hown, hfr⟩ := hrel
    have Hown := Lib.hid hown
    have Hfr := Lib.hid hfr
    clear hown hfr
    by_cases h2 : k < n
    · have hk2 : (k : Int) < n := by omega
      have hb : wrap64 (49 + (k : Int)) = 49 + (k : Int) := wrap_in _ (by omega)
      have hconv := conv3
      have hconv2 := conv3 (wr.alloc (.cells #[.int .u8 100, .int .u8 ((97 + id) % 256), .int .u8 ((49 + (k : Int)) % 256)] 5)) 117 ((97 + id) % 256) ((49 + (k : Int)) % 256)
      rw [sz_alloc] at hconv2
      go_upto_region 7 with fail
      have hN : New wr ((wr.alloc (.cells #[.int .u8 100, .int .u8 ((97 + id) % 256), .int .u8 ((49 + (k : Int)) % 256)] 5)).alloc (.cells #[.int .u8 117, .int .u8 ((97 + id) % 256), .int .u8 ((49 + (k : Int)) % 256)] 5)) := ((Fr.refl _ wr).alloc _).alloc _
      have hst : kStep id k = (⟨#[100, UInt8.ofNat ((97 + id) % 256).toNat, UInt8.ofNat ((49 + k) % 256)]⟩, ⟨#[117, UInt8.ofNat ((97 + id) % 256).toNat, UInt8.ofNat ((49 + k) % 256)]⟩) := by
        have e : ((49 + (k : Int)) % 256).toNat = (49 + k) % 256 := by omega
        simp [kStep, by8, e]
      have Hown2 := Lib.hid (own_New Hown.out hN)
      have Hf2 := Lib.hid (Hfr.out.trans hN)
      have Hst := Lib.hid hst
      clear hN hst hconv hconv2
      generalize ((wr.alloc (.cells #[.int .u8 100, .int .u8 ((97 + id) % 256), .int .u8 ((49 + (k : Int)) % 256)] 5)).alloc (.cells #[.int .u8 117, .int .u8 ((97 + id) % 256), .int .u8 ((49 + (k : Int)) % 256)] 5)) = w2 at Hown2 Hf2 ⊢
      generalize (⟨#[100, UInt8.ofNat ((97 + id) % 256).toNat, UInt8.ofNat ((49 + k) % 256)]⟩ : ByteArray) = d1 at Hst ⊢
      generalize (⟨#[117, UInt8.ofNat ((97 + id) % 256).toNat, UInt8.ofNat ((49 + k) % 256)]⟩ : ByteArray) = d2 at Hst ⊢
      have hoA := Lib.hid (Hown2.out.alloc (.cells #[.string d1, .string d2] 54))
      have hnews : ∀ (j : Nat) (u : Value), [Value.string d1, .string d2][j]? = some u → (w2.alloc (.cells #[.string d1, .string d2] 54)).cell? ((⟨w2.heap.size, 0, none⟩ : Addr).add j) = some u := World.news_of_block (heap_alloc_new w2 _)
      have Hnews := Lib.hid hnews
      have hkn : Hid (k < n) := h2
      have hlk := kSteps_len id k
      clear hnews
      go_wp2_with (first
        | (at_builtin; refine wpList_append_own _ rfl _ _ 34 rfl w.heap.size 54 i0 (.agg #[.string ⟨#[]⟩, .string ⟨#[]⟩]) 2 32 Tryz.underlying34 hi hz0 hz1 hz2 rfl (by decide) _ _ _ rfl hoA.out ⟨w2.heap.size, 0, none⟩ 1 1 [.string d1, .string d2] rfl rfl Hnews.out (by intro u hu; simp at hu; rcases hu with rfl | rfl <;> rfl) (by unfold maxLen; omega) (by omega) (by have := Hf2.out.size; simp; omega) ?_; intro sv' w1 hown1 hg1 _; go_frame)
        | fail)
      go_roundw
      case rel =>
        refine ⟨k + 1, hkn.out, by go_num, ?_, ?_⟩
        · show w1.ownsRow _ _ _ _ _ _
          rw [kSteps_succ, List.length_append, Hst.out, show stepCells (kSteps id k ++ [(d1, d2)]) = stepCells (kSteps id k) ++ [.string d1, .string d2] by simp [stepCells]]
          exact hown1
        · refine (Hf2.out.alloc _).trans' (Fr.ofGrown hg1) (fun i hi e => ?_)
          have := (Hown2.out.lt i e).1
          omega
      case measure => have := hkn.out; simp [intOf]; omega
    · have hk2 : ¬ (k : Int) < n := by omega
      have he : Hid (k = n) := by show _ = _; omega
      go_wp2_with fail
      go_ret
      refine ⟨_, rfl, ?_, Hfr.out⟩
      have := Hown.out
      rw [he.out] at this
      exact this
end Go.Proofs.YtkafmfdipmhleaaGreatDoor
