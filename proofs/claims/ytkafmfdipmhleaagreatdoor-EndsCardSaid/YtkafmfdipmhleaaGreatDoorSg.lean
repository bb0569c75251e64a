/-
  What is proved: contracts of how a saga moves: Waits, Moves, Left, Pause, forward, backward, Move.
-/
import Derived.Test.YtkafmfdipmhleaaGreatDoorByt
import Derived.Deep.QuietTactic
import Derived.BigQuiet
import Derived.IntWalk
namespace Go.Proofs.YtkafmfdipmhleaaGreatDoor
open Go.RowKit

theorem StepsAt.frame {w w' : World} {v : Value} {l : List (ByteArray × ByteArray)} {S : Nat → Prop} (h : StepsAt w v l) (hf : Fr S w w') (hS : ∀ k, S k → ∃ o, w.heap[k]? = some o ∧ kindOf o ≠ 55) : StepsAt w' v l := by
  obtain ⟨b, off, cap, c, h1, h2, h3⟩ := h
  refine ⟨b, off, cap, c, h1, hf.get h2 (fun hs => ?_), h3⟩
  obtain ⟨o, ho, hk⟩ := hS b hs
  rw [h2] at ho
  exact hk (by rw [← Option.some.inj ho]; rfl)

/-- A saga. -/
structure SagaM where
  id : Int
  st : Int
  step : Int
  tries : Int
  due : Int
  steps : List (ByteArray × ByteArray)
def sgCells (s : SagaM) (sv : Value) : Array Value := #[.int .i64 s.id, .int .i64 s.st, .int .i64 s.step, .int .i64 s.steps.length, .int .i64 s.tries, .int .i64 s.due, sv]
def SagaAt (w : World) (sb : Nat) (s : SagaM) : Prop := ∃ sv, w.heap[sb]? = some (.cells (sgCells s sv) 88 (0, 0)) ∧ StepsAt w sv s.steps
theorem SagaAt.frame {w w' : World} {sb : Nat} {s : SagaM} {S : Nat → Prop} (h : SagaAt w sb s) (hf : Fr S w w') (hS : ∀ k, S k → k ≠ sb ∧ ∃ o, w.heap[k]? = some o ∧ kindOf o ≠ 55) : SagaAt w' sb s := by
  obtain ⟨sv, h1, h2⟩ := h
  exact ⟨sv, hf.get h1 (fun hs => (hS sb hs).1 rfl), h2.frame hf (fun k hk => (hS k hk).2)⟩
theorem SagaAt.new {w w' : World} {sb : Nat} {s : SagaM} (h : SagaAt w sb s) (hf : New w w') : SagaAt w' sb s := h.frame hf (fun _ f => f.elim)
/-- Only the numbers of the saga have turned. -/
theorem SagaAt.turn {w w' : World} {sb : Nat} {s s' : SagaM} {sv : Value} (h1 : w.heap[sb]? = some (.cells (sgCells s sv) 88 (0, 0))) (h2 : StepsAt w sv s.steps) (hf : Fr (· = sb) w w') (hs : s'.steps = s.steps)
    (h : w'.heap[sb]? = some (.cells (sgCells s' sv) 88 (0, 0))) : SagaAt w' sb s' :=
  ⟨sv, h, by rw [hs]; exact h2.frame hf (by rintro k rfl; exact ⟨_, h1, by simp [kindOf]⟩)⟩

def SagaM.waits (s : SagaM) (clock : Int) : Bool := decide (s.st ≤ 2) && decide (s.due ≤ clock)
set_option maxHeartbeats 1000000 in
theorem Waits_calls {w : World} {sb : Nat} {s : SagaM} (h : SagaAt w sb s) (clock : Int) :
    Calls Tryz.prog 49 #[.pointer (some ⟨sb, 0, none⟩), .int .i64 clock] w fun e w' => e = .returned (.bool (s.waits clock)) ∧ w = w' := by
  obtain ⟨sv, h1, _⟩ := h
  obtain ⟨id, st, step, tries, due, steps⟩ := s
  simp only [sgCells] at h1
  have Hw : Hid (SagaM.waits ⟨id, st, step, tries, due, steps⟩ clock = (decide (st ≤ 2) && decide (due ≤ clock))) := rfl
  have hcv := cellv w
  by_cases a1 : st ≤ 2 <;> by_cases a2 : due ≤ clock
  all_goals
    go_enter Tryz.func49, Tryz.ntmps49
    go_wp2
    go_ret
    exact ⟨by rw [Hw.out]; simp [a1, a2], rfl⟩

def SagaM.moves (s : SagaM) (reply : Int) : Bool := reply == 0 || (reply == 2 && s.st == 1)
set_option maxHeartbeats 1000000 in
theorem Moves_calls {w : World} {sb : Nat} {s : SagaM} (h : SagaAt w sb s) (reply : Int) :
    Calls Tryz.prog 53 #[.pointer (some ⟨sb, 0, none⟩), .int .i64 reply] w fun e w' => e = .returned (.bool (s.moves reply)) ∧ w = w' := by
  obtain ⟨sv, h1, _⟩ := h
  obtain ⟨id, st, step, tries, due, steps⟩ := s
  simp only [sgCells] at h1
  have Hw : Hid (SagaM.moves ⟨id, st, step, tries, due, steps⟩ reply = (reply == 0 || (reply == 2 && st == 1))) := rfl
  have hcv := cellv w
  by_cases a1 : (reply == 0) = true
  · go_enter Tryz.func53, Tryz.ntmps53
    go_wp2
    go_ret
    exact ⟨by rw [Hw.out]; simp [a1], rfl⟩
  · have a1 : (reply == 0) = false := by simpa using a1
    by_cases a2 : (reply == 2) = true
    · go_enter Tryz.func53, Tryz.ntmps53
      go_wp2
      go_ret
      exact ⟨by rw [Hw.out]; simp [a1, a2], rfl⟩
    · have a2 : (reply == 2) = false := by simpa using a2
      go_enter Tryz.func53, Tryz.ntmps53
      go_wp2
      go_ret
      exact ⟨by rw [Hw.out]; simp [a1, a2], rfl⟩

def SagaM.left (s : SagaM) : Int := if s.st = 1 then 2 * s.steps.length - s.step else if s.st = 2 then s.step else 0
set_option maxHeartbeats 1000000 in
theorem Left_calls {w : World} {sb : Nat} {s : SagaM} (h : SagaAt w sb s) (hb : -100 ≤ s.step ∧ s.step ≤ 100 ∧ s.steps.length ≤ 100) :
    Calls Tryz.prog 44 #[.pointer (some ⟨sb, 0, none⟩)] w fun e w' => e = .returned (.int .i64 s.left) ∧ ∃ n, w' = w.drewN n := by
  obtain ⟨sv, h1, b, off, cap, c, rfl, h1x⟩ := h
  obtain ⟨id, st, step, tries, due, steps⟩ := s
  simp only [sgCells] at h1
  have Hw : Hid (SagaM.left ⟨id, st, step, tries, due, steps⟩ = if st = 1 then 2 * steps.length - step else if st = 2 then step else 0) := rfl
  have hcv := cellv w
  simp only at hb
  clear h1x
  have hl : (0 : Int) ≤ steps.length := by omega
  have hw1 : IntKind.i64.wrap (2 * (steps.length : Int)) = 2 * (steps.length : Int) := IntWalk.i64_in _ (by omega)
  have hw2 : IntKind.i64.wrap (2 * (steps.length : Int) - step) = 2 * (steps.length : Int) - step := IntWalk.i64_in _ (by omega)
  clear hb hl
  by_cases a1 : st = 1
  · have a1' : (st == 1) = true := by simpa using a1
    have Ha := Lib.hid a1
    clear a1
    go_enter Tryz.func44, Tryz.ntmps44
    go_wp2_with fail
    go_quiet (fail)
    go_wp2
    go_ret
    exact ⟨by rw [Hw.out, if_pos Ha.out]; rfl, _, rfl⟩
  · have a1' : (st == 1) = false := by simpa using a1
    have Ha := Lib.hid a1
    clear a1 hw1 hw2
    by_cases a2 : st = 2
    · have a2' : (st == 2) = true := by simpa using a2
      have Hb := Lib.hid a2
      clear a2
      go_enter Tryz.func44, Tryz.ntmps44
      go_wp2
      go_ret
      exact ⟨by rw [Hw.out, if_neg Ha.out, if_pos Hb.out]; rfl, 0, rfl⟩
    · have a2' : (st == 2) = false := by simpa using a2
      have Hb := Lib.hid a2
      clear a2
      go_enter Tryz.func44, Tryz.ntmps44
      go_wp2
      go_ret
      exact ⟨by rw [Hw.out, if_neg Ha.out, if_neg Hb.out]; rfl, 0, rfl⟩

theorem wrap_in (n : Int) (h : -9223372036854775808 ≤ n ∧ n ≤ 9223372036854775807) : wrap64 n = n := by unfold wrap64; omega
theorem wrap_20 : wrap64 1048576 = 1048576 := wrap_in _ (by omega)
theorem wrap_pow (k : Nat) (h : k ≤ 20) : wrap64 (2 ^ k) = 2 ^ k := by
  have h2 : (2 : Nat) ^ k ≤ 2 ^ 20 := Nat.pow_le_pow_right (by omega) h
  have h3 : ((2 ^ k : Nat) : Int) = (2 : Int) ^ k := by simp
  have h4 : (0 : Int) ≤ 2 ^ k := by rw [← h3]; exact Int.natCast_nonneg _
  exact wrap_in _ ⟨by omega, by rw [← h3]; omega⟩
def SagaM.paused (s : SagaM) (clock most : Int) : SagaM := { s with due := wrap64 (clock + min (2 ^ (min s.tries 20).toNat) most), tries := wrap64 (s.tries + 1) }
set_option maxHeartbeats 1000000 in
theorem Pause_calls {w : World} {sb : Nat} {s : SagaM} (h : SagaAt w sb s) (clock most : Int) (ht : 0 ≤ s.tries) :
    Calls Tryz.prog 54 #[.pointer (some ⟨sb, 0, none⟩), .int .i64 clock, .int .i64 most] w fun e w' => e = .returned (.tuple #[]) ∧ Fr (· = sb) w w' ∧ SagaAt w' sb (s.paused clock most) := by
  obtain ⟨sv, h1, h2⟩ := h
  obtain ⟨id, st, step, tries, due, steps⟩ := s
  have hturn := @SagaAt.turn w
  have Ht := Lib.hid (fun (w' : World) (s' : SagaM) (hf : Fr (· = sb) w w') (hs : s'.steps = steps) => SagaAt.turn h1 h2 hf hs)
  clear hturn
  simp only [sgCells] at h1
  clear h2
  simp only at ht
  have hcv := cellv w
  have hfv := frozv w
  go_enter Tryz.func54, Tryz.ntmps54
  go_wp2_with fail
  all_goals
    go_end0
    refine ⟨rfl, (Fr.one _ _ _ _).trans (Fr.one _ _ _ _), Ht.out _ (SagaM.paused ⟨id, st, step, tries, due, steps⟩ clock most) ((Fr.one _ _ _ _).trans (Fr.one _ _ _ _)) rfl ?_⟩
    rw [hp_setCell, if_pos rfl, hp_setCell, if_pos rfl, h1]
  · rename_i h5
    have h6 := h
    rw [wrap_20] at h6
    simp [sgCells, SagaM.paused, Int.min_eq_right (Int.le_of_lt h5), Int.min_eq_right (Int.le_of_lt h6)]
  · rename_i h5
    have h6 := h
    rw [wrap_20] at h6
    simp [sgCells, SagaM.paused, Int.min_eq_right (Int.le_of_lt h5), Int.min_eq_left h6, wrap_20]
  · rename_i h5
    have h6 := h
    rw [wrap_pow _ (by omega)] at h6
    simp [sgCells, SagaM.paused, Int.min_eq_left h5, Int.min_eq_right (Int.le_of_lt h6)]
  · rename_i h5
    have h6 := h
    rw [wrap_pow _ (by omega)] at h6
    simp [sgCells, SagaM.paused, Int.min_eq_left h5, Int.min_eq_left h6, wrap_pow _ (show tries.toNat ≤ 20 by omega)]

def SagaM.backward (s : SagaM) : SagaM := { s with st := if s.step - 1 = 0 then 4 else 2, step := s.step - 1 }
def SagaM.forward (s : SagaM) (reply : Int) : SagaM :=
  if reply = 0 then (if (s.steps.length : Int) < s.step + 1 then { s with st := 3, step := 0 } else { s with step := s.step + 1 }) else s.backward
def SagaM.moved (s : SagaM) (reply : Int) : SagaM :=
  let t : SagaM := { s with tries := 0, due := 0 }
  if s.st = 1 then t.forward reply else t.backward
def MovePost (w : World) (sb : Nat) (s : SagaM) (e : Ending) (w' : World) : Prop := e = .returned (.tuple #[]) ∧ Fr (· = sb) w w' ∧ SagaAt w' sb s
set_option maxHeartbeats 1000000 in
theorem backward_calls {w : World} {sb : Nat} {s : SagaM} (h : SagaAt w sb s) (hs : 1 ≤ s.step ∧ s.step ≤ 100) (reply : Int) :
    Calls Tryz.prog 74 #[.pointer (some ⟨sb, 0, none⟩), .int .i64 reply] w (MovePost w sb s.backward) := by
  obtain ⟨sv, h1, h2⟩ := h
  obtain ⟨id, st, step, tries, due, steps⟩ := s
  simp only at hs
  have Ht := Lib.hid (fun (w' : World) (s' : SagaM) (hf : Fr (· = sb) w w') (hs : s'.steps = steps) => SagaAt.turn h1 h2 hf hs)
  simp only [sgCells] at h1
  clear h2
  have hcv := cellv w
  have hfv := frozv w
  by_cases h0 : step - 1 = 0
  · have h0' : (step - 1 == 0) = true := by simpa using h0
    have Hb : Hid (SagaM.backward ⟨id, st, step, tries, due, steps⟩ = ⟨id, 4, step - 1, tries, due, steps⟩) := by show _ = _; simp [SagaM.backward, h0]
    have H0 := Lib.hid h0
    clear h0
    go_enter Tryz.func74, Tryz.ntmps74
    go_wp2_with fail
    go_end0
    refine ⟨rfl, ?_, ?_⟩
    · exact ((Fr.one _ _ _ _).trans (Fr.one _ _ _ _)).trans (Fr.one _ _ _ _)
    · rw [Hb.out]
      refine Ht.out _ _ (((Fr.one _ _ _ _).trans (Fr.one _ _ _ _)).trans (Fr.one _ _ _ _)) rfl ?_
      simp only [hp_setCell, if_true, h1]
      simp [sgCells]
  · have h0' : (step - 1 == 0) = false := by simpa using h0
    have Hb : Hid (SagaM.backward ⟨id, st, step, tries, due, steps⟩ = ⟨id, 2, step - 1, tries, due, steps⟩) := by show _ = _; simp [SagaM.backward, h0]
    have H0 := Lib.hid h0
    clear h0
    go_enter Tryz.func74, Tryz.ntmps74
    go_wp2_with fail
    go_end0
    refine ⟨rfl, ?_, ?_⟩
    · exact ((Fr.one _ _ _ _).trans (Fr.one _ _ _ _))
    · rw [Hb.out]
      refine Ht.out _ _ (((Fr.one _ _ _ _).trans (Fr.one _ _ _ _))) rfl ?_
      simp only [hp_setCell, if_true, h1]
      simp [sgCells]
end Go.Proofs.YtkafmfdipmhleaaGreatDoor
