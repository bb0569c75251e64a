/-
  What is proved: the contract of Whole.
-/
import Derived.Test.YtkafmfdipmhleaaGreatDoorSgc
namespace Go.Proofs.YtkafmfdipmhleaaGreatDoor
open Go.RowKit

def anyLong (l : List (ByteArray × ByteArray)) : Bool := l.any longB
set_option maxRecDepth 100000 in
set_option maxHeartbeats 2000000 in
theorem Index_calls (w : World) (l : List (ByteArray × ByteArray)) (v : Value) (hv : SlAt w v l) (hl : l.length ≤ 1000) :
    Calls Tryz.prog 93 #[v, .func (.func 62) #[] #[]] w fun e w' => (∃ i : Int, e = .returned (.int .i64 i) ∧ decide (0 ≤ i) = anyLong l) ∧ New w w' := by
  have hsh : ∃ a c, v = .slice a l.length c := by
    rcases hv with ⟨rfl, a, c, rfl⟩ | ⟨b, off, cap, _, e, _⟩
    · exact ⟨a, c, rfl⟩
    · exact ⟨_, _, e⟩
  obtain ⟨a, c, rfl⟩ := hsh
  have hst : ∀ k (hk : k < l.length), ∃ b off, a = some ⟨b, off, none⟩ ∧ ∀ w', New w w' → w'.cell? ⟨b, off + k * 2, none⟩ = some (.string l[k].1) ∧ w'.cell? ⟨b, off + k * 2 + 1, none⟩ = some (.string l[k].2) := by
    intro k hk
    rcases hv with ⟨rfl, _⟩ | ⟨b, off, cap, c, e, h2, h3⟩
    · simp at hk
    · simp only [Value.slice.injEq] at e
      refine ⟨b, off, e.1, fun w' hf => ?_⟩
      have := StepsAt.get (hf.get h2 (fun f => f)) h3 k hk
      rw [← cellv, ← cellv] at this
      exact this
  have Hst := Lib.hid hst
  clear hst hv
  go_enter Tryz.func93, Tryz.ntmps93
  go_wp2_with fail
  go_loopw [8] (fun i wr => ∃ k : Nat, k ≤ l.length ∧ i = .int .i64 k ∧ anyLong (l.take k) = false ∧ New w wr) (fun i _ => l.length - (intOf i).toNat)
  case atStart => exact ⟨0, Nat.zero_le _, rfl, rfl, Fr.refl _ _⟩
  case round =>
    obtain ⟨k, hk, rfl, hno, hf⟩ := hrel
    have Hno := Lib.hid hno
    have Hf := Lib.hid hf
    clear hno hf
    have hk0 : (0 : Int) ≤ k := by omega
    by_cases hlt : k < l.length
    · obtain ⟨b, off, hva, hcc⟩ := Hst.out k hlt
      subst hva
      obtain ⟨x0, x1⟩ := hcc wr Hf.out
      have hlti : (k : Int) < l.length := by omega
      have hsn : Hid (anyLong (l.take (k + 1)) = (anyLong (l.take k) || longB (l[k].1, l[k].2))) := by
        show _ = _
        rw [List.take_succ_eq_append_getElem hlt]
        unfold anyLong
        rw [List.any_append]
        simp
      have hall : Hid (longB (l[k].1, l[k].2) = true → anyLong l = true) := by
        intro h
        simp only [anyLong, List.any_eq_true]
        exact ⟨l[k], List.getElem_mem hlt, h⟩
      clear hcc
      generalize l[k].1 = A at x0 hsn hall
      generalize l[k].2 = B at x1 hsn hall
      go_wp2_with (first
        | (go_at_call 62; refine Calls.mono (long_calls wr A B) ?_; rintro e w1 ⟨rfl, hf1⟩)
        | fail)
      · rename_i hL
        go_ret
        exact ⟨⟨k, rfl, by rw [hall.out hL]; simp⟩, Hf.out.trans hf1⟩
      · rename_i hL
        go_roundw
        case rel => exact ⟨k + 1, by omega, by go_num, by rw [hsn.out, Hno.out, hL]; rfl, Hf.out.trans hf1⟩
        case measure => simp [intOf]; omega
    · have hkl : Hid (k = l.length) := by show _ = _; omega
      go_wp2_with fail
      go_ret
      exact ⟨⟨-1, rfl, by
        have := Hno.out
        rw [hkl.out, List.take_length] at this
        rw [this]; rfl⟩, Hf.out⟩

theorem Contains_calls (w : World) (l : List (ByteArray × ByteArray)) (v : Value) (hv : SlAt w v l) (hl : l.length ≤ 1000) :
    Calls Tryz.prog 63 #[v, .func (.func 62) #[] #[]] w fun e w' => e = .returned (.bool (anyLong l)) ∧ New w w' := by
  have HI := Lib.hid (Index_calls w l v hv hl)
  clear hv
  go_enter Tryz.func63, Tryz.ntmps63
  go_wp2_with (first
    | (go_at_call 93; refine Calls.mono HI.out ?_; rintro e w1 ⟨⟨i, rfl, hi⟩, hf1⟩)
    | fail)
  go_ret
  exact ⟨by rw [← hi]; rfl, hf1⟩

def wholeB (id : Int) (l : List (ByteArray × ByteArray)) : Bool := decide (1 ≤ id) && decide (id ≤ 1000) && decide (1 ≤ l.length) && decide (l.length ≤ 6) && !anyLong l
set_option maxRecDepth 100000 in
set_option maxHeartbeats 2000000 in
theorem Whole_calls (w : World) (id : Int) (l : List (ByteArray × ByteArray)) (v : Value) (hv : SlAt w v l) (hl : l.length ≤ 1000) :
    Calls Tryz.prog 41 #[.int .i64 id, v] w fun e w' => e = .returned (.bool (wholeB id l)) ∧ New w w' := by
  have HC := Lib.hid (Contains_calls w l v hv hl)
  have hsh : ∃ a c, v = .slice a l.length c := by
    rcases hv with ⟨rfl, a, c, rfl⟩ | ⟨b, off, cap, _, e, _⟩
    · exact ⟨a, c, rfl⟩
    · exact ⟨_, _, e⟩
  obtain ⟨a, c, rfl⟩ := hsh
  have Hw : Hid (wholeB id l = (decide (1 ≤ id) && decide (id ≤ 1000) && decide (1 ≤ l.length) && decide (l.length ≤ 6) && !anyLong l)) := rfl
  clear hv
  by_cases h1 : 1 ≤ id
  · by_cases h2 : id ≤ 1000
    · by_cases h3 : (1 : Int) ≤ l.length
      · have h3' : 1 ≤ l.length := by omega
        by_cases h4 : (l.length : Int) ≤ 6
        · have h4' : l.length ≤ 6 := by omega
          go_enter Tryz.func41, Tryz.ntmps41
          go_wp2_with (first
            | (go_at_call 63; refine Calls.mono HC.out ?_; rintro e w1 ⟨rfl, hf1⟩)
            | fail)
          go_ret
          exact ⟨by rw [Hw.out]; simp [h1, h2, h3', h4'], hf1⟩
        · have h4' : ¬ l.length ≤ 6 := by omega
          go_enter Tryz.func41, Tryz.ntmps41
          go_wp2_with fail
          go_ret
          exact ⟨by rw [Hw.out]; simp [h4'], Fr.refl _ _⟩
      · have h3' : ¬ 1 ≤ l.length := by omega
        go_enter Tryz.func41, Tryz.ntmps41
        go_wp2_with fail
        go_ret
        exact ⟨by rw [Hw.out]; simp [h3'], Fr.refl _ _⟩
    · go_enter Tryz.func41, Tryz.ntmps41
      go_wp2_with fail
      go_ret
      exact ⟨by rw [Hw.out]; simp; intros; omega, Fr.refl _ _⟩
  · go_enter Tryz.func41, Tryz.ntmps41
    go_wp2_with fail
    go_ret
    exact ⟨by rw [Hw.out]; simp; intros; omega, Fr.refl _ _⟩
end Go.Proofs.YtkafmfdipmhleaaGreatDoor
