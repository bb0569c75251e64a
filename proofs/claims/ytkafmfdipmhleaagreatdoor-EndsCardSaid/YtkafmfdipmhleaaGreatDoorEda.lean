/-
  What is proved: how the statement Ends begins and ends. (No program in sight.)
-/
import Derived.Test.YtkafmfdipmhleaaGreatDoorBg
namespace Go.Proofs.YtkafmfdipmhleaaGreatDoor
open Go.RowKit Go.Maps

theorem StM.fine.mono {s : StM} {m k : Nat} (h : s.fine m) (hk : k ≤ m) : s.fine k := by
  obtain ⟨h1, h2, h3, h4, h5, h6⟩ := h
  exact ⟨by omega, by omega, h3, h4, by omega, h6⟩
def rest200 (r : List Int) : List Int := r ++ List.replicate 200 0
def ends1 (r : List Int) (n : Nat) (pause : Int) (lo : Nat) : StM := (StM.fresh 60 pause ⟨[], [], rest200 r, 0, lo⟩).submit 9 (kSteps 9 n)
theorem ends1_room (r : List Int) (n : Nat) (pause : Int) (lo : Nat) (hn : 1 ≤ n ∧ n ≤ 6) :
    ((StM.fresh 60 pause ⟨[], [], rest200 r, 0, lo⟩).j.en : Int) + (2 + (2 * (kSteps 9 n).length - 1) + leftSum (StM.fresh 60 pause ⟨[], [], rest200 r, 0, lo⟩).sagas) ≤ (StM.fresh 60 pause ⟨[], [], rest200 r, 0, lo⟩).d.blocks.length := by
  have : (StM.fresh 60 pause ⟨[], [], rest200 r, 0, lo⟩).d.blocks.length = 60 := fresh_len 60
  rw [this, kSteps_len]
  simp [StM.fresh, leftSum]
  omega
theorem ends1_inv (r : List Int) (n : Nat) (pause : Int) (lo : Nat) (hr : r.length ≤ 20) (hn : 1 ≤ n ∧ n ≤ 6) (hp : 1 ≤ pause ∧ pause ≤ 8) : (ends1 r n pause lo).inv ∧ (ends1 r n pause lo).fine 100000 := by
  have h0 := fresh_inv 60 pause ⟨[], [], rest200 r, 0, lo⟩ (by omega) (by omega)
  have hf : (StM.fresh 60 pause ⟨[], [], rest200 r, 0, lo⟩).fine 100000 := ⟨by simp [StM.fresh], by simp [StM.fresh], by show (rest200 r).length < 2 ^ 30; rw [rest200, List.length_append, List.length_replicate]; omega, by simp [StM.fresh], by simp [StM.fresh], fun g hg => by simp [StM.fresh] at hg⟩
  exact submit_inv (id := 9) (l := kSteps 9 n) h0 hf (kSteps_whole 9 n (by omega) hn) (fun x hx => by simp [StM.fresh] at hx) (ends1_room r n pause lo hn)
theorem ends1_ei (r : List Int) (n : Nat) (pause : Int) (lo : Nat) (hn : 1 ≤ n ∧ n ≤ 6) (hp : 1 ≤ pause ∧ pause ≤ 8) : EI (rest200 r) n (ends1 r n pause lo) (SagaM.new 9 (kSteps 9 n)) where
  sg := rfl
  st := kSteps_len 9 n
  ag := .inl ⟨rfl, 0, rfl, by omega, .inl rfl⟩
  nv1 := fun _ x hx => by simp [ends1, StM.fresh, StM.submit] at hx
  nv2 := fun h => by simp [SagaM.new] at h
  pl := rfl
  at_ := rfl
  sum := by
    have : (ends1 r n pause lo).p.log = [] := rfl
    rw [this, new_left, kSteps_len]; simp; omega
  due := by show (0 : Int) ≤ 0 + pause; omega
  ok := new_ok (kSteps_whole 9 n (by omega) hn)
  clk := by show (0 : Int) ≤ 0 ∧ (0 : Int) < 2 ^ 40; omega
  tries := by show (0 : Int) < 2 ^ 40; omega
/-- Behind so many ticks. -/
theorem ends1_end (r : List Int) (n : Nat) (pause : Int) (lo t : Nat) (hr : r.length ≤ 20) (hn : 1 ≤ n ∧ n ≤ 6) (hp : 1 ≤ pause ∧ pause ≤ 8) (ht : (t : Int) = (20 + 2 * n + 2) * (pause + 1)) :
    ∃ g, ((ends1 r n pause lo).ticks t).sagas = [g] ∧ g.id = 9 ∧ g.steps.length = n ∧ Agree n g.st g.step (mineOf ((ends1 r n pause lo).ticks t).p.effs 9) ∧
      (g.st = 3 ∧ (((ends1 r n pause lo).ticks t).p.log.any fun x => x.2 == 2) = false ∨ g.st = 4 ∧ (((ends1 r n pause lo).ticks t).p.log.any fun x => x.2 == 2) = true) := by
  have hleft : (SagaM.new 9 (kSteps 9 n)).left ≤ 2 * n := by rw [new_left, kSteps_len]; omega
  have htb : (t : Int) ≤ 34 * 9 := by rw [ht]; exact Int.mul_le_mul (by omega) (by omega) (by omega) (by omega)
  obtain ⟨hi, hf⟩ := ends1_inv r n pause lo hr hn hp
  obtain ⟨g, h1, h2, h3, h4⟩ := ei_ends (r := r) rfl hr (ends1_ei r n pause lo hn hp) hn.2 hi rfl rfl rfl rfl hleft t ht (hf.mono (by omega))
  have hid : g.id = 9 := h3
  refine ⟨g, h1.sg, hid, h1.st, by have := h1.ag; rw [hid] at this; exact this, ?_⟩
  rcases h4 with h4 | h4
  · left
    refine ⟨h4, ?_⟩
    rw [List.any_eq_false]
    intro x hx
    have := h1.nv1 (.inr h4) x hx
    simpa using this
  · right
    refine ⟨h4, ?_⟩
    rw [List.any_eq_true]
    obtain ⟨x, hx, h2⟩ := h1.nv2 (.inr h4)
    exact ⟨x, hx, by simpa using h2⟩
/-- How a partner's log reads. -/
theorem logCells_get (l : List (CallM × Int)) (k : Nat) (h : k < l.length) : (logCells l)[k * 5 + 4]? = some (.int .i64 l[k].2) := by
  induction l generalizing k with
  | nil => simp at h
  | cons a l ih =>
    have ha : (a.1.cells ++ [Value.int .i64 a.2]).length = 5 := rfl
    simp only [logCells, List.flatMap_cons]
    cases k with
    | zero =>
      rw [Nat.zero_mul, Nat.zero_add, List.getElem?_append_left (by omega)]
      rfl
    | succ k =>
      rw [List.getElem?_append_right (by omega), ha, show (k + 1) * 5 + 4 - 5 = k * 5 + 4 by omega]
      have := ih k (by simpa using h)
      simpa [logCells] using this
theorem log_read {w : World} {pb : Nat} {p : PartM} (h : PAt w pb p) : ∃ va vc ev iv, w.heap[pb]? = some (.cells #[.slice va p.log.length vc, ev, iv, .int .i64 p.at_] 44 (0, 0)) ∧
    ∀ k (hk : k < p.log.length), ∃ g, va = some ⟨g, 0, none⟩ ∧ (∃ o, w.heap[g]? = some o) ∧ ∀ w' : World, w'.heap[g]? = w.heap[g]? → cellOf w'.heap[g]? (k * 5 + 4) = some (.int .i64 p.log[k].2) := by
  obtain ⟨⟨lv, ev, iv, B, h1, ho, _, _⟩⟩ := h
  rcases ho with ⟨o1, ⟨rfl, h0⟩ | ⟨g, cap, cur, rfl, hg, hh, _, _, _, htk⟩⟩
  · refine ⟨none, 0, ev, iv, by rw [h1, h0], fun k hk => by omega⟩
  · refine ⟨_, cap, ev, iv, h1, fun k hk => ⟨g, rfl, ⟨_, hh⟩, fun w' hf => ?_⟩⟩
    have := logCells_get p.log k hk
    rw [hf, hh, cellOf_cells]
    rw [← htk, List.getElem?_take_of_lt (by omega)] at this
    simpa using this
end Go.Proofs.YtkafmfdipmhleaaGreatDoor
