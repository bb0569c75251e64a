/-
  What is proved: the contract of what a saga asks for: Call.
-/
import Derived.Test.YtkafmfdipmhleaaGreatDoorSga
import Derived.BigRegion
import Derived.Deep.RegionHeld3
namespace Go.Proofs.YtkafmfdipmhleaaGreatDoor
open Go.RowKit

structure CallM where
  saga : Int
  step : Int
  back : Bool
  data : ByteArray
def CallM.val (c : CallM) : Value := .agg #[.int .i64 c.saga, .int .i64 c.step, .bool c.back, .string c.data]
def SagaM.call (s : SagaM) : CallM := ⟨s.id, s.step, decide (s.st = 2), if s.st = 2 then (s.steps.getD (s.step - 1).toNat (⟨#[]⟩, ⟨#[]⟩)).2 else (s.steps.getD (s.step - 1).toNat (⟨#[]⟩, ⟨#[]⟩)).1⟩
theorem Tryz.info46s : (Tryz.prog.info? 46).map (·.size) = some 4 := by kernel_rfl
set_option maxRecDepth 100000 in
set_option maxHeartbeats 2000000 in
theorem Call_calls {w : World} {sb : Nat} {s : SagaM} (h : SagaAt w sb s) (hst : s.st = 1 ∨ s.st = 2) (k : Nat) (hk : s.step = k + 1) (hkl : k < s.steps.length) (hlen : s.steps.length ≤ 100) :
    Calls Tryz.prog 52 #[.pointer (some ⟨sb, 0, none⟩)] w fun e w' => e = .returned s.call.val ∧ New w w' := by
  have hc : Hid (s.call = ⟨s.id, (k : Int) + 1, decide (s.st = 2), if s.st = 2 then s.steps[k].2 else s.steps[k].1⟩) := by
    show _ = _
    have e1 : (s.step - 1).toNat = k := by omega
    simp [SagaM.call, hk, hkl]
  obtain ⟨sv, h1, b, off, cap, c, rfl, h2, h3⟩ := h
  obtain ⟨id, st, step, tries, due, steps⟩ := s
  simp only at hk hkl hst hlen hc h3
  subst hk
  obtain ⟨x0, x1⟩ := stepCells_get steps k hkl
  have c0 := h3 (k * 2) (by omega)
  have c1 := h3 (k * 2 + 1) (by omega)
  rw [x0] at c0
  rw [x1] at c1
  clear x0 x1 h3
  generalize steps[k].1 = D0 at hc c0
  generalize steps[k].2 = D1 at hc c1
  simp only [sgCells] at h1
  generalize steps.length = n at h1 hkl hlen
  have hkl' : (k : Int) < n := by omega
  have hw1 : IntKind.i64.wrap ((k : Int) + 1 - 1) = k := by rw [IntWalk.i64_in _ (by omega)]; omega
  have hw2 : IntKind.i64.wrap (k : Int) = k := IntWalk.i64_in _ (by omega)
  have hk0 : (0 : Int) ≤ k := by omega
  have HW := Lib.hid (rfl : w = w)
  clear hlen
  rcases hst with rfl | rfl
  · go_enter Tryz.func52, Tryz.ntmps52
    go_upto_region 1 with fail
    have hF1 : New w (w.alloc (.cells #[.int .i64 0, .int .i64 0, .bool false, .string ⟨#[]⟩] 46)) := (Fr.refl _ _).alloc _
    have h1' := hF1.get h1 (fun f => f)
    have h2' := hF1.get h2 (fun f => f)
    have h3' := heap_alloc_new w (.cells #[.int .i64 0, .int .i64 0, .bool false, .string ⟨#[]⟩] 46)
    generalize (w.alloc (.cells #[.int .i64 0, .int .i64 0, .bool false, .string ⟨#[]⟩] 46)) = W1 at hF1 h1' h2' h3' ⊢
    generalize hN : w.heap.size = N at h3' ⊢
    have HN := Lib.hid hN
    clear hN
    have a0 : W1.cell? ⟨sb, 0, none⟩ = some (.int .i64 id) := by rw [cellv, h1']; rfl
    have a1 : W1.cell? ⟨sb, 1, none⟩ = some (.int .i64 1) := by rw [cellv, h1']; rfl
    have a2 : W1.cell? ⟨sb, 2, none⟩ = some (.int .i64 ((k : Int) + 1)) := by rw [cellv, h1']; rfl
    have a6 : W1.cell? ⟨sb, 6, none⟩ = some (.slice (some ⟨b, off, none⟩) n cap) := by rw [cellv, h1']; rfl
    have aa : W1.cell? ⟨b, off + k * 2, none⟩ = some (.string D0) := by rw [cellv, h2']; exact c0
    have n0 := World.new_ne W1 ⟨sb, 0, none⟩ a0
    clear h1 h2 h1' h2' c0 c1
    go_region_held3 (fun w' => w'.cell? ⟨sb, 0, none⟩ = some (.int .i64 id) ∧ w'.cell? ⟨sb, 1, none⟩ = some (.int .i64 1) ∧ w'.cell? ⟨sb, 2, none⟩ = some (.int .i64 ((k : Int) + 1)) ∧ w'.cell? ⟨sb, 6, none⟩ = some (.slice (some ⟨b, off, none⟩) n cap) ∧ w'.cell? ⟨b, off + k * 2, none⟩ = some (.string D0)) (go_keep) ((fail))
    have hF2 : New w (W1.alloc (.cells #[.int .i64 id, .int .i64 ((k : Int) + 1), .bool false, .string D0] 46)).drew := (hF1.alloc _).drew
    have h3'' := heap_alloc_keep (.cells #[.int .i64 id, .int .i64 ((k : Int) + 1), .bool false, .string D0] 46) h3'
    have h4' := heap_alloc_new W1 (.cells #[.int .i64 id, .int .i64 ((k : Int) + 1), .bool false, .string D0] 46)
    have hne : N ≠ W1.heap.size := ne_size_of_hp h3'
    rw [← hp_drew] at h3'' h4'
    clear h3' a0 a1 a2 a6 aa n0
    rename_i hHeld
    clear hHeld
    generalize (W1.alloc (.cells #[.int .i64 id, .int .i64 ((k : Int) + 1), .bool false, .string D0] 46)).drew = W2 at hF2 h3'' h4' ⊢
    generalize W1.heap.size = N1 at h4' hne ⊢
    have hcv := cellv W2
    have hfv := frozv W2
    have HF2 := Lib.hid hF2
    clear hF1 hF2
    go_wp2_with fail
    refine bodyPost_ret (v := CallM.val ⟨id, (k : Int) + 1, false, D0⟩) ?_ rfl ⟨by rw [hc.out]; rfl, ?_⟩
    · simp [results, Tryz.results52, go_sem, CallM.val, hp_setCell, h3'', cellv]
    · have hb : N < w.heap.size → False := by rw [HN.out]; omega
      exact (((HF2.out.setCell hb _ _).setCell hb _ _).setCell hb _ _).setCell hb _ _
  · go_enter Tryz.func52, Tryz.ntmps52
    go_upto_region 1 with fail
    have hF1 : New w (w.alloc (.cells #[.int .i64 0, .int .i64 0, .bool false, .string ⟨#[]⟩] 46)) := (Fr.refl _ _).alloc _
    have h1' := hF1.get h1 (fun f => f)
    have h2' := hF1.get h2 (fun f => f)
    have h3' := heap_alloc_new w (.cells #[.int .i64 0, .int .i64 0, .bool false, .string ⟨#[]⟩] 46)
    generalize (w.alloc (.cells #[.int .i64 0, .int .i64 0, .bool false, .string ⟨#[]⟩] 46)) = W1 at hF1 h1' h2' h3' ⊢
    generalize hN : w.heap.size = N at h3' ⊢
    have HN := Lib.hid hN
    clear hN
    have a0 : W1.cell? ⟨sb, 0, none⟩ = some (.int .i64 id) := by rw [cellv, h1']; rfl
    have a1 : W1.cell? ⟨sb, 1, none⟩ = some (.int .i64 2) := by rw [cellv, h1']; rfl
    have a2 : W1.cell? ⟨sb, 2, none⟩ = some (.int .i64 ((k : Int) + 1)) := by rw [cellv, h1']; rfl
    have a6 : W1.cell? ⟨sb, 6, none⟩ = some (.slice (some ⟨b, off, none⟩) n cap) := by rw [cellv, h1']; rfl
    have aa : W1.cell? ⟨b, off + k * 2, none⟩ = some (.string D0) := by rw [cellv, h2']; exact c0
    have n0 := World.new_ne W1 ⟨sb, 0, none⟩ a0
    clear h1 h2 c0
    go_region_held3 (fun w' => w'.cell? ⟨sb, 0, none⟩ = some (.int .i64 id) ∧ w'.cell? ⟨sb, 1, none⟩ = some (.int .i64 2) ∧ w'.cell? ⟨sb, 2, none⟩ = some (.int .i64 ((k : Int) + 1)) ∧ w'.cell? ⟨sb, 6, none⟩ = some (.slice (some ⟨b, off, none⟩) n cap) ∧ w'.cell? ⟨b, off + k * 2, none⟩ = some (.string D0)) (go_keep) ((fail))
    have hF2 : New w (W1.alloc (.cells #[.int .i64 id, .int .i64 ((k : Int) + 1), .bool true, .string D0] 46)).drew := (hF1.alloc _).drew
    have h3'' := heap_alloc_keep (.cells #[.int .i64 id, .int .i64 ((k : Int) + 1), .bool true, .string D0] 46) h3'
    have h4' := heap_alloc_new W1 (.cells #[.int .i64 id, .int .i64 ((k : Int) + 1), .bool true, .string D0] 46)
    have hne : N ≠ W1.heap.size := ne_size_of_hp h3'
    rw [← hp_drew] at h3'' h4'
    clear h3' a0 a1 a2 a6 aa n0
    rename_i hHeld
    clear hHeld
    have hS2 : New W1 (W1.alloc (.cells #[.int .i64 id, .int .i64 ((k : Int) + 1), .bool true, .string D0] 46)).drew := ((Fr.refl _ _).alloc _).drew
    generalize (W1.alloc (.cells #[.int .i64 id, .int .i64 ((k : Int) + 1), .bool true, .string D0] 46)).drew = W2 at hF2 hS2 h3'' h4' ⊢
    have hN1 : w.heap.size ≤ W1.heap.size := hF1.size
    generalize W1.heap.size = N1 at h4' hne hN1 ⊢
    have HN1 := Lib.hid hN1
    clear hN1
    have HF2 := Lib.hid hF2
    have h1'' := hS2.get h1' (fun f => f)
    have h2'' := hS2.get h2' (fun f => f)
    have hcv := cellv W2
    have hfv := frozv W2
    clear hF1 hF2 hS2 h1' h2'
    go_upto_region 3 with fail
    have e1 : N1 ≠ sb := ne_of_kind h4' h1'' (by simp [kindOf])
    have e2 : N1 ≠ b := ne_of_kind h4' h2'' (by simp [kindOf])
    have e3 : ¬ sb = N1 := fun e => e1 e.symm
    have e4 : ¬ b = N1 := fun e => e2 e.symm
    have b2 : W2.cell? ⟨sb, 2, none⟩ = some (.int .i64 ((k : Int) + 1)) := by rw [cellv, h1'']; rfl
    have b6 : W2.cell? ⟨sb, 6, none⟩ = some (.slice (some ⟨b, off, none⟩) n cap) := by rw [cellv, h1'']; rfl
    have bb : W2.cell? ⟨b, off + k * 2 + 1, none⟩ = some (.string D1) := by rw [cellv, h2'']; exact c1
    have bn : W2.cell? ⟨N1, 3, none⟩ = some (.string D0) := by rw [cellv, h4']; rfl
    have fn : W2.frozen? ⟨N1, 3, none⟩ = false := by rw [frozv, h4']; rfl
    have H3 := Lib.hid h3''
    have H4 := Lib.hid h4'
    clear hcv hfv h1'' h2'' c1 h3'' h4'
    go_region_held3 (fun w' => w'.cell? ⟨sb, 2, none⟩ = some (.int .i64 ((k : Int) + 1)) ∧ w'.cell? ⟨sb, 6, none⟩ = some (.slice (some ⟨b, off, none⟩) n cap) ∧ w'.cell? ⟨b, off + k * 2 + 1, none⟩ = some (.string D1)) (go_keep) ((fail))
    rename_i hHeld2
    clear hHeld2 b2 b6 bb bn fn
    have HF3 := Lib.hid ((HF2.out.setCell (b := N1) (fun h => absurd (show N1 < w.heap.size from h) (by have := HN1.out; omega)) 3 (.string D1)).drew)
    have h5 : ((W2.setCell ⟨N1, 3, none⟩ (.string D1)).drew).heap[N]? = some (.cells #[.int .i64 0, .int .i64 0, .bool false, .string ⟨#[]⟩] 46 (0, 0)) := by
      rw [hp_drew, hp_setCell, if_neg hne]; exact H3.out
    have h6 : ((W2.setCell ⟨N1, 3, none⟩ (.string D1)).drew).heap[N1]? = some (.cells #[.int .i64 id, .int .i64 ((k : Int) + 1), .bool true, .string D1] 46 (0, 0)) := by
      rw [hp_drew, hp_setCell, if_pos rfl, H4.out]; rfl
    generalize (W2.setCell ⟨N1, 3, none⟩ (.string D1)).drew = W3 at HF3 h5 h6 ⊢
    have hcv := cellv W3
    have hfv := frozv W3
    go_wp2_with fail
    refine bodyPost_ret (v := CallM.val ⟨id, (k : Int) + 1, true, D1⟩) ?_ rfl ⟨by rw [hc.out]; rfl, ?_⟩
    · simp [results, Tryz.results52, go_sem, CallM.val, hp_setCell, h5, cellv]
    · have hb : N < w.heap.size → False := by rw [HN.out]; omega
      exact (((HF3.out.setCell hb _ _).setCell hb _ _).setCell hb _ _).setCell hb _ _
end Go.Proofs.YtkafmfdipmhleaaGreatDoor
