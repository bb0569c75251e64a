/-
  What is proved: contracts of how a saga moves: forward, Move, Call, Same.
-/
import Derived.Test.YtkafmfdipmhleaaGreatDoorSg
import Derived.Test.YtkafmfdipmhleaaGreatDoorRd
import Derived.Deep.DeepCutAuto
namespace Go.Proofs.YtkafmfdipmhleaaGreatDoor
open Go.RowKit

set_option maxHeartbeats 1000000 in
theorem forward_calls {w : World} {sb : Nat} {s : SagaM} (h : SagaAt w sb s) (hs : 1 ≤ s.step ∧ s.step ≤ 100) (reply : Int) :
    Calls Tryz.prog 73 #[.pointer (some ⟨sb, 0, none⟩), .int .i64 reply] w (MovePost w sb (s.forward reply)) := by
  by_cases hr : reply = 0
  · obtain ⟨sv, h1, h2⟩ := h
    obtain ⟨id, st, step, tries, due, steps⟩ := s
    simp only at hs
    have hsv : ∃ b off cap, sv = .slice (some ⟨b, off, none⟩) steps.length cap := by
      obtain ⟨b, off, cap, _, e, _⟩ := h2
      exact ⟨b, off, cap, e⟩
    have Ht := Lib.hid (fun (w' : World) (s' : SagaM) (hf : Fr (· = sb) w w') (hs : s'.steps = steps) => SagaAt.turn h1 h2 hf hs)
    simp only [sgCells] at h1
    clear h2
    obtain ⟨b, off, cap, rfl⟩ := hsv
    subst hr
    have hcv := cellv w
    have hfv := frozv w
    have hw : wrap64 (step + 1) = step + 1 := wrap_in _ (by omega)
    have Hw := Lib.hid hw
    clear hw
    have h15 : (w.setCell ⟨sb, 2, none⟩ (.int .i64 (step + 1))).heap[sb]? = some (.cells (sgCells ⟨id, st, step + 1, tries, due, steps⟩ (.slice (some ⟨b, off, none⟩) steps.length cap)) 88 (0, 0)) := by
      rw [hp_setCell, if_pos rfl, h1]; simp [sgCells]
    simp only [sgCells] at h15
    go_enter Tryz.func73, Tryz.ntmps73
    go_upto_region 3 with fail
    have hcv2 := cellv (w.setCell ⟨sb, 2, none⟩ (.int .i64 (step + 1)))
    go_quiet (fail)
    go_wp2_with fail
    · rename_i hlt
      have Hm : Hid (SagaM.forward ⟨id, st, step, tries, due, steps⟩ 0 = ⟨id, 3, 0, tries, due, steps⟩) := by show _ = _; simp [SagaM.forward, hlt]
      go_end0
      refine ⟨rfl, (((Fr.one _ _ _ _).drewN _).trans (Fr.one _ _ _ _)).trans (Fr.one _ _ _ _), ?_⟩
      rw [Hm.out]
      refine Ht.out _ _ ((((Fr.one _ _ _ _).drewN _).trans (Fr.one _ _ _ _)).trans (Fr.one _ _ _ _)) rfl ?_
      simp only [hp_setCell, hp_drewN, if_true, h1]
      simp [sgCells]
    · rename_i hlt
      have Hm : Hid (SagaM.forward ⟨id, st, step, tries, due, steps⟩ 0 = ⟨id, st, step + 1, tries, due, steps⟩) := by
        show _ = _
        have : ¬ (steps.length : Int) < step + 1 := by omega
        simp [SagaM.forward, this]
      go_end0
      refine ⟨rfl, (Fr.one _ _ _ _).drewN _, ?_⟩
      rw [Hm.out]
      refine Ht.out _ _ ((Fr.one _ _ _ _).drewN _) rfl ?_
      simp only [hp_setCell, hp_drewN, if_true, h1]
      simp [sgCells]
  · have hr' : (reply != 0) = true := by simpa using hr
    have hb := backward_calls h hs reply
    have Hb := Lib.hid hb
    have Hf : Hid (s.forward reply = s.backward) := by show _ = _; simp [SagaM.forward, hr]
    clear hb h hs hr
    rw [Hf.out]
    go_enter Tryz.func73, Tryz.ntmps73
    go_wp2_with (first
      | (go_at_call 74; refine Calls.mono Hb.out ?_; rintro e w2 ⟨rfl, hf2, hs2⟩)
      | fail)
    first | go_end0 | refine bodyPost_ret (results_none rfl _ _ _) rfl ?_
    exact ⟨rfl, hf2, hs2⟩

theorem Tryz.info139 : (Tryz.prog.info? 139).map (·.size) = some 3 := by kernel_rfl
set_option maxRecDepth 100000 in
set_option maxHeartbeats 1000000 in
theorem Move_calls {w : World} {sb : Nat} {s : SagaM} (h : SagaAt w sb s) (hst : s.st = 1 ∨ s.st = 2) (hs : 1 ≤ s.step ∧ s.step ≤ 100) (reply : Int) :
    Calls Tryz.prog 55 #[.pointer (some ⟨sb, 0, none⟩), .int .i64 reply] w (MovePost w sb (s.moved reply)) := by
  obtain ⟨sv, h1, h2⟩ := h
  obtain ⟨id, st, step, tries, due, steps⟩ := s
  simp only at hs hst
  have Ht := Lib.hid (fun (w' : World) (s' : SagaM) (hf : Fr (· = sb) w w') (hs : s'.steps = steps) => SagaAt.turn h1 h2 hf hs)
  simp only [sgCells] at h1
  clear h2
  have hcv := cellv w
  have hfv := frozv w
  have H139 : Hid ((#[Value.nilFunc, .func (.func 73) #[] #[], .func (.func 74) #[] #[]] : Array Value).all (·.oneCell') = true) := by
    show _ = _
    simp [Value.oneCell']
  rcases hst with rfl | rfl
  all_goals
    go_enter Tryz.func55, Tryz.ntmps55
    go_upto_region 1 with fail
    have hF : Fr (· = sb) w ((w.setCell ⟨sb, 4, none⟩ (.int .i64 0)).setCell ⟨sb, 5, none⟩ (.int .i64 0)) := (Fr.one _ _ _ _).trans (Fr.one _ _ _ _)
    have hS := Ht.out _ (SagaM.mk id _ step 0 0 steps) hF rfl (by
      simp only [hp_setCell, if_true, h1]
      simp [sgCells]; rfl)
    have h3 := hS
    generalize ((w.setCell ⟨sb, 4, none⟩ (.int .i64 0)).setCell ⟨sb, 5, none⟩ (.int .i64 0)) = W1 at hF hS h3 ⊢
    obtain ⟨sv1, h4, _⟩ := h3
    have HF := Lib.hid hF
    have HS := Lib.hid hS
    clear hcv hfv Ht h1 hF hS
    go_upto_region 2 with (first
      | (refine wpl_store_new rfl 139 (.tmp 4) (.tmp 13) rfl W1.heap.size #[Value.nilFunc, .func (.func 73) #[] #[], .func (.func 74) #[] #[]] #[Value.nilFunc, Value.nilFunc, Value.nilFunc] 139 rfl rfl rfl Tryz.info139 rfl H139.out ?_)
      | fail)
    simp only [Act.put]
    have hn := heap_alloc_new W1 (.cells #[Value.nilFunc, .func (.func 73) #[] #[], .func (.func 74) #[] #[]] 139)
    have HA : Hid (New W1 (W1.alloc (.cells #[Value.nilFunc, .func (.func 73) #[] #[], .func (.func 74) #[] #[]] 139))) := (Fr.refl _ _).alloc _
    have h5 := heap_alloc_keep (.cells #[Value.nilFunc, .func (.func 73) #[] #[], .func (.func 74) #[] #[]] 139) h4
    clear h4
    generalize W1.alloc (.cells #[Value.nilFunc, .func (.func 73) #[] #[], .func (.func 74) #[] #[]] 139) = W2 at hn HA h5 ⊢
    generalize W1.heap.size = N at hn ⊢
    simp only [sgCells] at h5
    have hcv := cellv W2
    have HS2 := Lib.hid (HS.out.new HA.out)
    have HF2 := Lib.hid (HF.out.trans (HA.out.mono (fun _ _ f => f.elim)))
    have hsn : ¬ N = sb := ne_of_kind hn h5 (by simp [kindOf])
    go_wp2_with (first
      | (go_at_call 73; refine Calls.mono (forward_calls HS2.out hs reply) ?_; rintro e w3 ⟨rfl, hf3, hs3⟩)
      | (go_at_call 74; refine Calls.mono (backward_calls HS2.out hs reply) ?_; rintro e w3 ⟨rfl, hf3, hs3⟩)
      | fail)
    go_end0
    exact ⟨rfl, HF2.out.trans hf3, hs3⟩
end Go.Proofs.YtkafmfdipmhleaaGreatDoor
